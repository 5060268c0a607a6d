/- Lemmas and walks that the proof of this claim uses: Tb34, D3n1D, D3q1, D3n1, D3n2, Tb35, Tb37, D3s1. -/
import Derived.Test.YtmjadkjcbaohbaaTopDates3
set_option linter.unusedVariables false
set_option linter.unusedSimpArgs false
namespace Go.Tb
open Go.RowKit
section
variable {P : Program} {n : Nat} {ops : Array Oper} {Q : Exit → Env → World → Prop} {ρ : Env} {w : World}
variable {d : Option Tmp} {ty : TypeId} {pos : String} {after : Array Edge} {g : Option (Nat × Bool)} {K : Value → World → Prop}
theorem RV.sliceLHM {t e m bt : Nat} {z : List Value} {x y u s : Operand} {A : Option Addr} {len cap : Nat} {l h q : Int} (hT : tyS P t = some (e, m, bt, z)) (hx : ev ρ x = some (.slice A len cap)) (hy : ev ρ y = some (.int .i64 l)) (hu : ev ρ u = some (.int .i64 h)) (hs' : ev ρ s = some (.int .i64 q)) (h0 : 0 ≤ l ∧ l ≤ h ∧ h ≤ q ∧ q ≤ cap) :
    RV P n ⟨d, .slice t x (some y) (some u) (some s), ty, pos, after, g⟩ ρ w (.slice (cutA A (q.toNat) m l.toNat) (h.toNat - l.toNat) (q.toNat - l.toNat)) := fun a ha => by
  obtain ⟨hu', i', zv, hi, hs, _, _, _⟩ := tyS_spec hT
  have h1 : 0 ≤ h := by omega
  have h2 : l ≤ (h.toNat : Int) := by omega
  have h3 : 0 ≤ q := by omega
  have h4 : h ≤ (q.toNat : Int) := by omega
  have h5 : h ≤ max q 0 := by omega
  have h6 : l ≤ max h 0 := by omega
  simp [execOp, ha.ev hx, ha.ev hy, ha.ev hu, ha.ev hs', Instr.sliceAt, Instr.slice, run_underlying hu', Instr.sliceBounds, Instr.sliceBound, asIntOf, h0.1, h0.2.1, h0.2.2.1, h0.2.2.2, h1, h2, h3, h4, h5, h6, sizeOf, typeInfo, hi, hs, cutA]
  try omega
theorem Mod.refl (w : World) (A : Option Addr) : Mod w w A := ⟨rfl, rfl, rfl, Nat.le_refl _, fun _ _ _ => rfl⟩
theorem Mod.trans {w w1 w2 : World} {A : Option Addr} (a : Mod w w1 A) (b : Mod w1 w2 A) : Mod w w2 A :=
  ⟨b.os.trans a.os, b.tape.trans a.tape, b.output.trans a.output, Nat.le_trans a.size b.size, fun k hk hn => (b.block k (Nat.lt_of_lt_of_le hk a.size) hn).trans (a.block k hk hn)⟩
theorem Mod.of_ext {w w1 : World} {A : Option Addr} (a : Ext w w1) : Mod w w1 A := ⟨a.os, a.tape, a.output, a.size, fun k hk hn => Below.block a k hk⟩
/-- append to a beginning of an owned slice, of so many elements that what lies there is long enough. -/
theorem OW.appendOver {α : Type} {enc : α → List Value} {l xs zs : List α} {t e m bt : Nat} {z : List Value} {x y : Operand} {b c cs q r : Nat} {As : Option Addr} (hT : tyS P t = some (e, m, bt, z)) (hx : ev ρ x = some (.slice (some ⟨b, 0, none⟩) q c)) (hq : q = l.length) (hy : ev ρ y = some (.slice As r cs)) (hr0 : r = xs.length)
    (own : Own w (some ⟨b, 0, none⟩) c e m ((l ++ zs).map enc)) (hA : ∃ a, As = some a) (src : Sl w As cs m (xs.map enc)) (hk : ∀ u, (enc u).length = m) (h1 : ∀ u, (enc u).all Value.oneCell' = true) (hm0 : Nat.blt 0 m = true) (hroom : xs.length ≤ zs.length)
    (k : ∀ w', Own w' (some ⟨b, 0, none⟩) c e m ((l ++ xs ++ zs.drop xs.length).map enc) → Mod w w' (some ⟨b, 0, none⟩) → K (.slice (some ⟨b, 0, none⟩) (l ++ xs).length c) w') :
    OW P n Q ⟨d, .call ⟨.builtin .append, #[x, y], #[t, t]⟩, ty, pos, after, g⟩ ρ w K := by
  subst hq hr0
  obtain ⟨hu, i, zv, hi, hs1, hs2, hs3, hs4⟩ := tyS_spec hT
  have hm0' : 0 < m := by simpa [Nat.blt_eq] using hm0
  subst hs1
  obtain ⟨a, rfl⟩ := hA
  rcases own.own.2 with ⟨hv, hn⟩ | ⟨g', cap, cur, hv, hbg, hg, hnc, hcm, hcs, htake⟩
  · injection hv with hv1; cases hv1
  · injection hv with hv1 hv2 hv3
    cases hv1
    subst hv3
    have hF : ∀ p : List α, (p.map enc).flatten.length = p.length * i.size := fun p => by rw [← List.flatMap_def, len_flatMap hk]
    have hol := hF l
    have hnl := hF xs
    have hzl := hF zs
    have hxr : ∀ r ∈ xs.map enc, r.length = i.size := fun r hr => by
      obtain ⟨u, _, rfl⟩ := List.mem_map.1 hr
      exact hk u
    have hcell : ∀ (j : Nat) (u : Value), (xs.map enc).flatten[j]? = some u → w.cell? (a.add j) = some u := by
      intro j u hj
      have hjl : j < xs.length * i.size := by rw [← hnl]; exact (List.getElem?_eq_some_iff.1 hj).1
      have hq : j / i.size < xs.length := (Nat.div_lt_iff_lt_mul hm0').2 hjl
      have hr : (xs.map enc)[j / i.size]? = some (enc xs[j / i.size]) := by simp [hq]
      obtain ⟨hl, _, hc⟩ := src.row (j / i.size) _ hr
      have hmod : j % i.size < i.size := Nat.mod_lt _ hm0'
      have hv : (enc xs[j / i.size])[j % i.size]? = some ((enc xs[j / i.size])[j % i.size]'(by omega)) := by simp [hl, hmod]
      have hf := flatten_row hxr (j / i.size) _ hr (j % i.size) _ hv
      have hjm : j / i.size * i.size + j % i.size = j := by rw [Nat.mul_comm]; exact Nat.div_add_mod j i.size
      rw [hjm, hj] at hf
      have := hc (j % i.size) _ hv
      simp only [elemPtr, Option.getD_some, add_add, hjm] at this
      rw [this, ← Option.some.inj hf]
    have hone : ∀ u ∈ (xs.map enc).flatten, u.oneCell' = true := by
      intro u hu'
      obtain ⟨r, hr, hur⟩ := List.mem_flatten.1 hu'
      obtain ⟨q, _, rfl⟩ := List.mem_map.1 hr
      exact List.all_eq_true.1 (h1 q) u hur
    have hlz : ((l ++ zs).map enc).length = l.length + zs.length := by simp
    rw [hlz] at htake hnc
    have hflat : ((l ++ zs).map enc).flatten = (l.map enc).flatten ++ (zs.map enc).flatten := by rw [List.map_append, List.flatten_append]
    rw [hflat] at htake
    have hlen2 : ((l.map enc).flatten ++ (zs.map enc).flatten).length = (l.length + zs.length) * i.size := by rw [List.length_append, hol, hzl, Nat.add_mul]
    -- what lies there is the list and the rest
    obtain ⟨rest, hrest⟩ : ∃ rest, cur.toList = (l.map enc).flatten ++ (zs.map enc).flatten ++ rest := ⟨cur.toList.drop ((l.length + zs.length) * i.size), by rw [← htake, List.take_append_drop]⟩
    have hxz : xs.length * i.size ≤ zs.length * i.size := Nat.mul_le_mul_right _ hroom
    have hcz : cur.size = (l.length + zs.length) * i.size + rest.length := by
      have := congrArg List.length hrest
      rw [List.length_append, hlen2] at this
      simpa using this
    have hfit : l.length * i.size + (xs.map enc).flatten.length ≤ cur.size := by rw [hnl, hcz, Nat.add_mul]; omega
    have hr := run_append_room (P := P) w t ty e i hu hi b l.length c cur hg a xs.length cs (xs.map enc).flatten hnl hcell hone (by omega) hfit
    refine OW.value (w' := w.setRow b (cur.toList.take (l.length * i.size) ++ (xs.map enc).flatten ++ cur.toList.drop (l.length * i.size + (xs.map enc).flatten.length)).toArray) (v := .slice (some ⟨b, 0, none⟩) (l.length + xs.length) c) (fun a ha => by
      simp only [execOp, resolve, ha.ev hx, ha.ev hy, Go.invoke, builtin] at hr ⊢
      simp [execOp, resolve, ha.ev hx, ha.ev hy, Go.invoke, builtin, hr]) ?_
    have hz2 : ((zs.drop xs.length).map enc).flatten = (zs.map enc).flatten.drop (xs.length * i.size) := by
      have e : zs.map enc = (zs.take xs.length).map enc ++ (zs.drop xs.length).map enc := by rw [← List.map_append, List.take_append_drop]
      have e2 : ((zs.take xs.length).map enc).flatten.length = xs.length * i.size := by rw [hF, List.length_take, Nat.min_eq_left hroom]
      rw [e, List.flatten_append, ← e2, List.drop_left]
    have hnew : cur.toList.take (l.length * i.size) ++ (xs.map enc).flatten ++ cur.toList.drop (l.length * i.size + (xs.map enc).flatten.length) = ((l ++ xs ++ zs.drop xs.length).map enc).flatten ++ rest := by
      rw [hrest, hnl, List.map_append, List.map_append, List.flatten_append, List.flatten_append, hz2, List.append_assoc (l.map enc).flatten]
      have t1 : List.take (l.length * i.size) ((l.map enc).flatten ++ ((zs.map enc).flatten ++ rest)) = (l.map enc).flatten := by rw [← hol, List.take_left]
      have t2 : List.drop (l.length * i.size + xs.length * i.size) ((l.map enc).flatten ++ ((zs.map enc).flatten ++ rest)) = (zs.map enc).flatten.drop (xs.length * i.size) ++ rest := by
        rw [← hol, ← List.drop_drop, List.drop_left, List.drop_append_of_le_length (by rw [hzl]; exact hxz)]
      rw [t1, t2]; simp [List.append_assoc]
    have hll : (l ++ xs ++ zs.drop xs.length).length = l.length + zs.length := by simp; omega
    have hrow : ∀ r ∈ (l ++ xs ++ zs.drop xs.length).map enc, r.length = i.size := fun r hr => by
      obtain ⟨u, _, rfl⟩ := List.mem_map.1 hr
      exact hk u
    have := k (w.setRow b (cur.toList.take (l.length * i.size) ++ (xs.map enc).flatten ++ cur.toList.drop (l.length * i.size + (xs.map enc).flatten.length)).toArray) ⟨⟨?_, .inr ⟨b, c, _, rfl, hbg, setRow_heap w b cur _ e _ hg, ?_, hcm, ?_, ?_⟩⟩, hrow⟩ ⟨rfl, rfl, rfl, by simp, fun k _ hk => setRow_other w b k _ (fun e => hk (by simp [blkOf, e]))⟩
    · rw [List.length_append] at this; exact this
    · rw [hF, List.length_map]
    · rw [List.length_map, hll]; exact hnc
    · rw [hnew]
      simp only [List.size_toArray, List.length_append]
      rw [hF, hll, ← hcs, hcz]
    · rw [hnew, List.length_map, ← hF]
      exact List.take_left
end
section
variable {α : Type} {w : World} {A : Option Addr} {c e k : Nat} {enc : α → List Value} {l : List α}
theorem Own.at0 (h : Own w A c e k (l.map enc)) (h0 : 0 < l.length) : ∃ b, A = some ⟨b, 0, none⟩ := by
  rcases h.own.2 with ⟨hv, hn⟩ | ⟨g, cap, cur, hv, r⟩
  · simp at hn; simp [hn] at h0
  · injection hv with hv1
    exact ⟨g, hv1⟩
end
section
variable {w0 w w' : World} {L : List Ck}
end
end Go.Tb

set_option linter.unusedVariables false
namespace Go.D3
open Go.Tb Go.Core
def core_both (a0 : Core) (a1 : Core) : Option Int :=
  bnd (core_Validate a0) fun r1 =>
  if r1 = 0 then
    bnd (core_Validate a1) fun r2 =>
    if r2 = 0 then
      if a0.layers = a1.layers then
        some ((0 : Int))
      else
        some ((1 : Int))
    else
      some r2
  else
    some r1
def slices_Grow_Bound_k1 (l1 : List Bound) : Option ((List Bound)) :=
  some l1
def slices_Grow_Bound (a1 : Int) : Option ((List Bound)) :=
  if a1 < 0 then
    none
  else
    gd (InR (0 - 0)) <|
    gd (InR (a1 - (0 - 0))) <|
    if (0 : Int) < (a1 - (0 - 0)) then
      gd (1 ≤ a1 - (0 - 0) ∧ (a1 - (0 - 0)) ≤ 1000000) <|
      gd (0 ≤ ((0 : Int)) ∧ ((0 : Int)) ≤ (((List.replicate (Int.toNat (a1 - (0 - 0))) ((⟨0, 0, 0⟩ : Bound) : Bound))).length : Int)) <|
      slices_Grow_Bound_k1 (((List.take 0 ((List.replicate (Int.toNat (a1 - (0 - 0))) ((⟨0, 0, 0⟩ : Bound) : Bound))))))
    else
      slices_Grow_Bound_k1 ((([] : List Bound)))
def slices_Concat_Bound_k1 (l1 : List Bound) : Option ((List Bound)) :=
  some l1
def slices_Concat_Bound_B1 (a0 : List (List Bound)) (rec1 : Int → (List Bound) → Option ((List Bound))) (t27_1 : Int) (l2 : List Bound) : Option ((List Bound)) :=
  if t27_1 < ((a0.length : Int)) then
    ix a0 t27_1 fun x1 =>
    gd (l2.length + x1.length ≤ 1000000) <|
    gd (InR (t27_1 + 1)) <|
    rec1 ((t27_1 + 1)) (((l2 ++ x1)))
  else
    slices_Concat_Bound_k1 l2
def slices_Concat_Bound_L1 (a0 : List (List Bound)) : Nat → Int → (List Bound) → Option ((List Bound))
  | 0, _, _ => none
  | n_ + 1, t27_1, l2 => slices_Concat_Bound_B1 a0 (slices_Concat_Bound_L1 a0 n_) t27_1 l2
theorem slices_Concat_Bound_L1_s {a0 : List (List Bound)} {m_ : Nat} {t27_1 : Int} {l2 : List Bound} {res : (List Bound)} (h : slices_Concat_Bound_L1 a0 m_ t27_1 l2 = some res) : ∃ k, m_ = k + 1 ∧ slices_Concat_Bound_B1 a0 (slices_Concat_Bound_L1 a0 k) t27_1 l2 = some res := by
  cases m_ with
  | zero => cases h
  | succ k => exact ⟨k, rfl, h⟩
def slices_Concat_Bound_k2 (a0 : List (List Bound)) (t3_1 : Int) : Option ((List Bound)) :=
  bnd (slices_Grow_Bound t3_1) fun r1 =>
  slices_Concat_Bound_L1 a0 FU (((0 : Int))) r1
def slices_Concat_Bound_B2 (a0 : List (List Bound)) (rec2 : Int → Int → Option ((List Bound))) (t3_2 : Int) (t11_1 : Int) : Option ((List Bound)) :=
  if t11_1 < ((a0.length : Int)) then
    ix a0 t11_1 fun x2 =>
    gd (InR (t3_2 + ((x2.length : Int)))) <|
    if (t3_2 + ((x2.length : Int))) < 0 then
      none
    else
      gd (InR (t11_1 + 1)) <|
      rec2 ((t3_2 + ((x2.length : Int)))) ((t11_1 + 1))
  else
    slices_Concat_Bound_k2 a0 t3_2
def slices_Concat_Bound_L2 (a0 : List (List Bound)) : Nat → Int → Int → Option ((List Bound))
  | 0, _, _ => none
  | n_ + 1, t3_2, t11_1 => slices_Concat_Bound_B2 a0 (slices_Concat_Bound_L2 a0 n_) t3_2 t11_1
theorem slices_Concat_Bound_L2_s {a0 : List (List Bound)} {m_ : Nat} {t3_2 : Int} {t11_1 : Int} {res : (List Bound)} (h : slices_Concat_Bound_L2 a0 m_ t3_2 t11_1 = some res) : ∃ k, m_ = k + 1 ∧ slices_Concat_Bound_B2 a0 (slices_Concat_Bound_L2 a0 k) t3_2 t11_1 = some res := by
  cases m_ with
  | zero => cases h
  | succ k => exact ⟨k, rfl, h⟩
def slices_Concat_Bound (a0 : List (List Bound)) : Option ((List Bound)) :=
  slices_Concat_Bound_L2 a0 FU (((0 : Int))) (((0 : Int)))
def core_Both (a0 : Core) (a1 : Core) : Option (Core × Int) :=
  bnd (core_both a0 a1) fun r1 =>
  if r1 = 0 then
    gd (InR (((a0.bounds.length : Int)) + ((a1.bounds.length : Int)))) <|
    if (20 : Int) < (((a0.bounds.length : Int)) + ((a1.bounds.length : Int))) then
      some ((⟨0, []⟩ : Core), (3 : Int))
    else
      bnd (slices_Concat_Bound (([a0.bounds, a1.bounds] : List (List Bound)))) fun r2 =>
      some ((⟨a0.layers, r2⟩ : Core), (0 : Int))
  else
    some ((⟨0, []⟩ : Core), r1)
def ref03_two (a0 : Core) (a1 : Core) : Option Int :=
  bnd (ref03_Validate a0) fun r1 =>
  if r1 = 0 then
    bnd (ref03_Validate a1) fun r2 =>
    if r2 = 0 then
      if a0.layers = a1.layers then
        some ((0 : Int))
      else
        some ((1 : Int))
    else
      some r2
  else
    some r1
def ref03_Both (a0 : Core) (a1 : Core) : Option (Core × Int) :=
  bnd (ref03_two a0 a1) fun r1 =>
  if r1 = 0 then
    gd (InR (((a0.bounds.length : Int)) + ((a1.bounds.length : Int)))) <|
    if (20 : Int) < (((a0.bounds.length : Int)) + ((a1.bounds.length : Int))) then
      some ((⟨0, []⟩ : Core), (3 : Int))
    else
      bnd (ref03_Copy a0) fun r2 =>
      gd (r2.bounds.length + a1.bounds.length ≤ 1000000) <|
      some ((⟨r2.layers, (r2.bounds ++ a1.bounds)⟩ : Core), (0 : Int))
  else
    some ((⟨0, []⟩ : Core), r1)
end Go.D3

set_option linter.unusedVariables false
set_option linter.unusedSimpArgs false
namespace Go.D3
open Go.Tb Go.Core
theorem ixz {α β : Type} {l : List α} {k : α → Option β} {x : α} (h : l[0]? = some x) : ix l 0 k = k x := ix_nat (i := 0) h
theorem ixo {α β : Type} {l : List α} {k : α → Option β} {x : α} (h : l[1]? = some x) : ix l 1 k = k x := ix_nat (i := 1) h
theorem growB_eq (n : Nat) (h : n ≤ 1000) : slices_Grow_Bound (n : Int) = some [] := by
  unfold slices_Grow_Bound slices_Grow_Bound_k1
  rw [if_neg (by omega), gd_pos (by omega), gd_pos (by omega)]
  by_cases h0 : n = 0
  · rw [if_neg (by omega)]
  · rw [if_pos (by omega), gd_pos (by omega), gd_pos (by simp)]; rfl
theorem concatB_eq (a b : List Bound) (h : a.length + b.length ≤ 1000) : slices_Concat_Bound [a, b] = some (a ++ b) := by
  unfold slices_Concat_Bound
  have e1 : ∀ k, slices_Concat_Bound_L2 [a, b] (k + 3) 0 0 = slices_Concat_Bound_k2 [a, b] ((a.length + b.length : Nat) : Int) := by
    intro k
    show slices_Concat_Bound_B2 [a, b] (slices_Concat_Bound_L2 [a, b] (k + 2)) 0 0 = _
    unfold slices_Concat_Bound_B2
    rw [if_pos (by simp), ixz (x := a) rfl, gd_pos (by omega), if_neg (by omega), gd_pos (by omega)]
    show slices_Concat_Bound_B2 [a, b] (slices_Concat_Bound_L2 [a, b] (k + 1)) _ 1 = _
    unfold slices_Concat_Bound_B2
    rw [if_pos (by simp), ixo (x := b) rfl, gd_pos (by omega), if_neg (by omega), gd_pos (by omega)]
    show slices_Concat_Bound_B2 [a, b] (slices_Concat_Bound_L2 [a, b] k) _ 2 = _
    unfold slices_Concat_Bound_B2
    rw [if_neg (by simp)]
    congr 1; omega
  have e2 : ∀ k, slices_Concat_Bound_L1 [a, b] (k + 3) 0 [] = some (a ++ b) := by
    intro k
    show slices_Concat_Bound_B1 [a, b] (slices_Concat_Bound_L1 [a, b] (k + 2)) 0 [] = _
    unfold slices_Concat_Bound_B1
    rw [if_pos (by simp), ixz (x := a) rfl, gd_pos (by simp; omega), gd_pos (by omega)]
    show slices_Concat_Bound_B1 [a, b] (slices_Concat_Bound_L1 [a, b] (k + 1)) 1 _ = _
    unfold slices_Concat_Bound_B1
    rw [if_pos (by simp), ixo (x := b) rfl, gd_pos (by simp; omega), gd_pos (by omega)]
    show slices_Concat_Bound_B1 [a, b] (slices_Concat_Bound_L1 [a, b] k) 2 _ = _
    unfold slices_Concat_Bound_B1
    rw [if_neg (by simp)]; rfl
  have f : FU = (FU - 3) + 3 := by have := FU_pos; omega
  rw [f, e1]
  unfold slices_Concat_Bound_k2
  rw [bnd_eq (growB_eq _ (by omega)), f, e2]
def twoE (c d : Core) : Int := if validate c = 0 then (if validate d = 0 then (if c.layers = d.layers then 0 else 1) else validate d) else validate c
def bothR (c d : Core) : Core × Int := if twoE c d = 0 then (if (20 : Int) < (c.bounds.length : Int) + (d.bounds.length : Int) then (⟨0, []⟩, 3) else (⟨c.layers, c.bounds ++ d.bounds⟩, 0)) else (⟨0, []⟩, twoE c d)
section
variable {c d : Core}
theorem both_eq (hc : c.bounds.length ≤ 100) (hd : d.bounds.length ≤ 100) : core_both c d = some (twoE c d) ∧ ref03_two c d = some (twoE c d) := by
  unfold core_both ref03_two twoE
  rw [bnd_eq (Validate_eq c hc), bnd_eq (rValidate_eq c hc), bnd_eq (Validate_eq d hd), bnd_eq (rValidate_eq d hd)]
  by_cases h1 : validate c = 0
  · rw [if_pos h1, if_pos h1]
    by_cases h2 : validate d = 0
    · rw [if_pos h2, if_pos h2]
      by_cases h3 : c.layers = d.layers
      · rw [if_pos h3, if_pos h3]; exact ⟨rfl, rfl⟩
      · rw [if_neg h3, if_neg h3]; exact ⟨rfl, rfl⟩
    · rw [if_neg h2, if_neg h2]; exact ⟨rfl, rfl⟩
  · rw [if_neg h1, if_neg h1]; exact ⟨rfl, rfl⟩
theorem Both_eq (hc : c.bounds.length ≤ 100) (hd : d.bounds.length ≤ 100) : core_Both c d = some (bothR c d) ∧ ref03_Both c d = some (bothR c d) := by
  obtain ⟨e1, e2⟩ := both_eq hc hd
  unfold core_Both ref03_Both bothR
  rw [bnd_eq e1, bnd_eq e2]
  by_cases h : twoE c d = 0
  · rw [if_pos h, if_pos h, if_pos h, gd_pos (by omega), gd_pos (by omega)]
    by_cases h2 : (20 : Int) < (c.bounds.length : Int) + (d.bounds.length : Int)
    · rw [if_pos h2, if_pos h2, if_pos h2]; exact ⟨rfl, rfl⟩
    · rw [if_neg h2, if_neg h2, if_neg h2, bnd_eq (concatB_eq _ _ (by omega)), bnd_eq (Copy_eq c (by omega)), gd_pos (by omega)]; exact ⟨rfl, rfl⟩
  · rw [if_neg h, if_neg h, if_neg h]; exact ⟨rfl, rfl⟩
theorem bothR_small (hc : c.bounds.length ≤ 100) (hd : d.bounds.length ≤ 100) : (bothR c d).1.bounds.length ≤ 100 := by
  unfold bothR
  split
  · split
    · simp
    · rw [List.length_append]; omega
  · simp
theorem both_ok (h : (bothR c d).2 = 0) : validate c = 0 ∧ validate d = 0 ∧ c.layers = d.layers ∧ c.bounds.length + d.bounds.length ≤ 20 ∧ (bothR c d).1 = ⟨c.layers, c.bounds ++ d.bounds⟩ := by
  unfold bothR at h ⊢
  split at h
  · rename_i h2
    split at h
    · cases h
    · rename_i h3
      rw [if_pos h2, if_neg h3]
      unfold twoE at h2
      split at h2
      · rename_i a
        split at h2
        · rename_i b
          split at h2
          · rename_i e
            exact ⟨a, b, e, by omega, rfl⟩
          · cases h2
        · rename_i b; exact absurd h2 b
      · rename_i a; exact absurd h2 a
  · rename_i h2; exact absurd h h2
theorem both_valid (h1 : validate c = 0) (h2 : validate d = 0) (h3 : c.layers = d.layers) (h4 : c.bounds.length + d.bounds.length ≤ 20) : validate ⟨c.layers, c.bounds ++ d.bounds⟩ = 0 := by
  have a := validate_ok h1
  have b := validate_ok h2
  unfold validate
  have e1 : within c.layers 1 8 = true := Go.Core.within_iff.2 ⟨a.1, a.2.1⟩
  show (if within c.layers 1 8 = false then (1 : Int) else if 20 < ((c.bounds ++ d.bounds).length : Int) then 3 else if (c.bounds ++ d.bounds).all (fun x => right x c.layers) then 0 else 1) = 0
  rw [if_neg (by rw [e1]; simp), if_neg (by rw [List.length_append]; omega), if_pos]
  rw [List.all_append, Bool.and_eq_true, List.all_eq_true, List.all_eq_true]
  exact ⟨a.2.2.2, fun x hx => by rw [h3]; exact b.2.2.2 x hx⟩
end
end Go.D3

set_option linter.unusedVariables false
set_option linter.unusedSimpArgs false
namespace Go.D3
open Go.Tb Go.Proofs Go.RowKit Go.Core
theorem Tc74 : callable Try.prog 74 = true := by kernel_rfl
theorem Tc75 : callable Try.prog 75 = true := by kernel_rfl
theorem Tc88 : callable Try.prog 88 = true := by kernel_rfl
theorem Ts102 : tyS Try.prog 102 = some (22, 1, 24, [.slice none 0 0]) := by kernel_rfl
theorem Tu3 : Try.prog.underlying 3 = some (.int .i64) := by kernel_rfl
set_option maxRecDepth 20000 in
set_option maxHeartbeats 1000000 in
theorem core_both_ok {a0 : Core} {a1 : Core} {A_a0_bounds : Option Addr} {c_a0_bounds : Nat} {A_a1_bounds : Option Addr} {c_a1_bounds : Nat} {w : World} {res : Int} (h_a0_bounds : Sl w A_a0_bounds c_a0_bounds 3 (a0.bounds.map encBound)) (h_a1_bounds : Sl w A_a1_bounds c_a1_bounds 3 (a1.bounds.map encBound)) (F : core_both a0 a1 = some res) : Calls Try.prog 74 #[.agg #[.int .i64 a0.layers, .slice A_a0_bounds a0.bounds.length c_a0_bounds], .agg #[.int .i64 a1.layers, .slice A_a1_bounds a1.bounds.length c_a1_bounds]] w (Rt w (.int .i64 res)) := by
  refine calls_of_cw (args := [.agg #[.int .i64 a0.layers, .slice A_a0_bounds a0.bounds.length c_a0_bounds], .agg #[.int .i64 a1.layers, .slice A_a1_bounds a1.bounds.length c_a1_bounds]]) Try.func74 rfl rfl rfl rfl ?_
  have H := Hp.start w
  have R0 := H.ext
  unfold core_both at F
  refine CW.seq fun K1 hK1 => ?_
  refine CW.region ?_
  refine LW.go rfl rfl (OW.box rfl fun b1 w1 N1 => ?_)
  replace H := H.new N1 N1.blk
  replace R0 := H.ext
  refine LW.go rfl rfl (OW.box rfl fun b2 w2 N2 => ?_)
  replace H := H.new N2 N2.blk
  replace R0 := H.ext
  refine LW.pure rfl rfl (RV.assign rfl) ?_
  refine LW.nil (hK1 _ _ ?_)
  refine CW.seq fun K2 hK2 => ?_
  refine CW.seq fun K3 hK3 => ?_
  obtain ⟨r1, hr1, F⟩ := bnd_some F
  refine CW.region ?_
  refine LW.pure rfl rfl (RV.loadA [.int .i64 a0.layers, .slice A_a0_bounds a0.bounds.length c_a0_bounds] Tk24 rfl (H.blk 1 rfl).cells rfl rfl) ?_
  refine LW.go rfl rfl (OW.call Tc36 rfl (core_Validate_ok (a0 := a0) (h_a0_bounds.ext R0) hr1) ?_)
  rintro _ w3 ⟨rfl, E1⟩
  refine ⟨_, rfl, ?_⟩
  replace H := H.grow E1
  replace R0 := H.ext
  refine LW.pure rfl rfl (RV.assign rfl) ?_
  refine LW.nil (hK3 _ _ ?_)
  refine CW.seq fun K4 hK4 => ?_
  refine CW.region ?_
  refine LW.pure rfl rfl (RV.move rfl) ?_
  refine LW.pure rfl rfl (RV.nei rfl rfl) ?_
  refine LW.nil (hK4 _ _ ?_)
  by_cases hp1 : r1 = 0
  ·
    replace F := ite_y hp1 F
    have hq1 := dec_t hp1
    refine CW.condF rfl (not_f hq1) ?_
    refine CW.skip (hK2 _ _ ?_)
    refine CW.seq fun K5 hK5 => ?_
    refine CW.seq fun K6 hK6 => ?_
    obtain ⟨r2, hr2, F⟩ := bnd_some F
    refine CW.region ?_
    refine LW.pure rfl rfl (RV.loadA [.int .i64 a1.layers, .slice A_a1_bounds a1.bounds.length c_a1_bounds] Tk24 rfl (H.blk 0 rfl).cells rfl rfl) ?_
    refine LW.go rfl rfl (OW.call Tc36 rfl (core_Validate_ok (a0 := a1) (h_a1_bounds.ext R0) hr2) ?_)
    rintro _ w4 ⟨rfl, E2⟩
    refine ⟨_, rfl, ?_⟩
    replace H := H.grow E2
    replace R0 := H.ext
    refine LW.pure rfl rfl (RV.assign rfl) ?_
    refine LW.nil (hK6 _ _ ?_)
    refine CW.seq fun K7 hK7 => ?_
    refine CW.region ?_
    refine LW.pure rfl rfl (RV.move rfl) ?_
    refine LW.pure rfl rfl (RV.nei rfl rfl) ?_
    refine LW.nil (hK7 _ _ ?_)
    by_cases hp2 : r2 = 0
    ·
      replace F := ite_y hp2 F
      have hq2 := dec_t hp2
      refine CW.condF rfl (not_f hq2) ?_
      refine CW.skip (hK5 _ _ ?_)
      refine CW.seq fun K8 hK8 => ?_
      refine CW.seq fun K9 hK9 => ?_
      refine CW.region ?_
      refine LW.pure rfl rfl (RV.fieldAddr Tf24_0 rfl) ?_
      refine LW.pure rfl rfl (RV.load1 Tk3 rfl ((H.blk 1 rfl).cells.off 0) rfl) ?_
      refine LW.pure rfl rfl (RV.fieldAddr Tf24_0 rfl) ?_
      refine LW.pure rfl rfl (RV.load1 Tk3 rfl ((H.blk 0 rfl).cells.off 0) rfl) ?_
      refine LW.pure rfl rfl (RV.nei rfl rfl) ?_
      refine LW.nil (hK9 _ _ ?_)
      by_cases hp3 : a0.layers = a1.layers
      ·
        replace F := ite_y hp3 F
        have hq3 := dec_t hp3
        refine CW.condF rfl (not_f hq3) ?_
        refine CW.skip (hK8 _ _ ?_)
        refine CW.seq fun K10 hK10 => ?_
        refine CW.region ?_
        refine LW.pure rfl rfl (RV.assign rfl) ?_
        refine LW.nil (hK10 _ _ ?_)
        refine CW.ret ?_
        obtain rfl := Option.some.inj F
        refine ⟨_, (ResOK.one rfl), ?_⟩
        refine ⟨(by first | rfl | simp), R0⟩
      ·
        replace F := ite_n hp3 F
        have hq3 := dec_f hp3
        refine CW.condT rfl (not_t hq3) ?_
        refine CW.seq fun K11 hK11 => ?_
        refine CW.region ?_
        refine LW.pure rfl rfl (RV.assign rfl) ?_
        refine LW.nil (hK11 _ _ ?_)
        refine CW.ret ?_
        obtain rfl := Option.some.inj F
        refine ⟨_, (ResOK.one rfl), ?_⟩
        refine ⟨(by first | rfl | simp), R0⟩
    ·
      replace F := ite_n hp2 F
      have hq2 := dec_f hp2
      refine CW.condT rfl (not_t hq2) ?_
      refine CW.seq fun K12 hK12 => ?_
      refine CW.region ?_
      refine LW.pure rfl rfl (RV.move rfl) ?_
      refine LW.pure rfl rfl (RV.assign rfl) ?_
      refine LW.nil (hK12 _ _ ?_)
      refine CW.ret ?_
      obtain rfl := Option.some.inj F
      refine ⟨_, (ResOK.one rfl), ?_⟩
      refine ⟨(by first | rfl | simp), R0⟩
  ·
    replace F := ite_n hp1 F
    have hq1 := dec_f hp1
    refine CW.condT rfl (not_t hq1) ?_
    refine CW.seq fun K13 hK13 => ?_
    refine CW.region ?_
    refine LW.pure rfl rfl (RV.move rfl) ?_
    refine LW.pure rfl rfl (RV.assign rfl) ?_
    refine LW.nil (hK13 _ _ ?_)
    refine CW.ret ?_
    obtain rfl := Option.some.inj F
    refine ⟨_, (ResOK.one rfl), ?_⟩
    refine ⟨(by first | rfl | simp), R0⟩
set_option maxRecDepth 20000 in
set_option maxHeartbeats 1000000 in
theorem slices_Grow_Bound_ok {a1 : Int} {w : World} {res : (List Bound)} (F : slices_Grow_Bound a1 = some res) : Calls Try.prog 88 #[.slice none 0 0, .int .i64 a1] w (fun e w' => ∃ (A0 : Option Addr) (c1 : Nat), e = .returned (.slice A0 res.length c1) ∧ Hp w w' [.own A0 c1 26 3 (List.map encBound res)]) := by
  refine calls_of_cw (args := [.slice none 0 0, .int .i64 a1]) Try.func88 rfl rfl rfl rfl ?_
  have H := Hp.start w
  have R0 := H.ext
  unfold slices_Grow_Bound at F
  refine CW.seq fun K1 hK1 => ?_
  refine CW.region ?_
  refine LW.pure rfl rfl (RV.assign rfl) ?_
  refine LW.nil (hK1 _ _ ?_)
  refine CW.seq fun K2 hK2 => ?_
  refine CW.seq fun K3 hK3 => ?_
  refine CW.region ?_
  refine LW.pure rfl rfl (RV.move rfl) ?_
  refine LW.pure rfl rfl (RV.lss rfl rfl) ?_
  refine LW.nil (hK3 _ _ ?_)
  by_cases hp1 : a1 < 0
  ·
    replace F := ite_y hp1 F
    have hq1 := dec_t hp1
    refine CW.condT rfl hq1 ?_
    cases F
  ·
    replace F := ite_n hp1 F
    have hq1 := dec_f hp1
    refine CW.condF rfl hq1 ?_
    refine CW.skip (hK2 _ _ ?_)
    refine CW.seqJ (fun ρ wl1 => (∃ (l1 : List Bound) (Al1 : Option Addr) (cl1 : Nat), slices_Grow_Bound_k1 l1 = some res ∧ ρ = [(0, .slice Al1 l1.length cl1), (4, .slice none 0 0)] ∧ Hp w wl1 [.own Al1 cl1 26 3 (List.map encBound l1)])) ?_ ?_
    ·
      rintro _ wl1 ⟨l1, Al1, cl1, F, rfl, H⟩
      have R0 := H.ext
      unfold slices_Grow_Bound_k1 at F
      refine CW.seq fun K4 hK4 => ?_
      refine CW.region ?_
      refine LW.pure rfl rfl (RV.move rfl) ?_
      refine LW.pure rfl rfl (RV.assign rfl) ?_
      refine LW.nil (hK4 _ _ ?_)
      refine CW.ret ?_
      obtain rfl := Option.some.inj F
      refine ⟨_, (ResOK.one rfl), ?_⟩
      exact ⟨Al1, cl1, (by first | rfl | (simp; done) | (simp; omega)), H⟩
    ·
      intro K5 hK5 jK18
      refine CW.seq fun K6 hK6 => ?_
      obtain ⟨hg1, F⟩ := gd_some F
      obtain ⟨hg2, F⟩ := gd_some F
      refine CW.region ?_
      refine LW.pure rfl rfl (RV.move rfl) ?_
      refine LW.pure rfl rfl (RV.move rfl) ?_
      refine LW.pure rfl rfl (RV.cap Ts22 rfl) ?_
      refine LW.pure rfl rfl (RV.move rfl) ?_
      refine LW.pure rfl rfl (RV.len Ts22 rfl) ?_
      refine LW.pure rfl rfl (RV.sub rfl rfl hg1) ?_
      refine LW.pure rfl rfl (RV.sub rfl rfl hg2) ?_
      refine LW.pure rfl rfl (RV.assign rfl) ?_
      refine LW.nil (hK6 _ _ ?_)
      refine CW.seq fun K7 hK7 => ?_
      refine CW.region ?_
      refine LW.pure rfl rfl (RV.move rfl) ?_
      refine LW.pure rfl rfl (RV.gtr rfl rfl) ?_
      refine LW.nil (hK7 _ _ ?_)
      by_cases hp2 : (0 : Int) < (a1 - (0 - 0))
      ·
        replace F := ite_y hp2 F
        have hq2 := dec_t hp2
        refine CW.condT rfl hq2 ?_
        obtain ⟨hg3, F⟩ := gd_some F
        obtain ⟨hg4, F⟩ := gd_some F
        refine CW.region ?_
        refine LW.pure rfl rfl (RV.move rfl) ?_
        refine LW.pure rfl rfl (RV.move rfl) ?_
        refine LW.pure rfl rfl (RV.cap Ts22 rfl) ?_
        refine LW.pure rfl rfl (RV.sliceHi Ts22 rfl rfl (by decide)) ?_
        refine LW.pure rfl rfl (RV.move rfl) ?_
        refine LW.go rfl rfl (OW.appendZ (enc := encBound) ((⟨0, 0, 0⟩ : Bound) : Bound) Ts22 Tu3 rfl rfl rfl rfl (fun _ => rfl) rfl hg3 (by decide) fun b1 c2 w1 O1 N1 E1 => ?_)
        replace H : Hp w w1 [.own (some ⟨b1, 0, none⟩) c2 26 3 (List.map encBound ((List.replicate (Int.toNat (a1 - (0 - 0))) ((⟨0, 0, 0⟩ : Bound) : Bound))))] := H.newOwn E1 O1 (by intro a ha; cases ha; exact Nat.le_of_eq N1.symm)
        replace R0 := H.ext
        refine LW.pure rfl rfl (RV.move rfl) ?_
        refine LW.pure rfl rfl (RV.len Ts22 rfl) ?_
        refine LW.pure rfl rfl (RV.cutH (l := (List.replicate (Int.toNat (a1 - (0 - 0))) ((⟨0, 0, 0⟩ : Bound) : Bound))) Ts22 rfl rfl hg4 (H.own 0 rfl).sl.le rfl) ?_
        replace H : Hp w w1 [.own (some ⟨b1, 0, none⟩) c2 26 3 (List.map encBound ((List.take 0 ((List.replicate (Int.toNat (a1 - (0 - 0))) ((⟨0, 0, 0⟩ : Bound) : Bound))))))] := H.weaken 0 rfl (y := .own (some ⟨b1, 0, none⟩) c2 26 3 (List.map encBound ((List.take 0 ((List.replicate (Int.toNat (a1 - (0 - 0))) ((⟨0, 0, 0⟩ : Bound) : Bound))))))) (Own.shrink (rows := List.map encBound (List.take 0 ((List.replicate (Int.toNat (a1 - (0 - 0))) ((⟨0, 0, 0⟩ : Bound) : Bound))))) (news := List.map encBound (List.drop 0 ((List.replicate (Int.toNat (a1 - (0 - 0))) ((⟨0, 0, 0⟩ : Bound) : Bound))))) (by rw [← List.map_append, List.take_append_drop]; exact (H.own 0 rfl)) (by simp)) (fun _ h => h)
        replace R0 := H.ext
        refine LW.pure rfl rfl (RV.assign rfl) ?_
        refine LW.nil (jK18 _ _ ⟨_, ?_, ⟨((List.take 0 ((List.replicate (Int.toNat (a1 - (0 - 0))) ((⟨0, 0, 0⟩ : Bound) : Bound))))), (some ⟨b1, 0, none⟩), c2, F, rfl, H⟩⟩)
        exact ⟨(look_slice rfl (by first | rfl | (simp; done) | (simp; omega))), rfl, trivial⟩
      ·
        replace F := ite_n hp2 F
        have hq2 := dec_f hp2
        refine CW.condF rfl hq2 ?_
        replace H := H.nilOwn 26 3
        replace R0 := H.ext
        refine CW.skip (jK18 _ _ ⟨_, ?_, ⟨(([] : List Bound)), none, 0, F, rfl, H⟩⟩)
        exact ⟨(look_slice rfl (by first | rfl | (simp; done) | (simp; omega))), rfl, trivial⟩
set_option maxRecDepth 20000 in
set_option maxHeartbeats 1000000 in
theorem slices_Concat_Bound_ok {a0 : List (List Bound)} {A_a0 : Option Addr} {c_a0 : Nat} {w : World} {res : (List Bound)} (h_a0 : Sl2 w A_a0 c_a0 3 encBound a0) (F : slices_Concat_Bound a0 = some res) : Calls Try.prog 75 #[.slice A_a0 a0.length c_a0] w (fun e w' => ∃ (A1 : Option Addr) (c1 : Nat), e = .returned (.slice A1 res.length c1) ∧ Hp w w' [.own A1 c1 26 3 (List.map encBound res)]) := by
  refine calls_of_cw (args := [.slice A_a0 a0.length c_a0]) Try.func75 rfl rfl rfl rfl ?_
  have H := Hp.start w
  have R0 := H.ext
  unfold slices_Concat_Bound at F
  refine CW.seq fun K1 hK1 => ?_
  refine CW.region ?_
  refine LW.pure rfl rfl (RV.assign rfl) ?_
  refine LW.nil (hK1 _ _ ?_)
  refine CW.seq fun K2 hK2 => ?_
  refine CW.region ?_
  refine LW.pure rfl rfl (RV.assign rfl) ?_
  refine LW.nil (hK2 _ _ ?_)
  refine CW.seqJ (fun ρ wl1 => (∃ (t3_1 : Int), slices_Concat_Bound_k2 a0 t3_1 = some res ∧ ρ = [(0, .slice A_a0 a0.length c_a0), (2, .slice none 0 0), (3, .int .i64 t3_1)] ∧ Hp w wl1 [])) ?_ ?_
  ·
    rintro _ wl1 ⟨t3_1, F, rfl, H⟩
    have R0 := H.ext
    unfold slices_Concat_Bound_k2 at F
    refine CW.seq fun K3 hK3 => ?_
    obtain ⟨r1, hr1, F⟩ := bnd_some F
    refine CW.region ?_
    refine LW.pure rfl rfl (RV.move rfl) ?_
    refine LW.go rfl rfl (OW.call Tc88 rfl (slices_Grow_Bound_ok (a1 := t3_1) hr1) ?_)
    rintro _ w1 ⟨A3_0, c3_0, rfl, E1⟩
    refine ⟨_, rfl, ?_⟩
    replace H : Hp w w1 [.own A3_0 c3_0 26 3 (List.map encBound r1)] := H.append E1
    replace R0 := H.ext
    refine LW.pure rfl rfl (RV.assign rfl) ?_
    refine LW.nil (hK3 _ _ ?_)
    refine CW.seqJ (fun ρ wl2 => (∃ (l1 : List Bound) (Al1 : Option Addr) (cl1 : Nat), slices_Concat_Bound_k1 l1 = some res ∧ ρ = [(2, .slice none 0 0), (6, .slice Al1 l1.length cl1)] ∧ Hp w wl2 [.own Al1 cl1 26 3 (List.map encBound l1)])) ?_ ?_
    ·
      rintro _ wl2 ⟨l1, Al1, cl1, F, rfl, H⟩
      have R0 := H.ext
      unfold slices_Concat_Bound_k1 at F
      refine CW.seq fun K4 hK4 => ?_
      refine CW.region ?_
      refine LW.pure rfl rfl (RV.move rfl) ?_
      refine LW.pure rfl rfl (RV.assign rfl) ?_
      refine LW.nil (hK4 _ _ ?_)
      refine CW.ret ?_
      obtain rfl := Option.some.inj F
      refine ⟨_, (ResOK.one rfl), ?_⟩
      exact ⟨Al1, cl1, (by first | rfl | (simp; done) | (simp; omega)), H⟩
    ·
      intro K5 hK5 jK134
      refine CW.seq fun K6 hK6 => ?_
      refine CW.region ?_
      refine LW.pure rfl rfl (RV.move rfl) ?_
      refine LW.pure rfl rfl (RV.len Ts102 rfl) ?_
      refine LW.pure rfl rfl (RV.move rfl) ?_
      refine LW.nil (hK6 _ _ ?_)
      refine CW.block ?_
      refine CW.loop (fun meas ρ wl3 => ∃ (t27_1 : Int) (l2 : List Bound) (Al2 : Option Addr) (cl2 : Nat), slices_Concat_Bound_L1 a0 meas t27_1 l2 = some res ∧ ρ = [(2, .slice none 0 0), (6, .slice Al2 l2.length cl2), (25, .slice A_a0 a0.length c_a0), (26, .int .i64 ((a0.length : Int))), (27, .int .i64 t27_1)] ∧ Hp w wl3 [.own Al2 cl2 26 3 (List.map encBound l2)]) FU ⟨_, ?_, ((0 : Int)), r1, A3_0, c3_0, F, rfl, H⟩ ?_
      · exact ⟨rfl, (look_slice rfl (by first | rfl | (simp; done) | (simp; omega))), rfl, rfl, rfl, trivial⟩
      rintro mk1 _ wl3 ⟨t27_1, l2, Al2, cl2, F, rfl, H⟩
      have R0 := H.ext
      replace F := slices_Concat_Bound_L1_s F
      obtain ⟨mk1, rfl, F⟩ := F
      generalize hrec1 : slices_Concat_Bound_L1 a0 mk1 = rec1 at F
      unfold slices_Concat_Bound_B1 at F
      refine CW.seq fun K7 hK7 => ?_
      refine CW.region ?_
      refine LW.pure rfl rfl (RV.lss rfl rfl) ?_
      refine LW.nil (hK7 _ _ ?_)
      refine CW.seq fun K8 hK8 => ?_
      by_cases hp1 : t27_1 < ((a0.length : Int))
      ·
        replace F := ite_y hp1 F
        have hq1 := dec_t hp1
        refine CW.condT rfl hq1 ?_
        refine CW.skip (hK8 _ _ ?_)
        refine CW.seq fun K9 hK9 => ?_
        refine CW.block ?_
        refine CW.seq fun K10 hK10 => ?_
        obtain ⟨x1, hbx1, hx1, F⟩ := ix_some F
        refine CW.region ?_
        obtain ⟨A2, c2, hC1, hS1⟩ := h_a0.at_ hx1
        refine LW.pure rfl rfl (RV.indexAddr Ts102 rfl rfl hbx1 (h_a0.addr hbx1)) ?_
        refine LW.pure rfl rfl (RV.load1 Tk22 rfl (hC1.ext R0) rfl) ?_
        refine LW.pure rfl rfl (RV.assign rfl) ?_
        refine LW.nil (hK10 _ _ ?_)
        obtain ⟨hg1, F⟩ := gd_some F
        refine CW.region ?_
        refine LW.pure rfl rfl (RV.move rfl) ?_
        refine LW.pure rfl rfl (RV.move rfl) ?_
        refine LW.go rfl rfl (OW.appendG (enc := encBound) (l := l2) (xs := x1) Ts22 rfl rfl (H.own 0 rfl) (hS1.ext R0) (fun _ => rfl) rfl rfl hg1 (by decide) fun A3 c3 w2 O1 M1 D1 => ?_)
        replace H : Hp w w2 [.own A3 c3 26 3 (List.map encBound ((l2 ++ x1)))] := H.mod 0 rfl M1 O1 D1
        replace R0 := H.ext
        refine LW.pure rfl rfl (RV.assign rfl) ?_
        refine LW.nil (hK9 _ _ ?_)
        obtain ⟨hg2, F⟩ := gd_some F
        refine CW.region ?_
        refine LW.pure rfl rfl (RV.add rfl rfl hg2) ?_
        refine LW.pure rfl rfl (RV.move rfl) ?_
        refine LW.nil ?_
        subst hrec1
        refine ⟨mk1, Nat.lt_succ_self _, _, ?_, (t27_1 + 1), ((l2 ++ x1)), A3, c3, F, rfl, H⟩
        exact ⟨rfl, (look_slice rfl (by first | rfl | (simp; done) | (simp; omega))), rfl, rfl, rfl, trivial⟩
      ·
        replace F := ite_n hp1 F
        have hq1 := dec_f hp1
        refine CW.condF rfl hq1 ?_
        refine CW.exit (jK134 _ _ ⟨_, ?_, ⟨l2, Al2, cl2, F, rfl, H⟩⟩)
        exact ⟨rfl, (look_slice rfl (by first | rfl | (simp; done) | (simp; omega))), trivial⟩
  ·
    intro K11 hK11 jK148
    refine CW.seq fun K12 hK12 => ?_
    refine CW.region ?_
    refine LW.pure rfl rfl (RV.move rfl) ?_
    refine LW.pure rfl rfl (RV.len Ts102 rfl) ?_
    refine LW.pure rfl rfl (RV.move rfl) ?_
    refine LW.nil (hK12 _ _ ?_)
    refine CW.block ?_
    refine CW.loop (fun meas ρ wl4 => ∃ (t3_2 : Int) (t11_1 : Int), slices_Concat_Bound_L2 a0 meas t3_2 t11_1 = some res ∧ ρ = [(0, .slice A_a0 a0.length c_a0), (2, .slice none 0 0), (3, .int .i64 t3_2), (9, .slice A_a0 a0.length c_a0), (10, .int .i64 ((a0.length : Int))), (11, .int .i64 t11_1)] ∧ Hp w wl4 []) FU ⟨_, ?_, ((0 : Int)), ((0 : Int)), F, rfl, H⟩ ?_
    · exact ⟨rfl, rfl, rfl, rfl, rfl, rfl, trivial⟩
    rintro mk2 _ wl4 ⟨t3_2, t11_1, F, rfl, H⟩
    have R0 := H.ext
    replace F := slices_Concat_Bound_L2_s F
    obtain ⟨mk2, rfl, F⟩ := F
    generalize hrec2 : slices_Concat_Bound_L2 a0 mk2 = rec2 at F
    unfold slices_Concat_Bound_B2 at F
    refine CW.seq fun K13 hK13 => ?_
    refine CW.region ?_
    refine LW.pure rfl rfl (RV.lss rfl rfl) ?_
    refine LW.nil (hK13 _ _ ?_)
    refine CW.seq fun K14 hK14 => ?_
    by_cases hp2 : t11_1 < ((a0.length : Int))
    ·
      replace F := ite_y hp2 F
      have hq2 := dec_t hp2
      refine CW.condT rfl hq2 ?_
      refine CW.skip (hK14 _ _ ?_)
      refine CW.seq fun K15 hK15 => ?_
      refine CW.block ?_
      refine CW.seq fun K16 hK16 => ?_
      obtain ⟨x2, hbx2, hx2, F⟩ := ix_some F
      refine CW.region ?_
      obtain ⟨A4, c4, hC2, hS2⟩ := h_a0.at_ hx2
      refine LW.pure rfl rfl (RV.indexAddr Ts102 rfl rfl hbx2 (h_a0.addr hbx2)) ?_
      refine LW.pure rfl rfl (RV.load1 Tk22 rfl (hC2.ext R0) rfl) ?_
      refine LW.pure rfl rfl (RV.assign rfl) ?_
      refine LW.nil (hK16 _ _ ?_)
      refine CW.seq fun K17 hK17 => ?_
      obtain ⟨hg3, F⟩ := gd_some F
      refine CW.region ?_
      refine LW.pure rfl rfl (RV.move rfl) ?_
      refine LW.pure rfl rfl (RV.move rfl) ?_
      refine LW.pure rfl rfl (RV.len Ts22 rfl) ?_
      refine LW.pure rfl rfl (RV.add rfl rfl hg3) ?_
      refine LW.pure rfl rfl (RV.assign rfl) ?_
      refine LW.nil (hK17 _ _ ?_)
      refine CW.seq fun K18 hK18 => ?_
      refine CW.region ?_
      refine LW.pure rfl rfl (RV.move rfl) ?_
      refine LW.pure rfl rfl (RV.lss rfl rfl) ?_
      refine LW.nil (hK18 _ _ ?_)
      by_cases hp3 : (t3_2 + ((x2.length : Int))) < 0
      ·
        replace F := ite_y hp3 F
        have hq3 := dec_t hp3
        refine CW.condT rfl hq3 ?_
        cases F
      ·
        replace F := ite_n hp3 F
        have hq3 := dec_f hp3
        refine CW.condF rfl hq3 ?_
        refine CW.skip (hK15 _ _ ?_)
        obtain ⟨hg4, F⟩ := gd_some F
        refine CW.region ?_
        refine LW.pure rfl rfl (RV.add rfl rfl hg4) ?_
        refine LW.pure rfl rfl (RV.move rfl) ?_
        refine LW.nil ?_
        subst hrec2
        refine ⟨mk2, Nat.lt_succ_self _, _, ?_, (t3_2 + ((x2.length : Int))), (t11_1 + 1), F, rfl, H⟩
        exact ⟨rfl, rfl, rfl, rfl, rfl, rfl, trivial⟩
    ·
      replace F := ite_n hp2 F
      have hq2 := dec_f hp2
      refine CW.condF rfl hq2 ?_
      refine CW.exit (jK148 _ _ ⟨_, ?_, ⟨t3_2, F, rfl, H⟩⟩)
      exact ⟨rfl, rfl, rfl, trivial⟩
set_option maxRecDepth 20000 in
set_option maxHeartbeats 1000000 in
theorem core_Both_ok {a0 : Core} {a1 : Core} {A_a0_bounds : Option Addr} {c_a0_bounds : Nat} {A_a1_bounds : Option Addr} {c_a1_bounds : Nat} {w : World} {res : Core × Int} (h_a0_bounds : Sl w A_a0_bounds c_a0_bounds 3 (a0.bounds.map encBound)) (h_a1_bounds : Sl w A_a1_bounds c_a1_bounds 3 (a1.bounds.map encBound)) (F : core_Both a0 a1 = some res) : Calls Try.prog 45 #[.agg #[.int .i64 a0.layers, .slice A_a0_bounds a0.bounds.length c_a0_bounds], .agg #[.int .i64 a1.layers, .slice A_a1_bounds a1.bounds.length c_a1_bounds]] w (fun e w' => ∃ (A0_bounds : Option Addr) (c0_bounds : Nat), e = .returned (.tuple #[.agg #[.int .i64 res.1.layers, .slice A0_bounds res.1.bounds.length c0_bounds], .int .i64 res.2]) ∧ Hp w w' [.own A0_bounds c0_bounds 26 3 (List.map encBound res.1.bounds)]) := by
  refine calls_of_cw (args := [.agg #[.int .i64 a0.layers, .slice A_a0_bounds a0.bounds.length c_a0_bounds], .agg #[.int .i64 a1.layers, .slice A_a1_bounds a1.bounds.length c_a1_bounds]]) Try.func45 rfl rfl rfl rfl ?_
  have H := Hp.start w
  have R0 := H.ext
  unfold core_Both at F
  refine CW.seq fun K1 hK1 => ?_
  refine CW.region ?_
  refine LW.go rfl rfl (OW.box rfl fun b1 w1 N1 => ?_)
  replace H := H.new N1 N1.blk
  replace R0 := H.ext
  refine LW.go rfl rfl (OW.box rfl fun b2 w2 N2 => ?_)
  replace H := H.new N2 N2.blk
  replace R0 := H.ext
  refine LW.go rfl rfl (OW.alloc Tz24 fun b3 w3 N3 => ?_)
  replace H := H.new N3 N3.blk
  replace R0 := H.ext
  refine LW.pure rfl rfl (RV.assign rfl) ?_
  refine LW.nil (hK1 _ _ ?_)
  refine CW.seq fun K2 hK2 => ?_
  refine CW.seq fun K3 hK3 => ?_
  obtain ⟨r1, hr1, F⟩ := bnd_some F
  refine CW.region ?_
  refine LW.pure rfl rfl (RV.loadA [.int .i64 a0.layers, .slice A_a0_bounds a0.bounds.length c_a0_bounds] Tk24 rfl (H.blk 2 rfl).cells rfl rfl) ?_
  refine LW.pure rfl rfl (RV.loadA [.int .i64 a1.layers, .slice A_a1_bounds a1.bounds.length c_a1_bounds] Tk24 rfl (H.blk 1 rfl).cells rfl rfl) ?_
  refine LW.go rfl rfl (OW.call Tc74 rfl (core_both_ok (a0 := a0) (a1 := a1) (h_a0_bounds.ext R0) (h_a1_bounds.ext R0) hr1) ?_)
  rintro _ w4 ⟨rfl, E1⟩
  refine ⟨_, rfl, ?_⟩
  replace H := H.grow E1
  replace R0 := H.ext
  refine LW.pure rfl rfl (RV.assign rfl) ?_
  refine LW.nil (hK3 _ _ ?_)
  refine CW.seq fun K4 hK4 => ?_
  refine CW.region ?_
  refine LW.pure rfl rfl (RV.move rfl) ?_
  refine LW.pure rfl rfl (RV.nei rfl rfl) ?_
  refine LW.nil (hK4 _ _ ?_)
  by_cases hp1 : r1 = 0
  ·
    replace F := ite_y hp1 F
    have hq1 := dec_t hp1
    refine CW.condF rfl (not_f hq1) ?_
    refine CW.skip (hK2 _ _ ?_)
    refine CW.seq fun K5 hK5 => ?_
    refine CW.seq fun K6 hK6 => ?_
    obtain ⟨hg1, F⟩ := gd_some F
    refine CW.region ?_
    refine LW.pure rfl rfl (RV.fieldAddr Tf24_1 rfl) ?_
    refine LW.pure rfl rfl (RV.load1 Tk22 rfl ((H.blk 2 rfl).cells.off 1) rfl) ?_
    refine LW.pure rfl rfl (RV.len Ts22 rfl) ?_
    refine LW.pure rfl rfl (RV.fieldAddr Tf24_1 rfl) ?_
    refine LW.pure rfl rfl (RV.load1 Tk22 rfl ((H.blk 1 rfl).cells.off 1) rfl) ?_
    refine LW.pure rfl rfl (RV.len Ts22 rfl) ?_
    refine LW.pure rfl rfl (RV.add rfl rfl hg1) ?_
    refine LW.pure rfl rfl (RV.gtr rfl rfl) ?_
    refine LW.nil (hK6 _ _ ?_)
    by_cases hp2 : (20 : Int) < (((a0.bounds.length : Int)) + ((a1.bounds.length : Int)))
    ·
      replace F := ite_y hp2 F
      have hq2 := dec_t hp2
      refine CW.condT rfl hq2 ?_
      refine CW.seq fun K7 hK7 => ?_
      refine CW.region ?_
      refine LW.pure rfl rfl (RV.build (vs := []) (cs := [.int .i64 0, .slice none 0 0]) rfl (fun _ => by kernel_rfl)) ?_
      refine LW.go rfl rfl (OW.store Tk24 rfl rfl (H.blk 0 rfl) (off := 0) (vs := [.int .i64 0, .slice none 0 0]) rfl rfl rfl rfl rfl fun w5 S1 => ?_)
      replace H : Hp w w5 [.blk b3 24 [.int .i64 0, .slice none 0 0], .blk b2 24 [.int .i64 a1.layers, .slice A_a1_bounds a1.bounds.length c_a1_bounds], .blk b1 24 [.int .i64 a0.layers, .slice A_a0_bounds a0.bounds.length c_a0_bounds]] := H.stored 0 rfl S1
      replace R0 := H.ext
      refine LW.pure rfl rfl (RV.assign rfl) ?_
      refine LW.nil (hK7 _ _ ?_)
      refine CW.ret ?_
      obtain rfl := Option.some.inj F
      refine ⟨_, (ResOK.two ⟨_, rfl, run_loadVar_agg Tk24 (H.blk 0 rfl).cells (us := [.int .i64 0, .slice none 0 0]) rfl rfl⟩ rfl), ?_⟩
      replace H := H.nilOwn 26 3
      replace R0 := H.ext
      replace H := H.pick (L' := [.own none 0 26 3 (List.map encBound (([] : List Bound)))]) [0] (by decide) rfl
      replace R0 := H.ext
      exact ⟨none, 0, (by first | rfl | (simp; done) | (simp; omega)), H⟩
    ·
      replace F := ite_n hp2 F
      have hq2 := dec_f hp2
      refine CW.condF rfl hq2 ?_
      refine CW.skip (hK5 _ _ ?_)
      refine CW.seq fun K8 hK8 => ?_
      obtain ⟨r2, hr2, F⟩ := bnd_some F
      refine CW.draw [9] (fun _ => True) (.cons 0 1 (.cons 1 1 (.cons 2 1 (.cons 3 1 (.cons 4 1 (.cons 5 1 (.cons 6 0 (.cons 7 0 (.cons 8 1 (.cons 9 0 (.cons 10 2 .nil))))))))))) mixed (by kernel_rfl) fun w6 E2 => ?_
      replace H := H.grow E2
      replace R0 := H.ext
      refine DW.fix rfl rfl rfl (fun _ EQ => RV.fieldAddr Tf24_0 rfl) ?_
      refine DW.fix rfl rfl rfl (fun _ EQ => RV.load1 Tk3 rfl (((H.grow EQ).blk 2 rfl).cells.off 0) rfl) ?_
      refine DW.fix rfl rfl rfl (fun _ EQ => RV.fieldAddr Tf24_1 rfl) ?_
      refine DW.fix rfl rfl rfl (fun _ EQ => RV.load1 Tk22 rfl (((H.grow EQ).blk 2 rfl).cells.off 1) rfl) ?_
      refine DW.fix rfl rfl rfl (fun _ EQ => RV.fieldAddr Tf24_1 rfl) ?_
      refine DW.fix rfl rfl rfl (fun _ EQ => RV.load1 Tk22 rfl (((H.grow EQ).blk 1 rfl).cells.off 1) rfl) ?_
      refine DW.sole rfl rfl rfl (OW.buildSlice (e := 22) (vs := [.slice A_a0_bounds a0.bounds.length c_a0_bounds, .slice A_a1_bounds a1.bounds.length c_a1_bounds]) (cs := [.slice A_a0_bounds a0.bounds.length c_a0_bounds, .slice A_a1_bounds a1.bounds.length c_a1_bounds]) rfl (fun _ => by kernel_rfl) fun b4 w7 N4 => ?_)
      refine ⟨fun _ => N4.ext, ModX.ext N4.ext, ?_⟩
      replace H := H.made' (k := 1) (t := 22) (enc := encH) (l := ([((A_a0_bounds, c_a0_bounds), a0.bounds), ((A_a1_bounds, c_a1_bounds), a1.bounds)] : List ((Option Addr × Nat) × List Bound))) N4 (by have q := N4.blk; simp only [List.flatMap_cons, List.flatMap_nil, encH, List.length_nil, List.append_nil, List.cons_append, List.nil_append]; first | done | exact q) (fun _ => rfl) rfl (by first | decide | omega | (simp; done) | (simp; omega))
      replace R0 := H.ext
      have hS23 : Sl2 w7 (some ⟨b4, 0, none⟩) 2 3 encBound [a0.bounds, a1.bounds] := Sl2.two (H.own 0 rfl).sl (h_a0_bounds.ext R0) (h_a1_bounds.ext R0)
      refine DW.sole rfl rfl rfl (OW.call Tc75 (evs_cast rfl (by first | rfl | (simp; done) | (simp; omega))) (slices_Concat_Bound_ok (a0 := ([a0.bounds, a1.bounds] : List (List Bound))) hS23 hr2) ?_)
      rintro _ w8 ⟨A6_0, c6_0, rfl, E3⟩
      refine ⟨_, rfl, fun _ => E3.ext, ModX.ext E3.ext, ?_⟩
      have hS23 := hS23.ext E3.ext
      replace H : Hp w w8 [.own A6_0 c6_0 26 3 (List.map encBound r2), .own (some ⟨b4, 0, none⟩) ((([((A_a0_bounds, c_a0_bounds), a0.bounds), ((A_a1_bounds, c_a1_bounds), a1.bounds)] : List ((Option Addr × Nat) × List Bound))).length) 22 1 (List.map encH (([((A_a0_bounds, c_a0_bounds), a0.bounds), ((A_a1_bounds, c_a1_bounds), a1.bounds)] : List ((Option Addr × Nat) × List Bound)))), .blk b3 24 [.int .i64 0, .slice none 0 0], .blk b2 24 [.int .i64 a1.layers, .slice A_a1_bounds a1.bounds.length c_a1_bounds], .blk b1 24 [.int .i64 a0.layers, .slice A_a0_bounds a0.bounds.length c_a0_bounds]] := H.append E3
      replace R0 := H.ext
      refine DW.fix rfl rfl rfl (fun _ EQ => RV.build (vs := [.int .i64 a0.layers, .slice A6_0 r2.length c6_0]) (cs := [.int .i64 a0.layers, .slice A6_0 r2.length c6_0]) rfl (fun _ => by kernel_rfl)) ?_
      refine DW.sole rfl rfl rfl (OW.store Tk24 rfl rfl (H.blk 2 rfl) (off := 0) (vs := [.int .i64 a0.layers, .slice A6_0 r2.length c6_0]) rfl rfl rfl rfl rfl fun w9 S2 => ?_)
      refine ⟨fun h => absurd h (by decide), S2.modx trivial, ?_⟩
      replace H : Hp w w9 [.own A6_0 c6_0 26 3 (List.map encBound r2), .own (some ⟨b4, 0, none⟩) ((([((A_a0_bounds, c_a0_bounds), a0.bounds), ((A_a1_bounds, c_a1_bounds), a1.bounds)] : List ((Option Addr × Nat) × List Bound))).length) 22 1 (List.map encH (([((A_a0_bounds, c_a0_bounds), a0.bounds), ((A_a1_bounds, c_a1_bounds), a1.bounds)] : List ((Option Addr × Nat) × List Bound)))), .blk b3 24 [.int .i64 a0.layers, .slice A6_0 r2.length c6_0], .blk b2 24 [.int .i64 a1.layers, .slice A_a1_bounds a1.bounds.length c_a1_bounds], .blk b1 24 [.int .i64 a0.layers, .slice A_a0_bounds a0.bounds.length c_a0_bounds]] := H.stored 2 rfl S2
      replace R0 := H.ext
      refine DW.thru rfl rfl rfl (fun _ EQ => RV.assign rfl) ?_
      refine DW.nil (hK8 _ _ ?_)
      refine CW.ret ?_
      obtain rfl := Option.some.inj F
      refine ⟨_, (ResOK.two ⟨_, rfl, run_loadVar_agg Tk24 (H.blk 2 rfl).cells (us := [.int .i64 a0.layers, .slice A6_0 r2.length c6_0]) rfl rfl⟩ rfl), ?_⟩
      replace H := H.pick (L' := [.own A6_0 c6_0 26 3 (List.map encBound r2)]) [0] (by decide) rfl
      replace R0 := H.ext
      exact ⟨A6_0, c6_0, (by first | rfl | (simp; done) | (simp; omega)), H⟩
  ·
    replace F := ite_n hp1 F
    have hq1 := dec_f hp1
    refine CW.condT rfl (not_t hq1) ?_
    refine CW.seq fun K9 hK9 => ?_
    refine CW.region ?_
    refine LW.pure rfl rfl (RV.build (vs := []) (cs := [.int .i64 0, .slice none 0 0]) rfl (fun _ => by kernel_rfl)) ?_
    refine LW.pure rfl rfl (RV.move rfl) ?_
    refine LW.go rfl rfl (OW.store Tk24 rfl rfl (H.blk 0 rfl) (off := 0) (vs := [.int .i64 0, .slice none 0 0]) rfl rfl rfl rfl rfl fun w10 S3 => ?_)
    replace H : Hp w w10 [.blk b3 24 [.int .i64 0, .slice none 0 0], .blk b2 24 [.int .i64 a1.layers, .slice A_a1_bounds a1.bounds.length c_a1_bounds], .blk b1 24 [.int .i64 a0.layers, .slice A_a0_bounds a0.bounds.length c_a0_bounds]] := H.stored 0 rfl S3
    replace R0 := H.ext
    refine LW.pure rfl rfl (RV.assign rfl) ?_
    refine LW.nil (hK9 _ _ ?_)
    refine CW.ret ?_
    obtain rfl := Option.some.inj F
    refine ⟨_, (ResOK.two ⟨_, rfl, run_loadVar_agg Tk24 (H.blk 0 rfl).cells (us := [.int .i64 0, .slice none 0 0]) rfl rfl⟩ rfl), ?_⟩
    replace H := H.nilOwn 26 3
    replace R0 := H.ext
    replace H := H.pick (L' := [.own none 0 26 3 (List.map encBound (([] : List Bound)))]) [0] (by decide) rfl
    replace R0 := H.ext
    exact ⟨none, 0, (by first | rfl | (simp; done) | (simp; omega)), H⟩
end Go.D3

set_option linter.unusedVariables false
set_option linter.unusedSimpArgs false
namespace Go.D3
open Go.Tb Go.Proofs Go.RowKit Go.Core
theorem Tc45 : callable Try.prog 45 = true := by kernel_rfl
end Go.D3

set_option linter.unusedVariables false
set_option linter.unusedSimpArgs false
namespace Go.Tb
open Go.RowKit
section
variable {α β : Type}
structure TbxH (A : Option Addr) (c to ko : Nat) (enc : (Option Addr × Nat) × α → List Value) (f : α → List β) (ti k2 : Nat) (enc2 : β → List Value) (hs : List (Option Addr × Nat)) (l : List α) (w : World) : Prop where
  len : hs.length = l.length
  outer : Own w A c to ko ((hs.zip l).map enc)
  row : ∀ (i : Nat) (h : Option Addr × Nat) (t : α), hs[i]? = some h → l[i]? = some t → Own w h.1 h.2 ti k2 ((f t).map enc2)
  ne : ∀ (i : Nat) (h : Option Addr × Nat) (b : Nat), hs[i]? = some h → b ∈ adB h.1 → b ∉ adB A
def tbxB (A : Option Addr) (hs : List (Option Addr × Nat)) : List Nat := adB A ++ hs.flatMap fun h => adB h.1
theorem mem_tbxB {A : Option Addr} {hs : List (Option Addr × Nat)} {b : Nat} : b ∈ tbxB A hs ↔ b ∈ adB A ∨ ∃ (i : Nat) (h : Option Addr × Nat), hs[i]? = some h ∧ b ∈ adB h.1 := by
  unfold tbxB
  simp only [List.mem_append, List.mem_flatMap]
  refine or_congr Iff.rfl ⟨?_, ?_⟩
  · rintro ⟨h, hm, hb⟩
    obtain ⟨i, hi⟩ := List.getElem?_of_mem hm
    exact ⟨i, h, hi, hb⟩
  · rintro ⟨i, h, hi, hb⟩
    exact ⟨h, List.mem_of_getElem? hi, hb⟩
variable {A : Option Addr} {c to ko : Nat} {enc : (Option Addr × Nat) × α → List Value} {f : α → List β} {ti k2 : Nat} {enc2 : β → List Value} {hs : List (Option Addr × Nat)} {l : List α} {w w' w0 : World} {L : List Ck}
theorem TbxH.keep (h : TbxH A c to ko enc f ti k2 enc2 hs l w) (hb : ∀ b ∈ tbxB A hs, w'.heap[b]? = w.heap[b]?) : TbxH A c to ko enc f ti k2 enc2 hs l w' :=
  ⟨h.len, h.outer.keep fun b h' => hb b (mem_tbxB.2 (.inl h')), fun i x t hx ht => (h.row i x t hx ht).keep fun b h' => hb b (mem_tbxB.2 (.inr ⟨i, x, hx, h'⟩)), h.ne⟩
theorem TbxH.lt (h : TbxH A c to ko enc f ti k2 enc2 hs l w) : ∀ b ∈ tbxB A hs, b < w.heap.size := by
  intro b hb
  rcases mem_tbxB.1 hb with hb | ⟨i, x, hx, hb⟩
  · exact h.outer.lt b hb
  · have hl : i < l.length := by rw [← h.len]; exact lt_of_at hx
    exact (h.row i x l[i] hx (by simp [hl])).lt b hb
theorem TbxH.holds (h : TbxH A c to ko enc f ti k2 enc2 hs l w) : (Ck.inv (tbxB A hs) (TbxH A c to ko enc f ti k2 enc2 hs l)).holds w :=
  ⟨h.lt, h, fun w1 w2 _ hb q => q.keep hb⟩
end
section
variable {P : Program} {n : Nat} {ops : Array Oper} {Q : Exit → Env → World → Prop} {ρ : Env} {w : World}
variable {d : Option Tmp} {ty : TypeId} {pos : String} {after : Array Edge} {g : Option (Nat × Bool)} {K : Value → World → Prop}
end
section
variable {w0 w w' : World} {L M : List Ck}
theorem ModX.frz {X : Nat → Prop} {A : Option Addr} (hs : w.heap.size ≤ w'.heap.size) (hk : ∀ k, k < w.heap.size → k ∉ adB A → w'.heap[k]? = w.heap[k]?) (hX : ∀ a, A = some a → X a.block) : ModX X w w' :=
  ⟨hs, fun k hk' hn => hk k hk' fun hc => by
    obtain ⟨a, rfl, rfl⟩ := mem_adB.1 hc
    exact hn (hX a rfl)⟩
/-- A chunk that does not change while others do. -/
def frz (w : World) (x : Ck) : Ck := .inv x.bl fun w' => x.holds w' ∧ ∀ b ∈ x.bl, w'.heap[b]? = w.heap[b]?
theorem frz_holds {x : Ck} (h : x.holds w) : (frz w x).holds w :=
  ⟨Ck.lt h, ⟨h, fun _ _ => rfl⟩, fun w1 w2 _ h2 h3 => ⟨Ck.keep h3.1 h2, fun b hb => (h2 b hb).trans (h3.2 b hb)⟩⟩
/-- What a call does not name stays as it was. -/
theorem Hp.freeze {a : Ck} (h : Hp w0 w ([a] ++ L)) : ∃ R, Hp w0 w ([a] ++ R) ∧ ∀ (w' : World) (a' : Ck) (M : List Ck), a'.bl = a.bl → Hp w0 w' (([a'] ++ M) ++ R) → Hp w0 w' (([a'] ++ M) ++ L) ∧ w.heap.size ≤ w'.heap.size ∧ ∀ k, k < w.heap.size → k ∉ a.bl → w'.heap[k]? = w.heap[k]? := by
  let bs : List Nat := (List.range w.heap.size).filter fun b => decide (w0.heap.size ≤ b) && !(([a] ++ L).any fun x => decide (b ∈ x.bl))
  have mem : ∀ b, b ∈ bs ↔ b < w.heap.size ∧ w0.heap.size ≤ b ∧ ∀ x ∈ [a] ++ L, b ∉ x.bl := fun b => by
    simp only [bs, List.mem_filter, List.mem_range, Bool.and_eq_true, decide_eq_true_eq, Bool.not_eq_true', List.any_eq_false, decide_eq_true_eq]
  let E : Ck := .inv bs fun w' => ∀ b ∈ bs, w'.heap[b]? = w.heap[b]?
  have hE : E.holds w := ⟨fun b hb => ((mem b).1 hb).1, fun _ _ => rfl, fun w1 w2 _ h2 h3 b hb => (h2 b hb).trans (h3 b hb)⟩
  have hl : ∀ (i : Nat), i < L.length → (L.map (frz w) ++ [E])[i]? = (L[i]?).map (frz w) := fun i hi => by
    rw [List.getElem?_append_left (by rw [List.length_map]; exact hi), List.getElem?_map]
  have cs : ∀ (i : Nat) (x : Ck), ([a] ++ (L.map (frz w) ++ [E]))[i]? = some x → (∃ y, ([a] ++ L)[i]? = some y ∧ y.bl = x.bl ∧ (y.holds w → x.holds w)) ∨ (i = L.length + 1 ∧ x = E) := by
    intro i x hx
    cases i with
    | zero =>
      simp at hx; subst hx
      exact .inl ⟨a, by simp, rfl, id⟩
    | succ i =>
      have hx' : (L.map (frz w) ++ [E])[i]? = some x := by simpa using hx
      by_cases hi : i < L.length
      · rw [hl i hi] at hx'
        have e : L[i]? = some L[i] := by simp [hi]
        rw [e] at hx'
        simp only [Option.map_some] at hx'
        refine .inl ⟨L[i], by simp, ?_, fun hh => ?_⟩
        · rw [← Option.some.inj hx']; rfl
        · rw [← Option.some.inj hx']; exact frz_holds hh
      · have hle := lt_of_at hx'
        simp only [List.length_append, List.length_map, List.length_singleton] at hle
        have e : i = L.length := by omega
        rw [List.getElem?_append_right (by rw [List.length_map]; omega), List.length_map, e, Nat.sub_self] at hx'
        simp at hx'
        exact .inr ⟨by omega, hx'.symm⟩
  refine ⟨L.map (frz w) ++ [E], ⟨h.ext, fun i x hx => ?_, fun i j x y hx hy hij b hb => ?_, fun i x hx b hb => ?_⟩, fun w' a' M hbl h' => ?_⟩
  · rcases cs i x hx with ⟨y, hy, _, hh⟩ | ⟨_, rfl⟩
    · exact hh (h.holds i y hy)
    · exact hE
  · rcases cs i x hx with ⟨p, hp, ep, _⟩ | ⟨e1, rfl⟩ <;> rcases cs j y hy with ⟨q, hq, eq, _⟩ | ⟨e2, rfl⟩
    · rw [← eq]; exact h.disj i j p q hp hq hij b (by rw [ep]; exact hb)
    · intro hc
      exact ((mem b).1 hc).2.2 p (List.mem_of_getElem? hp) (by rw [ep]; exact hb)
    · intro hc
      rw [← eq] at hc
      exact ((mem b).1 hb).2.2 q (List.mem_of_getElem? hq) hc
    · exact absurd (e1.trans e2.symm) hij
  · rcases cs i x hx with ⟨y, hy, ey, _⟩ | ⟨_, rfl⟩
    · exact h.fresh i y hy b (by rw [ey]; exact hb)
    · exact ((mem b).1 hb).2.1
  · -- behind the call
    have at2 : ∀ (i : Nat) (y : Ck), L[i]? = some y → (([a'] ++ M) ++ (L.map (frz w) ++ [E]))[([a'] ++ M).length + i]? = some (frz w y) := fun i y hy => by
      rw [List.getElem?_append_right (by omega), Nat.add_sub_cancel_left, hl i (lt_of_at hy), hy]; rfl
    have atE : (([a'] ++ M) ++ (L.map (frz w) ++ [E]))[([a'] ++ M).length + L.length]? = some E := by
      rw [List.getElem?_append_right (by omega), Nat.add_sub_cancel_left, List.getElem?_append_right (by rw [List.length_map]; exact Nat.le_refl _), List.length_map, Nat.sub_self]; rfl
    have old : ∀ (i : Nat) (x : Ck), (([a'] ++ M) ++ L)[i]? = some x → ∃ z, (([a'] ++ M) ++ (L.map (frz w) ++ [E]))[i]? = some z ∧ z.bl = x.bl ∧ (z.holds w' → x.holds w') := by
      intro i x hx
      by_cases hi : i < ([a'] ++ M).length
      · rw [List.getElem?_append_left hi] at hx
        exact ⟨x, by rw [List.getElem?_append_left hi]; exact hx, rfl, id⟩
      · rw [List.getElem?_append_right (by omega)] at hx
        have := at2 _ x hx
        rw [show ([a'] ++ M).length + (i - ([a'] ++ M).length) = i by omega] at this
        exact ⟨frz w x, this, rfl, fun hz => hz.2.1.1⟩
    have same : ∀ k, k < w.heap.size → k ∉ a.bl → w'.heap[k]? = w.heap[k]? := by
      intro k hk hn
      by_cases h1 : k < w0.heap.size
      · rw [Below.block h'.ext k h1, Below.block h.ext k h1]
      · by_cases h2 : ∃ x ∈ L, k ∈ x.bl
        · obtain ⟨x, hx, hb⟩ := h2
          obtain ⟨i, hi⟩ := List.getElem?_of_mem hx
          exact (h'.holds _ _ (at2 i x hi)).2.1.2 k hb
        · have hm : k ∈ bs := (mem k).2 ⟨hk, by omega, fun x hx hb => by
            rcases List.mem_append.1 hx with hx | hx
            · rw [List.mem_singleton.1 hx] at hb; exact hn hb
            · exact h2 ⟨x, hx, hb⟩⟩
          exact (h'.holds _ _ atE).2.1 k hm
    refine ⟨⟨h'.ext, fun i x hx => ?_, fun i j x y hx hy hij b hb => ?_, fun i x hx b hb => ?_⟩, ?_, same⟩
    · obtain ⟨z, hz, _, hh⟩ := old i x hx
      exact hh (h'.holds i z hz)
    · obtain ⟨z, hz, ez, _⟩ := old i x hx
      obtain ⟨u, hu, eu, _⟩ := old j y hy
      rw [← eu]
      exact h'.disj i j z u hz hu hij b (by rw [ez]; exact hb)
    · obtain ⟨z, hz, ez, _⟩ := old i x hx
      exact h'.fresh i z hz b (by rw [ez]; exact hb)
    · rcases Nat.eq_zero_or_pos w.heap.size with h0 | h0
      · omega
      · by_cases hin : w.heap.size - 1 ∈ a.bl
        · have := Ck.lt (h'.holds 0 a' (by simp)) (w.heap.size - 1) (by rw [hbl]; exact hin)
          omega
        · have e := same (w.heap.size - 1) (by omega) hin
          rw [Array.getElem?_eq_getElem (show w.heap.size - 1 < w.heap.size by omega)] at e
          have := (Array.getElem?_eq_some_iff.1 e).1
          omega
end
end Go.Tb

set_option linter.unusedVariables false
set_option linter.unusedSimpArgs false
namespace Go.Tb
open Go.RowKit
section
variable {w0 w w' : World} {L M : List Ck}
end
end Go.Tb
namespace Go.Tb
open Go.RowKit
section
variable {P : Program} {n : Nat} {ops : Array Oper} {Q : Exit → Env → World → Prop} {ρ : Env} {w : World}
variable {d : Option Tmp} {ty : TypeId} {pos : String} {after : Array Edge} {g : Option (Nat × Bool)} {K : Value → World → Prop}
end
end Go.Tb
namespace Go.Tb
end Go.Tb
namespace Go.Tb
section
variable {w0 w w' : World} {L M : List Ck}
/-- All the handles of old are still there. -/
def Cov (hs' hs : List (Option Addr × Nat)) : Prop := ∀ x ∈ hs, x ∈ hs'
theorem Cov.refl (hs : List (Option Addr × Nat)) : Cov hs hs := fun _ h => h
theorem Cov.trans {a b c : List (Option Addr × Nat)} (h : Cov a b) (h' : Cov b c) : Cov a c := fun x hx => h x (h' x hx)
end
end Go.Tb
namespace Go.Tb
end Go.Tb

set_option linter.unusedVariables false
set_option linter.unusedSimpArgs false
namespace Go.D3s
open Go.Tb Go.Proofs Go.RowKit
theorem Tc112 : callable Try.prog 112 = true := by kernel_rfl
theorem Tk3 : tyK Try.prog 3 = some (false, 1) := by kernel_rfl
theorem Ts43 : tyS Try.prog 43 = some (3, 1, 8, [.int .i64 0]) := by kernel_rfl
def cmp_isNaN_int (a0 : Int) : Option Bool :=
  some (!(decide (a0 = a0)))
def cmp_Compare_int (a0 : Int) (a1 : Int) : Option Int :=
  bnd (cmp_isNaN_int a0) fun r1 =>
  bnd (cmp_isNaN_int a1) fun r2 =>
  if r1 = true then
    if r2 = true then
      some ((0 : Int))
    else
      some ((-1 : Int))
  else
    if r2 = true then
      some ((1 : Int))
    else
      if a0 < a1 then
        some ((-1 : Int))
      else
        if a1 < a0 then
          some ((1 : Int))
        else
          some ((0 : Int))
def cmp_Or_int_k1 : Option Int :=
  some ((0 : Int))
def cmp_Or_int_B1 (a0 : List Int) (rec1 : Int → Option Int) (t8_1 : Int) : Option Int :=
  if t8_1 < ((a0.length : Int)) then
    ix a0 t8_1 fun x1 =>
    if x1 = 0 then
      gd (InR (t8_1 + 1)) <|
      rec1 ((t8_1 + 1))
    else
      some x1
  else
    cmp_Or_int_k1
def cmp_Or_int_L1 (a0 : List Int) : Nat → Int → Option Int
  | 0, _ => none
  | n_ + 1, t8_1 => cmp_Or_int_B1 a0 (cmp_Or_int_L1 a0 n_) t8_1
theorem cmp_Or_int_L1_s {a0 : List Int} {m_ : Nat} {t8_1 : Int} {res : Int} (h : cmp_Or_int_L1 a0 m_ t8_1 = some res) : ∃ k, m_ = k + 1 ∧ cmp_Or_int_B1 a0 (cmp_Or_int_L1 a0 k) t8_1 = some res := by
  cases m_ with
  | zero => cases h
  | succ k => exact ⟨k, rfl, h⟩
def cmp_Or_int (a0 : List Int) : Option Int :=
  cmp_Or_int_L1 a0 FU (((0 : Int)))
set_option maxRecDepth 20000 in
set_option maxHeartbeats 1000000 in
theorem cmp_isNaN_int_ex {a0 : Int} {w : World} {res : Bool} (F : cmp_isNaN_int a0 = some res) : Calls Try.prog 112 #[.int .i64 a0] w (fun e w' => e = .returned (.bool res) ∧ w' = w) := by
  refine calls_of_cw (args := [.int .i64 a0]) Try.func112 rfl rfl rfl rfl ?_
  have R0 : Ext w w := Ext.refl w
  unfold cmp_isNaN_int at F
  refine CW.seq fun K1 hK1 => ?_
  refine CW.region ?_
  refine LW.pure rfl rfl (RV.assign rfl) ?_
  refine LW.nil (hK1 _ _ ?_)
  refine CW.seq fun K2 hK2 => ?_
  refine CW.region ?_
  refine LW.pure rfl rfl (RV.move rfl) ?_
  refine LW.pure rfl rfl (RV.move rfl) ?_
  refine LW.pure rfl rfl (RV.nei rfl rfl) ?_
  refine LW.pure rfl rfl (RV.assign rfl) ?_
  refine LW.nil (hK2 _ _ ?_)
  refine CW.ret ?_
  obtain rfl := Option.some.inj F
  refine ⟨_, (ResOK.one rfl), ?_⟩
  refine ⟨(by first | rfl | simp), rfl⟩
set_option maxRecDepth 20000 in
set_option maxHeartbeats 1000000 in
theorem cmp_Compare_int_ex {a0 : Int} {a1 : Int} {w : World} {res : Int} (F : cmp_Compare_int a0 a1 = some res) : Calls Try.prog 99 #[.int .i64 a0, .int .i64 a1] w (fun e w' => e = .returned (.int .i64 res) ∧ w' = w) := by
  refine calls_of_cw (args := [.int .i64 a0, .int .i64 a1]) Try.func99 rfl rfl rfl rfl ?_
  have R0 : Ext w w := Ext.refl w
  unfold cmp_Compare_int at F
  refine CW.seq fun K1 hK1 => ?_
  refine CW.region ?_
  refine LW.pure rfl rfl (RV.assign rfl) ?_
  refine LW.nil (hK1 _ _ ?_)
  refine CW.seq fun K2 hK2 => ?_
  obtain ⟨r1, hr1, F⟩ := bnd_some F
  refine CW.region ?_
  refine LW.pure rfl rfl (RV.move rfl) ?_
  refine LW.go rfl rfl (OW.call Tc112 rfl (cmp_isNaN_int_ex (a0 := a0) hr1) ?_)
  rintro _ w1 ⟨rfl, rfl⟩
  refine ⟨_, rfl, ?_⟩
  refine LW.pure rfl rfl (RV.assign rfl) ?_
  refine LW.nil (hK2 _ _ ?_)
  refine CW.seq fun K3 hK3 => ?_
  obtain ⟨r2, hr2, F⟩ := bnd_some F
  refine CW.region ?_
  refine LW.pure rfl rfl (RV.move rfl) ?_
  refine LW.go rfl rfl (OW.call Tc112 rfl (cmp_isNaN_int_ex (a0 := a1) hr2) ?_)
  rintro _ w2 ⟨rfl, rfl⟩
  refine ⟨_, rfl, ?_⟩
  refine LW.pure rfl rfl (RV.assign rfl) ?_
  refine LW.nil (hK3 _ _ ?_)
  refine CW.seq fun K4 hK4 => ?_
  refine CW.seq fun K5 hK5 => ?_
  refine CW.region ?_
  refine LW.pure rfl rfl (RV.move rfl) ?_
  refine LW.nil (hK5 _ _ ?_)
  by_cases hp1 : r1 = true
  ·
    replace F := ite_y hp1 F
    have hq1 : r1 = true := hp1
    refine CW.condT rfl hq1 ?_
    refine CW.seq fun K6 hK6 => ?_
    refine CW.seq fun K7 hK7 => ?_
    refine CW.region ?_
    refine LW.pure rfl rfl (RV.move rfl) ?_
    refine LW.nil (hK7 _ _ ?_)
    by_cases hp2 : r2 = true
    ·
      replace F := ite_y hp2 F
      have hq2 : r2 = true := hp2
      refine CW.condT rfl hq2 ?_
      refine CW.seq fun K8 hK8 => ?_
      refine CW.region ?_
      refine LW.pure rfl rfl (RV.assign rfl) ?_
      refine LW.nil (hK8 _ _ ?_)
      refine CW.ret ?_
      obtain rfl := Option.some.inj F
      refine ⟨_, (ResOK.one rfl), ?_⟩
      refine ⟨(by first | rfl | simp), rfl⟩
    ·
      replace F := ite_n hp2 F
      have hq2 : r2 = false := raw_f hp2
      refine CW.condF rfl hq2 ?_
      refine CW.skip (hK6 _ _ ?_)
      refine CW.seq fun K9 hK9 => ?_
      refine CW.region ?_
      refine LW.pure rfl rfl (RV.assign rfl) ?_
      refine LW.nil (hK9 _ _ ?_)
      refine CW.ret ?_
      obtain rfl := Option.some.inj F
      refine ⟨_, (ResOK.one rfl), ?_⟩
      refine ⟨(by first | rfl | simp), rfl⟩
  ·
    replace F := ite_n hp1 F
    have hq1 : r1 = false := raw_f hp1
    refine CW.condF rfl hq1 ?_
    refine CW.skip (hK4 _ _ ?_)
    refine CW.seq fun K10 hK10 => ?_
    refine CW.seq fun K11 hK11 => ?_
    refine CW.region ?_
    refine LW.pure rfl rfl (RV.move rfl) ?_
    refine LW.nil (hK11 _ _ ?_)
    by_cases hp3 : r2 = true
    ·
      replace F := ite_y hp3 F
      have hq3 : r2 = true := hp3
      refine CW.condT rfl hq3 ?_
      refine CW.seq fun K12 hK12 => ?_
      refine CW.region ?_
      refine LW.pure rfl rfl (RV.assign rfl) ?_
      refine LW.nil (hK12 _ _ ?_)
      refine CW.ret ?_
      obtain rfl := Option.some.inj F
      refine ⟨_, (ResOK.one rfl), ?_⟩
      refine ⟨(by first | rfl | simp), rfl⟩
    ·
      replace F := ite_n hp3 F
      have hq3 : r2 = false := raw_f hp3
      refine CW.condF rfl hq3 ?_
      refine CW.skip (hK10 _ _ ?_)
      refine CW.seq fun K13 hK13 => ?_
      refine CW.seq fun K14 hK14 => ?_
      refine CW.region ?_
      refine LW.pure rfl rfl (RV.move rfl) ?_
      refine LW.pure rfl rfl (RV.move rfl) ?_
      refine LW.pure rfl rfl (RV.lss rfl rfl) ?_
      refine LW.nil (hK14 _ _ ?_)
      by_cases hp4 : a0 < a1
      ·
        replace F := ite_y hp4 F
        have hq4 := dec_t hp4
        refine CW.condT rfl hq4 ?_
        refine CW.seq fun K15 hK15 => ?_
        refine CW.region ?_
        refine LW.pure rfl rfl (RV.assign rfl) ?_
        refine LW.nil (hK15 _ _ ?_)
        refine CW.ret ?_
        obtain rfl := Option.some.inj F
        refine ⟨_, (ResOK.one rfl), ?_⟩
        refine ⟨(by first | rfl | simp), rfl⟩
      ·
        replace F := ite_n hp4 F
        have hq4 := dec_f hp4
        refine CW.condF rfl hq4 ?_
        refine CW.skip (hK13 _ _ ?_)
        refine CW.seq fun K16 hK16 => ?_
        refine CW.seq fun K17 hK17 => ?_
        refine CW.region ?_
        refine LW.pure rfl rfl (RV.move rfl) ?_
        refine LW.pure rfl rfl (RV.move rfl) ?_
        refine LW.pure rfl rfl (RV.gtr rfl rfl) ?_
        refine LW.nil (hK17 _ _ ?_)
        by_cases hp5 : a1 < a0
        ·
          replace F := ite_y hp5 F
          have hq5 := dec_t hp5
          refine CW.condT rfl hq5 ?_
          refine CW.seq fun K18 hK18 => ?_
          refine CW.region ?_
          refine LW.pure rfl rfl (RV.assign rfl) ?_
          refine LW.nil (hK18 _ _ ?_)
          refine CW.ret ?_
          obtain rfl := Option.some.inj F
          refine ⟨_, (ResOK.one rfl), ?_⟩
          refine ⟨(by first | rfl | simp), rfl⟩
        ·
          replace F := ite_n hp5 F
          have hq5 := dec_f hp5
          refine CW.condF rfl hq5 ?_
          refine CW.skip (hK16 _ _ ?_)
          refine CW.seq fun K19 hK19 => ?_
          refine CW.region ?_
          refine LW.pure rfl rfl (RV.assign rfl) ?_
          refine LW.nil (hK19 _ _ ?_)
          refine CW.ret ?_
          obtain rfl := Option.some.inj F
          refine ⟨_, (ResOK.one rfl), ?_⟩
          refine ⟨(by first | rfl | simp), rfl⟩
set_option maxRecDepth 20000 in
set_option maxHeartbeats 1000000 in
theorem cmp_Or_int_ex {a0 : List Int} {A_a0 : Option Addr} {c_a0 : Nat} {w : World} {res : Int} (h_a0 : Sl w A_a0 c_a0 1 (a0.map encN)) (F : cmp_Or_int a0 = some res) : Calls Try.prog 98 #[.slice A_a0 a0.length c_a0] w (fun e w' => e = .returned (.int .i64 res) ∧ w' = w) := by
  refine calls_of_cw (args := [.slice A_a0 a0.length c_a0]) Try.func98 rfl rfl rfl rfl ?_
  have R0 : Ext w w := Ext.refl w
  unfold cmp_Or_int at F
  refine CW.seq fun K1 hK1 => ?_
  refine CW.region ?_
  refine LW.pure rfl rfl (RV.assign rfl) ?_
  refine LW.nil (hK1 _ _ ?_)
  refine CW.seq fun K2 hK2 => ?_
  refine CW.region ?_
  refine LW.pure rfl rfl (RV.assign rfl) ?_
  refine LW.nil (hK2 _ _ ?_)
  refine CW.seqJ (fun ρ wl1 => (cmp_Or_int_k1 = some res ∧ ρ = [(2, .int .i64 0), (3, .int .i64 0)] ∧ w = wl1)) ?_ ?_
  ·
    rintro _ _ ⟨F, rfl, rfl⟩
    have R0 : Ext w w := Ext.refl w
    unfold cmp_Or_int_k1 at F
    refine CW.seq fun K3 hK3 => ?_
    refine CW.region ?_
    refine LW.pure rfl rfl (RV.move rfl) ?_
    refine LW.pure rfl rfl (RV.assign rfl) ?_
    refine LW.nil (hK3 _ _ ?_)
    refine CW.ret ?_
    obtain rfl := Option.some.inj F
    refine ⟨_, (ResOK.one rfl), ?_⟩
    refine ⟨(by first | rfl | simp), rfl⟩
  ·
    intro K4 hK4 jK65
    refine CW.seq fun K5 hK5 => ?_
    refine CW.region ?_
    refine LW.pure rfl rfl (RV.move rfl) ?_
    refine LW.pure rfl rfl (RV.len Ts43 rfl) ?_
    refine LW.pure rfl rfl (RV.move rfl) ?_
    refine LW.nil (hK5 _ _ ?_)
    refine CW.block ?_
    refine CW.loop (fun meas ρ wl2 => ∃ (t8_1 : Int), cmp_Or_int_L1 a0 meas t8_1 = some res ∧ ρ = [(2, .int .i64 0), (3, .int .i64 0), (6, .slice A_a0 a0.length c_a0), (7, .int .i64 ((a0.length : Int))), (8, .int .i64 t8_1)] ∧ w = wl2) FU ⟨_, ?_, ((0 : Int)), F, rfl, rfl⟩ ?_
    · exact ⟨rfl, rfl, rfl, rfl, rfl, trivial⟩
    rintro mk1 _ _ ⟨t8_1, F, rfl, rfl⟩
    have R0 : Ext w w := Ext.refl w
    replace F := cmp_Or_int_L1_s F
    obtain ⟨mk1, rfl, F⟩ := F
    generalize hrec1 : cmp_Or_int_L1 a0 mk1 = rec1 at F
    unfold cmp_Or_int_B1 at F
    refine CW.seq fun K6 hK6 => ?_
    refine CW.region ?_
    refine LW.pure rfl rfl (RV.lss rfl rfl) ?_
    refine LW.nil (hK6 _ _ ?_)
    refine CW.seq fun K7 hK7 => ?_
    by_cases hp1 : t8_1 < ((a0.length : Int))
    ·
      replace F := ite_y hp1 F
      have hq1 := dec_t hp1
      refine CW.condT rfl hq1 ?_
      refine CW.skip (hK7 _ _ ?_)
      refine CW.seq fun K8 hK8 => ?_
      refine CW.block ?_
      refine CW.seq fun K9 hK9 => ?_
      obtain ⟨x1, hbx1, hx1, F⟩ := ix_some F
      refine CW.region ?_
      refine LW.pure rfl rfl (RV.indexAddr Ts43 rfl rfl hbx1 (h_a0.addr_ hx1)) ?_
      refine LW.pure rfl rfl (RV.load1 Tk3 rfl ((h_a0.at_ hx1).ext R0) rfl) ?_
      refine LW.pure rfl rfl (RV.assign rfl) ?_
      refine LW.nil (hK9 _ _ ?_)
      refine CW.seq fun K10 hK10 => ?_
      refine CW.region ?_
      refine LW.pure rfl rfl (RV.move rfl) ?_
      refine LW.pure rfl rfl (RV.move rfl) ?_
      refine LW.pure rfl rfl (RV.nei rfl rfl) ?_
      refine LW.nil (hK10 _ _ ?_)
      by_cases hp2 : x1 = 0
      ·
        replace F := ite_y hp2 F
        have hq2 := dec_t hp2
        refine CW.condF rfl (not_f hq2) ?_
        refine CW.skip (hK8 _ _ ?_)
        obtain ⟨hg1, F⟩ := gd_some F
        refine CW.region ?_
        refine LW.pure rfl rfl (RV.add rfl rfl hg1) ?_
        refine LW.pure rfl rfl (RV.move rfl) ?_
        refine LW.nil ?_
        subst hrec1
        refine ⟨mk1, Nat.lt_succ_self _, _, ?_, (t8_1 + 1), F, rfl, rfl⟩
        exact ⟨rfl, rfl, rfl, rfl, rfl, trivial⟩
      ·
        replace F := ite_n hp2 F
        have hq2 := dec_f hp2
        refine CW.condT rfl (not_t hq2) ?_
        refine CW.seq fun K11 hK11 => ?_
        refine CW.region ?_
        refine LW.pure rfl rfl (RV.move rfl) ?_
        refine LW.pure rfl rfl (RV.assign rfl) ?_
        refine LW.nil (hK11 _ _ ?_)
        refine CW.ret ?_
        obtain rfl := Option.some.inj F
        refine ⟨_, (ResOK.one rfl), ?_⟩
        refine ⟨(by first | rfl | simp), rfl⟩
    ·
      replace F := ite_n hp1 F
      have hq1 := dec_f hp1
      refine CW.condF rfl hq1 ?_
      refine CW.exit (jK65 _ _ ⟨_, ?_, ⟨F, rfl, rfl⟩⟩)
      exact ⟨rfl, rfl, trivial⟩
end Go.D3s
