/- Lemmas and walks that the proof of this claim uses: Tb10. -/
import Derived.Test.YtmjadkjcbaohbaaTbList
set_option linter.unusedVariables false
set_option linter.unusedSimpArgs false
namespace Go.Tb
open Go.RowKit

/-! ### what the call owns: a list of chunks, each in blocks of its own -/
def adB : Option Addr → List Nat
  | none => []
  | some a => [a.block]
theorem mem_adB {A : Option Addr} {b : Nat} : b ∈ adB A ↔ ∃ a, A = some a ∧ b = a.block := by
  cases A with
  | none => simp [adB]
  | some a => simp [adB]

inductive Ck where
  | blk (b t : Nat) (cs : List Value)
  | own (A : Option Addr) (c e k : Nat) (rows : List (List Value))
  | tab (A : Option Addr) (c to : Nat) (hs : List (Option Addr × Nat)) (ti k : Nat) (m : List (List (List Value)))

structure TabH (w : World) (A : Option Addr) (c to : Nat) (hs : List (Option Addr × Nat)) (ti k : Nat) (m : List (List (List Value))) : Prop where
  len : hs.length = m.length
  outer : Own w A c to 1 ((hs.zip m).map encH)
  row : ∀ (i : Nat) (B : Option Addr) (d : Nat) (l : List (List Value)), hs[i]? = some (B, d) → m[i]? = some l → Own w B d ti k l
  nd : ∀ (i j : Nat) (B : Option Addr) (d : Nat) (B' : Option Addr) (d' b : Nat), hs[i]? = some (B, d) → hs[j]? = some (B', d') → b ∈ adB B → b ∈ adB B' → i = j
  ne : ∀ (i : Nat) (B : Option Addr) (d b : Nat), hs[i]? = some (B, d) → b ∈ adB B → b ∉ adB A

def Ck.bl : Ck → List Nat
  | .blk b _ _ => [b]
  | .own A _ _ _ _ => adB A
  | .tab A _ _ hs _ _ _ => adB A ++ hs.flatMap fun h => adB h.1
def Ck.holds (w : World) : Ck → Prop
  | .blk b t cs => Blk w b t cs
  | .own A c e k rows => Own w A c e k rows
  | .tab A c to hs ti k m => TabH w A c to hs ti k m

theorem Own.keep {w w' : World} {A : Option Addr} {c e k : Nat} {rows : List (List Value)} (h : Own w A c e k rows) (hb : ∀ b ∈ adB A, w'.heap[b]? = w.heap[b]?) : Own w' A c e k rows := by
  obtain ⟨⟨h1, h2⟩, hr⟩ := h
  refine ⟨⟨h1, ?_⟩, hr⟩
  rcases h2 with h2 | ⟨g, cap, cur, hv, hg, hh, r⟩
  · exact .inl h2
  · refine .inr ⟨g, cap, cur, hv, hg, ?_, r⟩
    injection hv with e1
    rw [hb g (by rw [e1]; simp [adB])]
    exact hh
theorem Own.lt {w : World} {A : Option Addr} {c e k : Nat} {rows : List (List Value)} (h : Own w A c e k rows) : ∀ b ∈ adB A, b < w.heap.size := by
  intro b hb
  obtain ⟨a, rfl, rfl⟩ := mem_adB.1 hb
  rcases h.blk with ⟨h1, _⟩ | ⟨g, sp, h1, hk, _⟩
  · cases h1
  · cases h1; exact Blk.lt ‹Blk w g _ _›
theorem TabH.bl_at {w : World} {A : Option Addr} {c to : Nat} {hs : List (Option Addr × Nat)} {ti k : Nat} {m : List (List (List Value))} {b : Nat} :
    b ∈ (Ck.tab A c to hs ti k m).bl ↔ b ∈ adB A ∨ ∃ (i : Nat) (B : Option Addr) (d : Nat), hs[i]? = some (B, d) ∧ b ∈ adB B := by
  simp only [Ck.bl, List.mem_append, List.mem_flatMap]
  refine or_congr Iff.rfl ⟨?_, ?_⟩
  · rintro ⟨⟨B, d⟩, hm, hb⟩
    obtain ⟨i, hi⟩ := List.getElem?_of_mem hm
    exact ⟨i, B, d, hi, hb⟩
  · rintro ⟨i, B, d, hi, hb⟩
    exact ⟨(B, d), List.mem_of_getElem? hi, hb⟩
theorem TabH.keep {w w' : World} {A : Option Addr} {c to : Nat} {hs : List (Option Addr × Nat)} {ti k : Nat} {m : List (List (List Value))} (h : TabH w A c to hs ti k m)
    (hb : ∀ b ∈ (Ck.tab A c to hs ti k m).bl, w'.heap[b]? = w.heap[b]?) : TabH w' A c to hs ti k m :=
  ⟨h.len, h.outer.keep fun b h' => hb b ((TabH.bl_at (w := w)).2 (.inl h')), fun i B d l hi hl => (h.row i B d l hi hl).keep fun b h' => hb b ((TabH.bl_at (w := w)).2 (.inr ⟨i, B, d, hi, h'⟩)), h.nd, h.ne⟩
theorem TabH.lt {w : World} {A : Option Addr} {c to : Nat} {hs : List (Option Addr × Nat)} {ti k : Nat} {m : List (List (List Value))} (h : TabH w A c to hs ti k m) : ∀ b ∈ (Ck.tab A c to hs ti k m).bl, b < w.heap.size := by
  intro b hb
  rcases (TabH.bl_at (w := w)).1 hb with hb | ⟨i, B, d, hi, hb⟩
  · exact h.outer.lt b hb
  · have hlt : i < m.length := by rw [← h.len]; exact lt_of_at hi
    exact (h.row i B d m[i] hi (by simp [hlt])).lt b hb
theorem Ck.keep {w w' : World} {x : Ck} (h : x.holds w) (hb : ∀ b ∈ x.bl, w'.heap[b]? = w.heap[b]?) : x.holds w' := by
  cases x with
  | blk b t cs => exact (hb b (by simp [Ck.bl])).trans h
  | own A c e k rows => exact Own.keep h hb
  | tab A c to hs ti k m => exact TabH.keep h hb
theorem Ck.lt {w : World} {x : Ck} (h : x.holds w) : ∀ b ∈ x.bl, b < w.heap.size := by
  cases x with
  | blk b t cs => intro b' hb; simp [Ck.bl] at hb; subst hb; exact Blk.lt h
  | own A c e k rows => exact Own.lt h
  | tab A c to hs ti k m => exact TabH.lt h

structure Hp (w0 w : World) (L : List Ck) : Prop where
  ext : Ext w0 w
  holds : ∀ (i : Nat) (x : Ck), L[i]? = some x → x.holds w
  disj : ∀ (i j : Nat) (x y : Ck), L[i]? = some x → L[j]? = some y → i ≠ j → ∀ b ∈ x.bl, b ∉ y.bl
  fresh : ∀ (i : Nat) (x : Ck), L[i]? = some x → ∀ b ∈ x.bl, w0.heap.size ≤ b

theorem Hp.start (w : World) : Hp w w [] := ⟨Ext.refl w, by simp, by simp, by simp⟩
theorem Hp.of_ext {w w' : World} (e : Ext w w') : Hp w w' [] := ⟨e, by simp, by simp, by simp⟩
section
variable {w0 w w' : World} {L L' : List Ck}
theorem Hp.grow (h : Hp w0 w L) (e : Ext w w') : Hp w0 w' L :=
  ⟨h.ext.trans e, fun i x hx => Ck.keep (h.holds i x hx) fun b hb => Below.block e b (Ck.lt (h.holds i x hx) b hb), h.disj, h.fresh⟩
theorem Hp.cons (h : Hp w0 w L) (e : Ext w w') {x : Ck} (hx : x.holds w') (fr : ∀ b ∈ x.bl, w.heap.size ≤ b) : Hp w0 w' (x :: L) := by
  have g := h.grow e
  refine ⟨g.ext, fun i y hy => ?_, fun i j y z hy hz hij b hb => ?_, fun i y hy b hb => ?_⟩
  · cases i with
    | zero => simp at hy; subst hy; exact hx
    | succ i => exact g.holds i y (by simpa using hy)
  · cases i with
    | zero =>
      simp at hy; subst hy
      cases j with
      | zero => exact absurd rfl hij
      | succ j =>
        intro hc
        have := Ck.lt (h.holds j z (by simpa using hz)) b hc
        have := fr b hb
        omega
    | succ i =>
      cases j with
      | zero =>
        simp at hz; subst hz
        intro hc
        have := Ck.lt (h.holds i y (by simpa using hy)) b hb
        have := fr b hc
        omega
      | succ j => exact h.disj i j y z (by simpa using hy) (by simpa using hz) (by omega) b hb
  · cases i with
    | zero => simp at hy; subst hy; exact Nat.le_trans h.ext.size (fr b hb)
    | succ i => exact h.fresh i y (by simpa using hy) b hb
theorem Hp.new (h : Hp w0 w L) {b t : Nat} {o : Obj} {cs : List Value} (n : New w w' b o) (f : Blk w' b t cs) : Hp w0 w' (.blk b t cs :: L) :=
  h.cons n.ext f (by intro b' hb; simp [Ck.bl] at hb; subst hb; rw [n.at_]; exact Nat.le_refl _)
theorem Hp.newOwn (h : Hp w0 w L) (e : Ext w w') {A : Option Addr} {c t k : Nat} {rows : List (List Value)} (o : Own w' A c t k rows) (fr : ∀ a, A = some a → w.heap.size ≤ a.block) : Hp w0 w' (.own A c t k rows :: L) :=
  h.cons e o (by intro b hb; obtain ⟨a, ha, rfl⟩ := mem_adB.1 hb; exact fr a ha)
/-- A made slice. -/
theorem Hp.made {α : Type} {enc : α → List Value} {l : List α} (h : Hp w0 w L) {b t k : Nat} {o : Obj} (n : New w w' b o) (f : Blk w' b t (l.flatMap enc)) (hk : ∀ x, (enc x).length = k) (hm : l.length ≤ 9223372036854775807) : Hp w0 w' (.own (some ⟨b, 0, none⟩) l.length t k (l.map enc) :: L) :=
  h.newOwn n.ext (Blk.own_ f hk hm) (by intro a ha; cases ha; show w.heap.size ≤ b; rw [n.at_]; exact Nat.le_refl _)
/-- A slice without a block. -/
theorem Hp.nilOwn (h : Hp w0 w L) (e k : Nat) : Hp w0 w (.own none 0 e k [] :: L) := h.newOwn (Ext.refl w) (Own.nil w e k) (by intro a ha; cases ha)
theorem Hp.blk (h : Hp w0 w L) (p : Nat) {b t : Nat} {cs : List Value} (hp : L[p]? = some (.blk b t cs)) : Blk w b t cs := h.holds p _ hp
theorem Hp.own (h : Hp w0 w L) (p : Nat) {A : Option Addr} {c e k : Nat} {rows : List (List Value)} (hp : L[p]? = some (.own A c e k rows)) : Own w A c e k rows := h.holds p _ hp
theorem Hp.tab (h : Hp w0 w L) (p : Nat) {A : Option Addr} {c to : Nat} {hs : List (Option Addr × Nat)} {ti k : Nat} {m : List (List (List Value))} (hp : L[p]? = some (.tab A c to hs ti k m)) : TabH w A c to hs ti k m := h.holds p _ hp

/-- One chunk turns. -/
theorem Hp.step (h : Hp w0 w L) (p : Nat) {x y : Ck} (hp : L[p]? = some x) (e : Ext w0 w') (other : ∀ b, b < w.heap.size → b ∉ x.bl → w'.heap[b]? = w.heap[b]?) (hy : y.holds w') (hin : ∀ b ∈ y.bl, b ∈ x.bl ∨ w.heap.size ≤ b) : Hp w0 w' (L.set p y) := by
  have hlt := lt_of_at hp
  have old : ∀ (i : Nat) (z : Ck), (L.set p y)[i]? = some z → (i = p ∧ z = y) ∨ (i ≠ p ∧ L[i]? = some z) := by
    intro i z hz
    by_cases hi : i = p
    · subst hi; rw [List.getElem?_set_self hlt] at hz; cases hz; exact .inl ⟨rfl, rfl⟩
    · rw [List.getElem?_set_ne (Ne.symm hi)] at hz; exact .inr ⟨hi, hz⟩
  refine ⟨e, fun i z hz => ?_, fun i j z u hz hu hij b hb => ?_, fun i z hz b hb => ?_⟩
  · rcases old i z hz with ⟨_, rfl⟩ | ⟨hi, hz⟩
    · exact hy
    · exact Ck.keep (h.holds i z hz) fun b hb => other b (Ck.lt (h.holds i z hz) b hb) (h.disj i p z x hz hp hi b hb)
  · rcases old i z hz with ⟨hi, rfl⟩ | ⟨hi, hz⟩ <;> rcases old j u hu with ⟨hj, e2⟩ | ⟨hj, hu⟩
    · exact absurd (hi.trans hj.symm) hij
    · rcases hin b hb with hb | hb
      · exact h.disj p j x u hp hu (fun e => hj e.symm) b hb
      · intro hc; have := Ck.lt (h.holds j u hu) b hc; omega
    · rw [e2]; intro hc
      rcases hin b hc with hc | hc
      · exact h.disj i p z x hz hp hi b hb hc
      · have := Ck.lt (h.holds i z hz) b hb; omega
    · exact h.disj i j z u hz hu hij b hb
  · rcases old i z hz with ⟨hi, rfl⟩ | ⟨hi, hz⟩
    · rcases hin b hb with hb | hb
      · exact h.fresh p x hp b hb
      · exact Nat.le_trans h.ext.size hb
    · exact h.fresh i z hz b hb
theorem Hp.stored (h : Hp w0 w L) (p : Nat) {b t : Nat} {cs cs' : List Value} (hp : L[p]? = some (.blk b t cs)) (s : Stored w w' b t cs') : Hp w0 w' (L.set p (.blk b t cs')) := by
  have hG := h.fresh p _ hp b (by simp [Ck.bl])
  refine h.step p hp (h.ext.stored s hG) (fun k _ hk => s.other k (fun e => hk (by simp [Ck.bl, e]))) s.blk (fun b hb => .inl hb)
theorem Mod.other {A : Option Addr} (m : Mod w w' A) {k : Nat} (hk : k < w.heap.size) (hn : k ∉ adB A) : w'.heap[k]? = w.heap[k]? :=
  m.block k hk fun e => by
    cases A with
    | none => simp [blkOf] at e
    | some a => simp [blkOf] at e; exact hn (by simp [adB, e])
theorem Hp.extMod (h : Hp w0 w L) {A : Option Addr} (m : Mod w w' A) (hA : ∀ b ∈ adB A, w0.heap.size ≤ b) : Ext w0 w' :=
  h.ext.mod m fun a ha => hA _ (mem_adB.2 ⟨a, ha, rfl⟩)
theorem Hp.mod (h : Hp w0 w L) (p : Nat) {A A' : Option Addr} {c c' e k : Nat} {rows rows' : List (List Value)} (hp : L[p]? = some (.own A c e k rows)) (m : Mod w w' A) (o : Own w' A' c' e k rows') (hd : A' = A ∨ ∃ a, A' = some a ∧ w.heap.size ≤ a.block) : Hp w0 w' (L.set p (.own A' c' e k rows')) := by
  refine h.step p hp (h.extMod m (h.fresh p _ hp)) (fun b hb hn => m.other hb hn) o fun b hb => ?_
  rcases hd with rfl | ⟨a, rfl, ha⟩
  · exact .inl hb
  · simp [Ck.bl, adB] at hb; subst hb; exact .inr ha
theorem Hp.pick (h : Hp w0 w L) (is : List Nat) (nd : is.Nodup) (hL : is.map (fun i => L[i]?) = L'.map some) : Hp w0 w L' := by
  have at_ : ∀ (i : Nat) (x : Ck), L'[i]? = some x → ∃ j, is[i]? = some j ∧ L[j]? = some x := by
    intro i x hx
    have h1 : (L'.map some)[i]? = some (some x) := by simp [hx]
    rw [← hL] at h1
    simpa using h1
  refine ⟨h.ext, fun i x hx => ?_, fun i j x y hx hy hij => ?_, fun i x hx => ?_⟩
  · obtain ⟨j, _, hj⟩ := at_ i x hx; exact h.holds j x hj
  · obtain ⟨p, hp, hp'⟩ := at_ i x hx
    obtain ⟨q, hq, hq'⟩ := at_ j y hy
    refine h.disj p q x y hp' hq' fun e => hij ?_
    subst e
    exact (List.getElem?_inj (lt_of_at hp) nd).1 (hp.trans hq.symm)
  · obtain ⟨j, _, hj⟩ := at_ i x hx; exact h.fresh j x hj
theorem Hp.append (h : Hp w0 w L) (k : Hp w w' L') : Hp w0 w' (L' ++ L) := by
  have g := h.grow k.ext
  have at_ : ∀ (i : Nat) (x : Ck), (L' ++ L)[i]? = some x → (i < L'.length ∧ L'[i]? = some x) ∨ (L'.length ≤ i ∧ L[i - L'.length]? = some x) := by
    intro i x hx
    by_cases hi : i < L'.length
    · rw [List.getElem?_append_left hi] at hx; exact .inl ⟨hi, hx⟩
    · rw [List.getElem?_append_right (by omega)] at hx; exact .inr ⟨by omega, hx⟩
  refine ⟨g.ext, fun i x hx => ?_, fun i j x y hx hy hij b hb => ?_, fun i x hx b hb => ?_⟩
  · rcases at_ i x hx with ⟨_, hx⟩ | ⟨_, hx⟩
    · exact k.holds _ _ hx
    · exact g.holds _ _ hx
  · rcases at_ i x hx with ⟨hi, hx⟩ | ⟨hi, hx⟩ <;> rcases at_ j y hy with ⟨hj, hy⟩ | ⟨hj, hy⟩
    · exact k.disj i j x y hx hy hij b hb
    · intro hc; have := k.fresh _ _ hx b hb; have := Ck.lt (h.holds _ _ hy) b hc; omega
    · intro hc; have := k.fresh _ _ hy b hc; have := Ck.lt (h.holds _ _ hx) b hb; omega
    · exact h.disj _ _ x y hx hy (by omega) b hb
  · rcases at_ i x hx with ⟨_, hx⟩ | ⟨_, hx⟩
    · exact Nat.le_trans h.ext.size (k.fresh _ _ hx b hb)
    · exact h.fresh _ _ hx b hb
end
end Go.Tb
