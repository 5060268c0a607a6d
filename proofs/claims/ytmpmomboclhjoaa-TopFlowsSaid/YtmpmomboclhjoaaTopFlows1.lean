/- Lemmas and walks that the proof of this claim uses: D2m1, D2f1, D2f2, D2f3, Tb29, D2s1, Tb30, D2s2, D2m2D, TbDrainOpen, D2m3D, D2m5D, D2m6D, D2m8D, D2m9D, D2m10D, D2m13D, D2m14D, D2m15D, D2m17D, Tb31, D2n1D, Tb32, Tb34, Tb35, D2k1D, D2k2D. -/
import Derived.Test.YtmpmomboclhjoaaTopFlows0
set_option linter.unusedVariables false
set_option linter.unusedSimpArgs false
namespace Go.D2
open Go.Tb Go.Proofs Go.RowKit
theorem Tf52_0 : tyF Try.prog 52 0 = some 0 := by kernel_rfl
theorem Tf52_1 : tyF Try.prog 52 1 = some 1 := by kernel_rfl
theorem Tf52_2 : tyF Try.prog 52 2 = some 2 := by kernel_rfl
theorem Tf87_0 : tyF Try.prog 87 0 = some 0 := by kernel_rfl
theorem Tf87_1 : tyF Try.prog 87 1 = some 3 := by kernel_rfl
theorem Tk3 : tyK Try.prog 3 = some (false, 1) := by kernel_rfl
theorem mixed : Try.prog.follows .mixedOrders = true := by kernel_rfl
theorem Ts30 : tyS Try.prog 30 = some (3, 1, 8, [.int .i64 0]) := by kernel_rfl
set_option maxRecDepth 20000 in
set_option maxHeartbeats 1000000 in
theorem slices_Clone_int_ok {a0 : List Int} {A_a0 : Option Addr} {c_a0 : Nat} {w : World} {res : List Int} (h_a0 : Sl w A_a0 c_a0 1 (a0.map encN)) (F : slices_Clone_int a0 = some res) : Calls Try.prog 86 #[.slice A_a0 a0.length c_a0] w (fun e w' => ∃ (A0 : Option Addr) (c0 : Nat), e = .returned (.slice A0 res.length c0) ∧ Hp w w' [.own A0 c0 3 1 (List.map encN res)]) := by
  cases A_a0 with
  | none =>
    obtain rfl := Sl.none_nil h_a0
    refine calls_of_cw (args := [.slice none (([] : List Int).length) c_a0]) Try.func86 rfl rfl rfl rfl ?_
    have H := Hp.start w
    have R0 := H.ext
    unfold slices_Clone_int at F
    obtain ⟨_, F⟩ := gd_some F
    refine CW.seq fun K1 hK1 => ?_
    refine CW.region ?_
    refine LW.pure rfl rfl (RV.assign rfl) ?_
    refine LW.nil (hK1 _ _ ?_)
    refine CW.seq fun K2 hK2 => ?_
    refine CW.seq fun K3 hK3 => ?_
    refine CW.region ?_
    refine LW.pure rfl rfl (RV.move rfl) ?_
    refine LW.pure rfl rfl (RV.eqnil Ts30 rfl rfl) ?_
    refine LW.nil (hK3 _ _ ?_)
    refine CW.condT rfl rfl ?_
    refine CW.seq fun K4 hK4 => ?_
    refine CW.region ?_
    refine LW.pure rfl rfl (RV.assign rfl) ?_
    refine LW.nil (hK4 _ _ ?_)
    refine CW.ret ?_
    obtain rfl := Option.some.inj F
    refine ⟨_, (ResOK.one rfl), ?_⟩
    replace H := H.nilOwn 3 1
    replace R0 := H.ext
    exact ⟨none, 0, (by first | rfl | (simp; done) | (simp; omega)), H⟩
  | some ad =>
    refine calls_of_cw (args := [.slice ((some ad)) a0.length c_a0]) Try.func86 rfl rfl rfl rfl ?_
    have H := Hp.start w
    have R0 := H.ext
    unfold slices_Clone_int at F
    refine CW.seq fun K1 hK1 => ?_
    refine CW.region ?_
    refine LW.pure rfl rfl (RV.assign rfl) ?_
    refine LW.nil (hK1 _ _ ?_)
    refine CW.seq fun K2 hK2 => ?_
    refine CW.seq fun K3 hK3 => ?_
    refine CW.region ?_
    refine LW.pure rfl rfl (RV.move rfl) ?_
    refine LW.pure rfl rfl (RV.eqnil Ts30 rfl rfl) ?_
    refine LW.nil (hK3 _ _ ?_)
    refine CW.condF rfl rfl ?_
    refine CW.skip (hK2 _ _ ?_)
    refine CW.seq fun K4 hK4 => ?_
    obtain ⟨hg1, F⟩ := gd_some F
    refine CW.region ?_
    refine LW.go rfl rfl (OW.buildSlice (e := 3) (vs := []) (cs := []) rfl (fun _ => by kernel_rfl) fun b2 w3 N2 => ?_)
    replace H := H.made' (k := 1) (t := 3) (enc := encN) (l := ([] : List Int)) N2 N2.blk (fun _ => rfl) rfl (by first | decide | omega | (simp; done) | (simp; omega))
    replace R0 := H.ext
    refine LW.pure rfl rfl (RV.move rfl) ?_
    refine LW.go rfl rfl (OW.appendG (enc := encN) (l := ([] : List Int)) (xs := a0) Ts30 (look_slice rfl (by first | rfl | (simp; done) | (simp; omega))) rfl (H.own 0 rfl) (h_a0.ext R0) (fun _ => rfl) rfl rfl hg1 (by decide) fun A2 c2 w4 O2 M2 D2 => ?_)
    replace H : Hp w w4 [.own A2 c2 3 1 (List.map encN ((([] : List Int) ++ a0)))] := H.mod 0 rfl M2 O2 D2
    replace R0 := H.ext
    refine LW.pure rfl rfl (RV.assign rfl) ?_
    refine LW.nil (hK4 _ _ ?_)
    refine CW.ret ?_
    obtain rfl := Option.some.inj F
    refine ⟨_, (ResOK.one rfl), ?_⟩
    exact ⟨A2, c2, (by first | rfl | (simp; done) | (simp; omega)), H⟩
set_option maxRecDepth 20000 in
set_option maxHeartbeats 1000000 in
theorem drain_left_room_ok {a0 : Left} {a1 : Int} {w : World} {res : Int × Int} (F : drain_left_room a0 a1 = some res) : Calls Try.prog 90 #[.agg #[.int .i64 a0.drain.from_, .int .i64 a0.drain.to_, .int .i64 a0.drain.width, .int .i64 a0.runs], .int .i64 a1] w (Rt w (.tuple #[.int .i64 res.1, .int .i64 res.2])) := by
  refine calls_of_cw (args := [.agg #[.int .i64 a0.drain.from_, .int .i64 a0.drain.to_, .int .i64 a0.drain.width, .int .i64 a0.runs], .int .i64 a1]) Try.func90 rfl rfl rfl rfl ?_
  have H := Hp.start w
  have R0 := H.ext
  unfold drain_left_room at F
  refine CW.seq fun K1 hK1 => ?_
  refine CW.region ?_
  refine LW.go rfl rfl (OW.box rfl fun b1 w1 N1 => ?_)
  replace H := H.new N1 N1.blk
  replace R0 := H.ext
  refine LW.pure rfl rfl (RV.assign rfl) ?_
  refine LW.pure rfl rfl (RV.assign rfl) ?_
  refine LW.nil (hK1 _ _ ?_)
  refine CW.seq fun K2 hK2 => ?_
  refine CW.seq fun K3 hK3 => ?_
  refine CW.region ?_
  refine LW.pure rfl rfl (RV.fieldAddr Tf87_0 rfl) ?_
  refine LW.pure rfl rfl (RV.fieldAddr Tf52_0 rfl) ?_
  refine LW.pure rfl rfl (RV.load1 Tk3 rfl (((H.blk 0 rfl).cells.off 0).off 0) rfl) ?_
  refine LW.pure rfl rfl (RV.move rfl) ?_
  refine LW.pure rfl rfl (RV.eqi rfl rfl) ?_
  refine LW.nil (hK3 _ _ ?_)
  by_cases hp1 : a0.drain.from_ = a1
  ·
    replace F := ite_y hp1 F
    have hq1 := dec_t hp1
    refine CW.condT rfl hq1 ?_
    refine CW.seq fun K4 hK4 => ?_
    obtain ⟨hg1, F⟩ := gd_some F
    refine CW.draw [] (fun _ => True) (.cons 0 1 (.cons 1 1 (.cons 2 1 (.cons 3 1 (.cons 4 1 (.cons 5 1 (.cons 6 1 (.cons 7 1 (.cons 8 1 (.cons 9 1 (.cons 10 1 .nil))))))))))) mixed (by kernel_rfl) fun w2 E1 => ?_
    replace H := H.grow E1
    replace R0 := H.ext
    refine DW.fix rfl rfl rfl (fun _ EQ => RV.fieldAddr Tf87_0 rfl) ?_
    refine DW.fix rfl rfl rfl (fun _ EQ => RV.fieldAddr Tf52_1 rfl) ?_
    refine DW.fix rfl rfl rfl (fun _ EQ => RV.load1 Tk3 rfl ((((H.grow EQ).blk 0 rfl).cells.off 0).off 1) rfl) ?_
    refine DW.fix rfl rfl rfl (fun _ EQ => RV.fieldAddr Tf87_0 rfl) ?_
    refine DW.fix rfl rfl rfl (fun _ EQ => RV.fieldAddr Tf52_2 rfl) ?_
    refine DW.fix rfl rfl rfl (fun _ EQ => RV.load1 Tk3 rfl ((((H.grow EQ).blk 0 rfl).cells.off 0).off 2) rfl) ?_
    refine DW.fix rfl rfl rfl (fun _ EQ => RV.fieldAddr Tf87_1 rfl) ?_
    refine DW.fix rfl rfl rfl (fun _ EQ => RV.load1 Tk3 rfl (((H.grow EQ).blk 0 rfl).cells.off 3) rfl) ?_
    refine DW.fix rfl rfl rfl (fun _ EQ => RV.sub rfl rfl hg1) ?_
    refine DW.fix rfl rfl rfl (fun _ EQ => RV.assign rfl) ?_
    refine DW.fix rfl rfl rfl (fun _ EQ => RV.assign rfl) ?_
    refine DW.nil (hK4 _ _ ?_)
    refine CW.ret ?_
    obtain rfl := Option.some.inj F
    refine ⟨_, (ResOK.two rfl rfl), ?_⟩
    refine ⟨(by first | rfl | simp), R0⟩
  ·
    replace F := ite_n hp1 F
    have hq1 := dec_f hp1
    refine CW.condF rfl hq1 ?_
    refine CW.skip (hK2 _ _ ?_)
    refine CW.seq fun K5 hK5 => ?_
    refine CW.draw [] (fun _ => True) (.cons 0 1 (.cons 1 1 (.cons 2 1 (.cons 3 1 (.cons 4 1 (.cons 5 1 (.cons 6 1 .nil))))))) mixed (by kernel_rfl) fun w3 E2 => ?_
    replace H := H.grow E2
    replace R0 := H.ext
    refine DW.fix rfl rfl rfl (fun _ EQ => RV.fieldAddr Tf87_0 rfl) ?_
    refine DW.fix rfl rfl rfl (fun _ EQ => RV.fieldAddr Tf52_0 rfl) ?_
    refine DW.fix rfl rfl rfl (fun _ EQ => RV.load1 Tk3 rfl ((((H.grow EQ).blk 0 rfl).cells.off 0).off 0) rfl) ?_
    refine DW.fix rfl rfl rfl (fun _ EQ => RV.fieldAddr Tf87_1 rfl) ?_
    refine DW.fix rfl rfl rfl (fun _ EQ => RV.load1 Tk3 rfl (((H.grow EQ).blk 0 rfl).cells.off 3) rfl) ?_
    refine DW.fix rfl rfl rfl (fun _ EQ => RV.assign rfl) ?_
    refine DW.fix rfl rfl rfl (fun _ EQ => RV.assign rfl) ?_
    refine DW.nil (hK5 _ _ ?_)
    refine CW.ret ?_
    obtain rfl := Option.some.inj F
    refine ⟨_, (ResOK.two rfl rfl), ?_⟩
    refine ⟨(by first | rfl | simp), R0⟩
end Go.D2

set_option linter.unusedVariables false
set_option linter.unusedSimpArgs false
namespace Go.D2
/-- A drain: its ends, its width, what runs. -/
structure Ed where
  a : Int
  b : Int
  c : Int
  f : Int
def out : List Ed → Int → Int
  | [], _ => 0
  | e :: r, v => ((if e.a = v then e.f else 0) - (if e.b = v then e.f else 0)) + out r v
def netS (S : Int → Bool) : List Ed → Int
  | [] => 0
  | e :: r => ((if S e.a = true then e.f else 0) - (if S e.b = true then e.f else 0)) + netS S r
def cutW (S : Int → Bool) : List Ed → Int
  | [] => 0
  | e :: r => (if S e.a = true ∧ S e.b = false then e.c else 0) + cutW S r
def sumTo (g : Int → Int) : Nat → Int
  | 0 => 0
  | n + 1 => sumTo g n + g (n : Int)
theorem sumTo_add (g h : Int → Int) : ∀ n, sumTo (fun v => g v + h v) n = sumTo g n + sumTo h n
  | 0 => rfl
  | n + 1 => by simp only [sumTo, sumTo_add g h n]; omega
theorem sumTo_sub (g h : Int → Int) : ∀ n, sumTo (fun v => g v - h v) n = sumTo g n - sumTo h n
  | 0 => rfl
  | n + 1 => by simp only [sumTo, sumTo_sub g h n]; omega
theorem sumTo_congr {g h : Int → Int} : ∀ n : Nat, (∀ v : Int, 0 ≤ v → v < n → g v = h v) → sumTo g n = sumTo h n
  | 0, _ => rfl
  | n + 1, hh => by
    simp only [sumTo]
    rw [sumTo_congr n (fun v h1 h2 => hh v h1 (by omega)), hh n (by omega) (by omega)]
theorem sumTo_zero : ∀ n : Nat, sumTo (fun _ => 0) n = 0
  | 0 => rfl
  | n + 1 => by simp only [sumTo, sumTo_zero n]; rfl
theorem sumTo_point (x : Int) (F : Int) : ∀ n : Nat, sumTo (fun v => if x = v then F else 0) n = if 0 ≤ x ∧ x < n then F else 0
  | 0 => by
    simp only [sumTo]
    rw [if_neg (by omega)]
  | n + 1 => by
    simp only [sumTo, sumTo_point x F n]
    by_cases h : x = (n : Int)
    · subst h
      rw [if_neg (by omega), if_pos rfl, if_pos (by omega)]; omega
    · by_cases h2 : 0 ≤ x ∧ x < n
      · rw [if_pos h2, if_neg h, if_pos (by omega)]; omega
      · rw [if_neg h2, if_neg h, if_neg (by omega)]; omega
def In (n : Nat) (E : List Ed) : Prop := ∀ e ∈ E, (0 ≤ e.a ∧ e.a < n) ∧ (0 ≤ e.b ∧ e.b < n)
theorem In.tail {n : Nat} {e : Ed} {r : List Ed} (h : In n (e :: r)) : In n r := fun x hx => h x (List.mem_cons_of_mem _ hx)
/-- The sum of what goes out of the nodes of a set. -/
theorem net_sum {n : Nat} (S : Int → Bool) : ∀ E : List Ed, In n E → sumTo (fun v => if S v = true then out E v else 0) n = netS S E
  | [], _ => by
    simp only [out, netS]
    rw [sumTo_congr (h := fun _ => 0) n (fun v _ _ => by split <;> rfl), sumTo_zero]
  | e :: r, h => by
    have ih := net_sum S r h.tail
    have ⟨⟨a1, a2⟩, ⟨b1, b2⟩⟩ := h e (List.mem_cons_self ..)
    simp only [netS, ← ih]
    rw [sumTo_congr (h := fun v => ((if e.a = v then (if S e.a = true then e.f else 0) else 0) - (if e.b = v then (if S e.b = true then e.f else 0) else 0)) + (if S v = true then out r v else 0)) n (fun v _ _ => ?_)]
    · rw [sumTo_add, sumTo_sub, sumTo_point, sumTo_point, if_pos (show 0 ≤ e.a ∧ e.a < (n : Int) from ⟨a1, a2⟩), if_pos (show 0 ≤ e.b ∧ e.b < (n : Int) from ⟨b1, b2⟩)]
    · simp only [out]
      by_cases ha : e.a = v
      · by_cases hb : e.b = v
        · subst ha; rw [hb]
          cases S e.a <;> simp
        · subst ha
          rw [if_neg hb, if_neg hb]
          cases S e.a <;> simp
      · by_cases hb : e.b = v
        · subst hb
          rw [if_neg ha, if_neg ha]
          cases S e.b <;> simp
        · rw [if_neg ha, if_neg hb, if_neg ha, if_neg hb]
          cases S v <;> simp
structure Flow (n : Nat) (s t : Int) (E : List Ed) : Prop where
  dom : In n E
  cap : ∀ e ∈ E, 0 ≤ e.f ∧ e.f ≤ e.c
  con : ∀ v : Int, 0 ≤ v → v < n → v ≠ s → v ≠ t → out E v = 0
theorem flow_val {n : Nat} {s t : Int} {E : List Ed} (F : Flow n s t E) (hs : 0 ≤ s ∧ s < n) {S : Int → Bool} (h1 : S s = true) (h2 : S t = false) : out E s = netS S E := by
  rw [← net_sum S E F.dom]
  rw [sumTo_congr (h := fun v => if s = v then out E s else 0) n (fun v v1 v2 => ?_), sumTo_point, if_pos hs]
  by_cases hv : s = v
  · subst hv; rw [if_pos rfl, if_pos h1]
  · rw [if_neg hv]
    by_cases ht : v = t
    · subst ht; rw [h2]; rfl
    · rw [F.con v v1 v2 (fun e => hv e.symm) ht]; split <;> rfl
/-- The drains across a set are full, those back are empty. -/
def Tight (S : Int → Bool) (E : List Ed) : Prop := ∀ e ∈ E, (S e.a = true → S e.b = false → e.f = e.c) ∧ (S e.a = false → S e.b = true → e.f = 0)
theorem net_cut (S : Int → Bool) : ∀ E : List Ed, (∀ e ∈ E, 0 ≤ e.f ∧ e.f ≤ e.c) → netS S E ≤ cutW S E ∧ (netS S E = cutW S E ↔ Tight S E)
  | [], _ => ⟨Int.le_refl _, by simp [netS, cutW, Tight]⟩
  | e :: r, h => by
    have ⟨i1, i2⟩ := net_cut S r (fun x hx => h x (List.mem_cons_of_mem _ hx))
    have ⟨f0, f1⟩ := h e (List.mem_cons_self ..)
    have tl : Tight S (e :: r) ↔ ((S e.a = true → S e.b = false → e.f = e.c) ∧ (S e.a = false → S e.b = true → e.f = 0)) ∧ Tight S r := by
      constructor
      · intro t; exact ⟨t e (List.mem_cons_self ..), fun x hx => t x (List.mem_cons_of_mem _ hx)⟩
      · rintro ⟨t1, t2⟩ x hx
        rcases List.mem_cons.1 hx with rfl | hx
        · exact t1
        · exact t2 x hx
    have ed : ((if S e.a = true then e.f else 0) - (if S e.b = true then e.f else 0)) ≤ (if S e.a = true ∧ S e.b = false then e.c else 0) ∧
        (((if S e.a = true then e.f else 0) - (if S e.b = true then e.f else 0)) = (if S e.a = true ∧ S e.b = false then e.c else 0) ↔ ((S e.a = true → S e.b = false → e.f = e.c) ∧ (S e.a = false → S e.b = true → e.f = 0))) := by
      cases S e.a <;> cases S e.b <;> simp <;> omega
    rw [tl, ← i2]
    simp only [netS, cutW]
    obtain ⟨e1, e2⟩ := ed
    rw [← e2]
    generalize ((if S e.a = true then e.f else 0) - (if S e.b = true then e.f else 0)) = u at *
    generalize (if S e.a = true ∧ S e.b = false then e.c else 0) = v at *
    exact ⟨by omega, by omega⟩
/-- No flow has a value above the width of a cut. -/
theorem weak {n : Nat} {s t : Int} {E : List Ed} (F : Flow n s t E) (hs : 0 ≤ s ∧ s < n) {S : Int → Bool} (h1 : S s = true) (h2 : S t = false) : out E s ≤ cutW S E := by
  rw [flow_val F hs h1 h2]; exact (net_cut S E F.cap).1
theorem tight_iff {n : Nat} {s t : Int} {E : List Ed} (F : Flow n s t E) (hs : 0 ≤ s ∧ s < n) {S : Int → Bool} (h1 : S s = true) (h2 : S t = false) : out E s = cutW S E ↔ Tight S E := by
  rw [flow_val F hs h1 h2]; exact (net_cut S E F.cap).2
/-- Where more can run to. -/
inductive Reach (E : List Ed) (s : Int) : Int → Prop where
  | here : Reach E s s
  | on {e : Ed} : e ∈ E → Reach E s e.a → e.f < e.c → Reach E s e.b
  | back {e : Ed} : e ∈ E → Reach E s e.b → 0 < e.f → Reach E s e.a
/-- A set that nothing more can leave. -/
def Closed (S : Int → Bool) (E : List Ed) : Prop := ∀ e ∈ E, (S e.a = true → e.f < e.c → S e.b = true) ∧ (S e.b = true → 0 < e.f → S e.a = true)
theorem closed_tight {S : Int → Bool} {E : List Ed} (hc : ∀ e ∈ E, 0 ≤ e.f ∧ e.f ≤ e.c) : Closed S E ↔ Tight S E := by
  constructor
  · intro c e he
    have ⟨c1, c2⟩ := c e he
    have ⟨f0, f1⟩ := hc e he
    refine ⟨fun h1 h2 => ?_, fun h1 h2 => ?_⟩
    · rcases Int.lt_or_le e.f e.c with h | h
      · rw [c1 h1 h] at h2; cases h2
      · omega
    · rcases Int.lt_or_le 0 e.f with h | h
      · rw [c2 h2 h] at h1; cases h1
      · omega
  · intro t e he
    have ⟨t1, t2⟩ := t e he
    refine ⟨fun h1 h2 => ?_, fun h1 h2 => ?_⟩
    · cases hb : S e.b
      · have := t1 h1 hb; omega
      · rfl
    · cases ha : S e.a
      · have := t2 ha h1; omega
      · rfl
theorem Reach.sub {S : Int → Bool} {E : List Ed} {s : Int} (c : Closed S E) (hs : S s = true) {v : Int} (h : Reach E s v) : S v = true := by
  induction h with
  | here => exact hs
  | on he _ hf ih => exact (c _ he).1 ih hf
  | back he _ hf ih => exact (c _ he).2 ih hf
/-- From where more can run to a node. -/
inductive Coreach (E : List Ed) (t : Int) : Int → Prop where
  | here : Coreach E t t
  | on {e : Ed} : e ∈ E → Coreach E t e.b → e.f < e.c → Coreach E t e.a
  | back {e : Ed} : e ∈ E → Coreach E t e.a → 0 < e.f → Coreach E t e.b
theorem Coreach.sub {S : Int → Bool} {E : List Ed} {t : Int} (c : Closed S E) (ht : S t = false) {v : Int} (h : Coreach E t v) : S v = false := by
  induction h with
  | here => exact ht
  | on he _ hf ih =>
    rename_i e _
    cases ha : S e.a
    · rfl
    · rw [(c _ he).1 ha hf] at ih; cases ih
  | back he _ hf ih =>
    rename_i e _
    cases hb : S e.b
    · rfl
    · rw [(c _ he).2 hb hf] at ih; cases ih
theorem Reach.trans_co {E : List Ed} {s v : Int} (h : Reach E s v) : ∀ {t : Int}, Coreach E t v → Coreach E t s := by
  induction h with
  | here => exact fun h => h
  | on he _ hf ih => exact fun h => ih (.on he h hf)
  | back he _ hf ih => exact fun h => ih (.back he h hf)
theorem Coreach.reach {E : List Ed} {t v : Int} (h : Coreach E t v) : Reach E v t := by
  have key : ∀ {u w : Int}, Reach E u w → ∀ {x : Int}, Reach E w x → Reach E u x := by
    intro u w h1 x h2
    induction h2 with
    | here => exact h1
    | on he _ hf ih => exact .on he ih hf
    | back he _ hf ih => exact .back he ih hf
  induction h with
  | here => exact .here
  | on he _ hf ih => exact key (.on he .here hf) ih
  | back he _ hf ih => exact key (.back he .here hf) ih
theorem Reach.co {E : List Ed} {s t : Int} (h : Reach E s t) : Coreach E t s := h.trans_co .here
end Go.D2

set_option linter.unusedVariables false
set_option linter.unusedSimpArgs false
namespace Go.D2
theorem lt_at {α : Type} {l : List α} {i : Nat} {x : α} (h : l[i]? = some x) : i < l.length := (List.getElem?_eq_some_iff.1 h).1
def con1 (e : Ed) (v : Int) : Int := (if e.a = v then e.f else 0) - (if e.b = v then e.f else 0)
theorem out_cons (e : Ed) (r : List Ed) (v : Int) : out (e :: r) v = con1 e v + out r v := rfl
theorem out_set {e e' : Ed} {v : Int} : ∀ {E : List Ed} {i : Nat}, E[i]? = some e → out (E.set i e') v = out E v - con1 e v + con1 e' v
  | [], i, h => by simp at h
  | x :: r, 0, h => by
    simp at h; subst h
    simp only [List.set_cons_zero, out_cons]; omega
  | x :: r, i + 1, h => by
    have ih := out_set (e := e) (e' := e') (v := v) (E := r) (i := i) (by simpa using h)
    simp only [List.set_cons_succ, out_cons, ih]; omega
/-- The other end of a drain, and its room, seen from a node. -/
def other (e : Ed) (u : Int) : Int := if e.a = u then e.b else e.a
def room (e : Ed) (u : Int) : Int := if e.a = u then e.c - e.f else e.f
/-- A way of drains with room, no node twice. -/
def SP (E : List Ed) : List Int → Int → List Nat → Int → Prop
  | _, u, [], v => u = v
  | vis, u, i :: r, v => ∃ e, E[i]? = some e ∧ (e.a = u ∨ e.b = u) ∧ 0 < room e u ∧ other e u ∉ u :: vis ∧ SP E (u :: vis) (other e u) r v
theorem sp_new {E : List Ed} : ∀ (ks : List Nat) (vis : List Int) (u v : Int), SP E vis u ks v → ∀ i ∈ ks, ∃ e y, E[i]? = some e ∧ (y = e.a ∨ y = e.b) ∧ y ∉ u :: vis
  | [], _, _, _, _, i, hi => by cases hi
  | k :: r, vis, u, v, h, i, hi => by
    obtain ⟨e, he, hu, _, hn, hr⟩ := h
    rcases List.mem_cons.1 hi with rfl | hi
    · refine ⟨e, other e u, he, ?_, hn⟩
      unfold other; split
      · exact .inr rfl
      · exact .inl rfl
    · obtain ⟨e', y, h1, h2, h3⟩ := sp_new r (u :: vis) (other e u) v hr i hi
      exact ⟨e', y, h1, h2, fun hc => h3 (List.mem_cons_of_mem _ hc)⟩
theorem sp_ends {e : Ed} {u y : Int} (hu : e.a = u ∨ e.b = u) (hy : y = e.a ∨ y = e.b) : y = u ∨ y = other e u := by
  unfold other
  split <;> rcases hu with h | h <;> rcases hy with h' | h' <;> omega
theorem sp_once {E : List Ed} {i : Nat} {r : List Nat} {vis : List Int} {u v : Int} (h : SP E vis u (i :: r) v) : i ∉ r := by
  obtain ⟨e, he, hu, _, hn, hr⟩ := h
  intro hi
  obtain ⟨e', y, h1, h2, h3⟩ := sp_new r (u :: vis) (other e u) v hr i hi
  rw [he] at h1
  cases h1
  rcases sp_ends hu h2 with rfl | rfl
  · exact h3 (List.mem_cons_of_mem _ (List.mem_cons_self ..))
  · exact h3 (List.mem_cons_self ..)
/-- The drains that a way does not use may be others. -/
theorem sp_congr {E E' : List Ed} : ∀ (ks : List Nat) (vis : List Int) (u v : Int), (∀ i ∈ ks, E'[i]? = E[i]?) → SP E vis u ks v → SP E' vis u ks v
  | [], _, _, _, _, h => h
  | k :: r, vis, u, v, hh, h => by
    obtain ⟨e, he, hu, hp, hn, hr⟩ := h
    exact ⟨e, (hh k (List.mem_cons_self ..)).trans he, hu, hp, hn, sp_congr r _ _ v (fun i hi => hh i (List.mem_cons_of_mem _ hi)) hr⟩
/-- The smallest room of a way. -/
def AllRoom (E : List Ed) (m : Int) : Int → List Nat → Prop
  | _, [] => True
  | u, i :: r => ∃ e, E[i]? = some e ∧ m ≤ room e u ∧ AllRoom E m (other e u) r
theorem allRoom_congr {E E' : List Ed} {m : Int} : ∀ (ks : List Nat) (u : Int), (∀ i ∈ ks, E'[i]? = E[i]?) → AllRoom E m u ks → AllRoom E' m u ks
  | [], _, _, _ => trivial
  | k :: r, u, hh, h => by
    obtain ⟨e, he, hm, hr⟩ := h
    exact ⟨e, (hh k (List.mem_cons_self ..)).trans he, hm, allRoom_congr r _ (fun i hi => hh i (List.mem_cons_of_mem _ hi)) hr⟩
/-- As much more along a drain. -/
def more (m : Int) (e : Ed) (u : Int) : Ed := if e.a = u then { e with f := e.f + m } else { e with f := e.f - m }
def aug (m : Int) : List Ed → Int → List Nat → List Ed
  | E, _, [] => E
  | E, u, i :: r => match E[i]? with
    | some e => aug m (E.set i (more m e u)) (other e u) r
    | none => E
/-- Two nets alike but for what runs. -/
def Alike (E E' : List Ed) : Prop := E'.map (fun e => (e.a, e.b, e.c)) = E.map (fun e => (e.a, e.b, e.c))
theorem more_abc (m : Int) (e : Ed) (u : Int) : (more m e u).a = e.a ∧ (more m e u).b = e.b ∧ (more m e u).c = e.c := by
  unfold more; split <;> exact ⟨rfl, rfl, rfl⟩
theorem alike_set {E : List Ed} {i : Nat} {e : Ed} (he : E[i]? = some e) (m u : Int) : Alike E (E.set i (more m e u)) := by
  unfold Alike
  apply List.ext_getElem?
  intro j
  simp only [List.getElem?_map, List.getElem?_set]
  by_cases h : i = j
  · subst h
    have ⟨h1, h2, h3⟩ := more_abc m e u
    have := lt_at he
    rw [he]
    simp [this, h1, h2, h3]
  · rw [if_neg h]
theorem Alike.trans {E E' E'' : List Ed} (h : Alike E E') (h' : Alike E' E'') : Alike E E'' := Eq.trans (show E''.map (fun e => (e.a, e.b, e.c)) = E'.map (fun e => (e.a, e.b, e.c)) from h') h
theorem Alike.refl (E : List Ed) : Alike E E := rfl
theorem con_more {e : Ed} {u v m : Int} (hu : e.a = u ∨ e.b = u) (hne : other e u ≠ u) : con1 (more m e u) v = con1 e v + ((if u = v then m else 0) - (if other e u = v then m else 0)) := by
  unfold con1 more other at *
  by_cases h : e.a = u
  · rw [if_pos h] at hne
    simp only [if_pos h]
    subst h
    by_cases h1 : e.a = v <;> by_cases h2 : e.b = v
    · exact absurd (h2.trans h1.symm) hne
    · simp [h1, h2] <;> omega
    · simp [h1, h2] <;> omega
    · simp [h1, h2]
  · have hb : e.b = u := by rcases hu with h' | h'; exact absurd h' h; exact h'
    simp only [if_neg h]
    subst hb
    by_cases h1 : e.a = v <;> by_cases h2 : e.b = v
    · exact absurd (h1.trans h2.symm) h
    · simp [h1, h2] <;> omega
    · simp [h1, h2] <;> omega
    · simp [h1, h2]
theorem mem_set_cap {E : List Ed} {i : Nat} {e' : Ed} (hc : ∀ e ∈ E, 0 ≤ e.f ∧ e.f ≤ e.c) (h' : 0 ≤ e'.f ∧ e'.f ≤ e'.c) : ∀ e ∈ E.set i e', 0 ≤ e.f ∧ e.f ≤ e.c := by
  intro e he
  rcases List.mem_or_eq_of_mem_set he with h | rfl
  · exact hc e h
  · exact h'
theorem aug_spec {m : Int} (hm : 0 ≤ m) : ∀ (ks : List Nat) (E : List Ed) (vis : List Int) (u v : Int), SP E vis u ks v → AllRoom E m u ks → (∀ e ∈ E, 0 ≤ e.f ∧ e.f ≤ e.c) →
    Alike E (aug m E u ks) ∧ (∀ e ∈ aug m E u ks, 0 ≤ e.f ∧ e.f ≤ e.c) ∧ ∀ x, out (aug m E u ks) x = out E x + ((if u = x then m else 0) - (if v = x then m else 0))
  | [], E, vis, u, v, h, _, hc => by
    have h : u = v := h
    subst h
    exact ⟨Alike.refl E, hc, fun x => by show out E x = _; omega⟩
  | i :: r, E, vis, u, v, h, ha, hc => by
    have honce := sp_once h
    obtain ⟨e, he, hu, hp, hn, hr⟩ := h
    obtain ⟨e0, he0, hmr, har⟩ := ha
    rw [he] at he0; cases he0
    have hes : aug m E u (i :: r) = aug m (E.set i (more m e u)) (other e u) r := by
      simp only [aug, he]
    have hc0 := hc e (List.mem_of_getElem? he)
    have hce : 0 ≤ (more m e u).f ∧ (more m e u).f ≤ (more m e u).c := by
      unfold room at hmr
      unfold more
      split
      · rename_i h1; rw [if_pos h1] at hmr; simp only; omega
      · rename_i h1; rw [if_neg h1] at hmr; simp only; omega
    have hcong : ∀ j ∈ r, (E.set i (more m e u))[j]? = E[j]? := fun j hj => by
      rw [List.getElem?_set_ne (fun h : i = j => honce (by rw [h]; exact hj))]
    obtain ⟨a1, a2, a3⟩ := aug_spec hm r (E.set i (more m e u)) (u :: vis) (other e u) v (sp_congr r _ _ v hcong hr) (allRoom_congr r _ hcong har) (mem_set_cap hc hce)
    rw [hes]
    refine ⟨(alike_set he m u).trans a1, a2, fun x => ?_⟩
    rw [a3, out_set he, con_more hu (fun hc => hn (by rw [hc]; exact List.mem_cons_self ..))]
    omega
theorem alike_at {E E' : List Ed} (h : Alike E E') {e : Ed} (he : e ∈ E') : ∃ e0 ∈ E, e0.a = e.a ∧ e0.b = e.b ∧ e0.c = e.c := by
  have : (e.a, e.b, e.c) ∈ E'.map (fun e => (e.a, e.b, e.c)) := List.mem_map.2 ⟨e, he, rfl⟩
  rw [h] at this
  obtain ⟨e0, h0, h1⟩ := List.mem_map.1 this
  simp only [Prod.mk.injEq] at h1
  exact ⟨e0, h0, h1⟩
theorem alike_in {n : Nat} {E E' : List Ed} (h : Alike E E') (d : In n E) : In n E' := fun e he => by
  obtain ⟨e0, h0, h1, h2, _⟩ := alike_at h he
  rw [← h1, ← h2]; exact d e0 h0
theorem alike_cut {E : List Ed} (S : Int → Bool) : ∀ {E' : List Ed}, Alike E E' → cutW S E' = cutW S E := by
  induction E with
  | nil => intro E' h; unfold Alike at h; simp at h; subst h; rfl
  | cons e r ih =>
    intro E' h
    cases E' with
    | nil => unfold Alike at h; simp at h
    | cons e' r' =>
      unfold Alike at h
      simp only [List.map_cons, List.cons.injEq, Prod.mk.injEq] at h
      obtain ⟨⟨h1, h2, h3⟩, h4⟩ := h
      simp only [cutW, h1, h2, h3, ih h4]
/-- The flow behind a way. -/
theorem aug_flow {n : Nat} {s t m : Int} {E : List Ed} {ks : List Nat} (F : Flow n s t E) (hm : 0 ≤ m) (hst : s ≠ t) (h : SP E [] s ks t) (ha : AllRoom E m s ks) : Flow n s t (aug m E s ks) ∧ out (aug m E s ks) s = out E s + m ∧ Alike E (aug m E s ks) := by
  obtain ⟨a1, a2, a3⟩ := aug_spec hm ks E [] s t h ha F.cap
  refine ⟨⟨alike_in a1 F.dom, a2, fun v v1 v2 h1 h2 => ?_⟩, ?_, a1⟩
  · rw [a3, F.con v v1 v2 h1 h2, if_neg (fun h => h1 h.symm), if_neg (fun h => h2 h.symm)]; rfl
  · rw [a3, if_pos rfl, if_neg (fun h => hst h.symm)]; omega
end Go.D2

set_option linter.unusedVariables false
set_option linter.unusedSimpArgs false
namespace Go.D2
open Go.Tb
abbrev Seen := List (Int × Bool)
def sees (s : Seen) (v : Int) : Bool := (mget eqI s v).getD false
def scan (rec : Int → Seen → List Int → Option (Seen ⊕ List Int)) (u : Int) (dr : List Int) : List Ed → Int → Seen → Option (Seen ⊕ List Int)
  | [], _, s => some (.inl s)
  | e :: r, i, s =>
    if e.a = u ∨ e.b = u then
      gd (InR (room e u)) <|
      if 0 < room e u ∧ sees s (other e u) = false then
        gd (dr.length + 1 ≤ 1000000) <|
        match rec (other e u) s (dr ++ [i]) with
        | none => none
        | some (.inr x) => some (.inr x)
        | some (.inl s') => scan rec u dr r (i + 1) s'
      else scan rec u dr r (i + 1) s
    else scan rec u dr r (i + 1) s
def dfs (E : List Ed) (t : Int) : Nat → Int → Seen → List Int → Option (Seen ⊕ List Int)
  | 0, _, _, _ => none
  | k + 1, u, s, dr => if u = t then gd (dr.length ≤ 1000000) (some (.inr dr)) else scan (dfs E t k) u dr E 0 (mset eqI s u true)
theorem mget_mset (s : Seen) (u v : Int) : mget eqI (mset eqI s u true) v = if v = u then some true else mget eqI s v := by
  induction s with
  | nil =>
    simp only [mset, mget, eqI, beq_iff_eq]
  | cons p r ih =>
    simp only [mset]
    by_cases h : eqI u p.1 = true
    · rw [if_pos h]
      have hu : u = p.1 := by simpa [eqI] using h
      simp only [mget, eqI, beq_iff_eq, ← hu]
      by_cases hv : v = u
      · rw [if_pos hv, if_pos hv]
      · rw [if_neg hv, if_neg hv, if_neg hv]
    · rw [if_neg h]
      simp only [mget, ih]
      have hu : ¬ u = p.1 := by simpa [eqI] using h
      by_cases hv : v = u
      · subst hv
        rw [if_neg h, if_pos rfl, if_pos rfl]
      · rw [if_neg hv, if_neg hv]
theorem sees_set (s : Seen) (u v : Int) : sees (mset eqI s u true) v = (decide (v = u) || sees s v) := by
  unfold sees
  rw [mget_mset]
  by_cases h : v = u <;> simp [h]
theorem sees_set_iff {s : Seen} {u v : Int} : sees (mset eqI s u true) v = true ↔ v = u ∨ sees s v = true := by rw [sees_set]; simp
def Mono (s s' : Seen) : Prop := ∀ v, sees s v = true → sees s' v = true
/-- A node that is done: what it can reach at once is seen. -/
def Done (E : List Ed) (s : Seen) (v : Int) : Prop := ∀ e ∈ E, (e.a = v ∨ e.b = v) → 0 < room e v → sees s (other e v) = true
theorem Done.mono {E : List Ed} {s s' : Seen} {v : Int} (h : Done E s v) (m : Mono s s') : Done E s' v := fun e he h1 h2 => m _ (h e he h1 h2)
/-- What a search leaves that finds nothing. -/
structure Left_ (E : List Ed) (t : Int) (u : Int) (s s' : Seen) : Prop where
  mono : Mono s s'
  at_ : sees s' u = true
  new : ∀ v, sees s' v = true → sees s v = false → v ≠ t ∧ Done E s' v
  reach : ∀ v, sees s' v = true → sees s v = false → Reach E u v
theorem reach_other {E : List Ed} {e : Ed} {u v : Int} (he : e ∈ E) (hu : e.a = u ∨ e.b = u) (hr : 0 < room e u) (h : Reach E (other e u) v) : Reach E u v := by
  have h0 : Reach E u (other e u) := by
    unfold room at hr
    unfold other
    by_cases ha : e.a = u
    · rw [if_pos ha] at hr ⊢
      subst ha
      exact .on he .here (by omega)
    · rw [if_neg ha] at hr ⊢
      have hb : e.b = u := by rcases hu with h | h; exact absurd h ha; exact h
      subst hb
      exact .back he .here hr
  induction h with
  | here => exact h0
  | on he _ hf ih => exact .on he ih hf
  | back he _ hf ih => exact .back he ih hf
theorem scan_left {E : List Ed} {t u : Int} {rec : Int → Seen → List Int → Option (Seen ⊕ List Int)} {dr : List Int} {s0 : Seen} (hrec : ∀ v s dr s', rec v s dr = some (.inl s') → Left_ E t v s s') :
    ∀ (r : List Ed) (i : Int) (s s' : Seen), (∀ e ∈ r, e ∈ E) → scan rec u dr r i s = some (.inl s') → Mono s0 s → (∀ v, sees s v = true → sees s0 v = false → v ≠ t ∧ Done E s v) → (∀ v, sees s v = true → sees s0 v = false → Reach E u v) →
      Mono s s' ∧ (∀ v, sees s' v = true → sees s0 v = false → v ≠ t ∧ Done E s' v) ∧ (∀ e ∈ r, (e.a = u ∨ e.b = u) → 0 < room e u → sees s' (other e u) = true) ∧ (∀ v, sees s' v = true → sees s0 v = false → Reach E u v)
  | [], i, s, s', _, h, h1, h2, h3 => by
    simp only [scan] at h
    cases h
    exact ⟨fun _ h => h, h2, by simp, h3⟩
  | e :: r, i, s, s', hE, h, h1, h2, h3 => by
    have htl : ∀ x ∈ r, x ∈ E := fun x hx => hE x (List.mem_cons_of_mem _ hx)
    have he := hE e (List.mem_cons_self ..)
    simp only [scan] at h
    by_cases hu : e.a = u ∨ e.b = u
    · rw [if_pos hu] at h
      obtain ⟨hin, h⟩ := gd_some h
      by_cases hr : 0 < room e u ∧ sees s (other e u) = false
      · rw [if_pos hr] at h
        obtain ⟨_, h⟩ := gd_some h
        split at h
        · cases h
        · cases h
        · rename_i s1 hs1
          have l := hrec _ _ _ _ hs1
          obtain ⟨m1, m2, m3, m4⟩ := scan_left hrec r (i + 1) s1 s' htl h (fun v hv => l.mono v (h1 v hv)) (fun v hv hn => by
            cases hsv : sees s v
            · exact l.new v hv hsv
            · have := h2 v hsv hn
              exact ⟨this.1, this.2.mono l.mono⟩) (fun v hv hn => by
            cases hsv : sees s v
            · exact reach_other he hu hr.1 (l.reach v hv hsv)
            · exact h3 v hsv hn)
          refine ⟨fun v hv => m1 v (l.mono v hv), m2, fun x hx hxu hxr => ?_, m4⟩
          rcases List.mem_cons.1 hx with rfl | hx
          · exact m1 _ l.at_
          · exact m3 x hx hxu hxr
      · rw [if_neg hr] at h
        obtain ⟨m1, m2, m3, m4⟩ := scan_left hrec r (i + 1) s s' htl h h1 h2 h3
        refine ⟨m1, m2, fun x hx hxu hxr => ?_, m4⟩
        rcases List.mem_cons.1 hx with rfl | hx
        · cases hsv : sees s (other x u)
          · exact absurd ⟨hxr, hsv⟩ hr
          · exact m1 _ hsv
        · exact m3 x hx hxu hxr
    · rw [if_neg hu] at h
      obtain ⟨m1, m2, m3, m4⟩ := scan_left hrec r (i + 1) s s' htl h h1 h2 h3
      refine ⟨m1, m2, fun x hx hxu hxr => ?_, m4⟩
      rcases List.mem_cons.1 hx with rfl | hx
      · exact absurd hxu hu
      · exact m3 x hx hxu hxr
theorem dfs_left {E : List Ed} {t : Int} : ∀ (k : Nat) (u : Int) (s : Seen) (dr : List Int) (s' : Seen), dfs E t k u s dr = some (.inl s') → Left_ E t u s s'
  | 0, _, _, _, _, h => by cases h
  | k + 1, u, s, dr, s', h => by
    simp only [dfs] at h
    by_cases ht : u = t
    · rw [if_pos ht] at h
      obtain ⟨_, h⟩ := gd_some h
      cases h
    · rw [if_neg ht] at h
      obtain ⟨m1, m2, m3, m4⟩ := scan_left (s0 := mset eqI s u true) (fun v s dr s' => dfs_left k v s dr s') E 0 _ s' (fun _ h => h) h (fun _ h => h) (fun v hv hn => by rw [hv] at hn; cases hn) (fun v hv hn => by rw [hv] at hn; cases hn)
      refine ⟨fun v hv => m1 v (sees_set_iff.2 (.inr hv)), m1 u (sees_set_iff.2 (.inl rfl)), fun v hv hn => ?_, fun v hv hn => ?_⟩
      · by_cases hvu : v = u
        · subst hvu; exact ⟨ht, m3⟩
        · refine m2 v hv ?_
          rw [sees_set, hn]; simp [hvu]
      · by_cases hvu : v = u
        · subst hvu; exact .here
        · refine m4 v hv ?_
          rw [sees_set, hn]; simp [hvu]
theorem scan_found {E : List Ed} {t u : Int} {rec : Int → Seen → List Int → Option (Seen ⊕ List Int)} {dr : List Int} {vis : List Int} (hrec : ∀ v s dr s', rec v s dr = some (.inl s') → Mono s s')
    (hf : ∀ v s dr x, rec v s dr = some (.inr x) → ∀ vis, (∀ y ∈ vis, sees s y = true) → ∃ ks : List Nat, x = dr ++ ks.map (fun (q : Nat) => (q : Int)) ∧ SP E vis v ks t) :
    ∀ (r : List Ed) (j : Nat) (s : Seen) (x : List Int), (∀ i, r[i]? = E[j + i]?) → scan rec u dr r (j : Int) s = some (.inr x) → (∀ y ∈ u :: vis, sees s y = true) → ∃ ks : List Nat, x = dr ++ ks.map (fun (q : Nat) => (q : Int)) ∧ SP E vis u ks t
  | [], j, s, x, _, h, _ => by simp only [scan] at h; cases h
  | e :: r, j, s, x, he, h, hv => by
    have htl : ∀ i, r[i]? = E[j + 1 + i]? := fun i => by have := he (i + 1); rw [show j + 1 + i = j + (i + 1) by omega]; simpa using this
    have h0 : E[j]? = some e := by have := he 0; simpa using this.symm
    simp only [scan] at h
    by_cases hu : e.a = u ∨ e.b = u
    · rw [if_pos hu] at h
      obtain ⟨hin, h⟩ := gd_some h
      by_cases hr : 0 < room e u ∧ sees s (other e u) = false
      · rw [if_pos hr] at h
        obtain ⟨_, h⟩ := gd_some h
        split at h
        · cases h
        · rename_i x1 hx1
          cases h
          obtain ⟨ks, k1, k2⟩ := hf _ _ _ _ hx1 (u :: vis) hv
          refine ⟨j :: ks, by rw [k1]; simp, e, h0, hu, hr.1, fun hc => ?_, k2⟩
          rw [hv _ hc] at hr; cases hr.2
        · rename_i s1 hs1
          exact scan_found hrec hf r (j + 1) s1 x htl (by simpa using h) (fun y hy => hrec _ _ _ _ hs1 y (hv y hy))
      · rw [if_neg hr] at h
        exact scan_found hrec hf r (j + 1) s x htl (by simpa using h) hv
    · rw [if_neg hu] at h
      exact scan_found hrec hf r (j + 1) s x htl (by simpa using h) hv
theorem dfs_found {E : List Ed} {t : Int} : ∀ (k : Nat) (u : Int) (s : Seen) (dr : List Int) (x : List Int), dfs E t k u s dr = some (.inr x) → ∀ vis, (∀ y ∈ vis, sees s y = true) → ∃ ks : List Nat, x = dr ++ ks.map (fun (q : Nat) => (q : Int)) ∧ SP E vis u ks t
  | 0, _, _, _, _, h, _, _ => by cases h
  | k + 1, u, s, dr, x, h, vis, hv => by
    simp only [dfs] at h
    by_cases ht : u = t
    · rw [if_pos ht] at h
      obtain ⟨_, h⟩ := gd_some h
      cases h
      exact ⟨[], by simp, ht⟩
    · rw [if_neg ht] at h
      refine scan_found (fun v s dr s' h => (dfs_left k v s dr s' h).mono) (fun v s dr x => dfs_found k v s dr x) E 0 _ x (fun i => by simp) (by simpa using h) (fun y hy => ?_)
      rcases List.mem_cons.1 hy with rfl | hy
      · exact sees_set_iff.2 (.inl rfl)
      · exact sees_set_iff.2 (.inr (hv y hy))
def unseen (n : Nat) (s : Seen) : Nat := ((List.range n).filter fun (v : Nat) => !sees s (v : Int)).length
theorem filter_le {α : Type} {p q : α → Bool} : ∀ l : List α, (∀ x ∈ l, p x = true → q x = true) → (l.filter p).length ≤ (l.filter q).length
  | [], _ => Nat.le_refl _
  | x :: r, h => by
    have ih := filter_le (p := p) (q := q) r (fun y hy => h y (List.mem_cons_of_mem _ hy))
    have hx := h x (List.mem_cons_self ..)
    simp only [List.filter_cons]
    cases hp : p x
    · cases q x <;> simp <;> omega
    · rw [hx hp]; simp; exact ih
theorem filter_lt {α : Type} {p q : α → Bool} : ∀ (l : List α) (y : α), y ∈ l → (∀ x ∈ l, p x = true → q x = true) → p y = false → q y = true → (l.filter p).length < (l.filter q).length
  | x :: r, y, hy, h, hp, hq => by
    have h' : ∀ z ∈ r, p z = true → q z = true := fun z hz => h z (List.mem_cons_of_mem _ hz)
    simp only [List.filter_cons]
    rcases List.mem_cons.1 hy with rfl | hy
    · rw [hp, hq]
      have := filter_le r h'
      simp; omega
    · have ih := filter_lt r y hy h' hp hq
      have hx := h x (List.mem_cons_self ..)
      cases hpx : p x
      · cases q x <;> simp <;> omega
      · rw [hx hpx]; simp; omega
theorem unseen_mono {n : Nat} {s s' : Seen} (m : Mono s s') : unseen n s' ≤ unseen n s := filter_le _ fun x _ h => by
  cases hs : sees s (x : Int)
  · rfl
  · rw [m _ hs] at h; cases h
theorem unseen_set {n : Nat} {s : Seen} {u : Int} (hu : 0 ≤ u ∧ u < n) (hn : sees s u = false) : unseen n (mset eqI s u true) < unseen n s := by
  refine filter_lt _ u.toNat (List.mem_range.2 (by omega)) (fun x _ h => ?_) ?_ ?_
  · rw [sees_set] at h
    simp at h ⊢; exact h.2
  · rw [show ((u.toNat : Nat) : Int) = u by omega, sees_set]; simp
  · rw [show ((u.toNat : Nat) : Int) = u by omega, hn]; rfl
def RoomOk (E : List Ed) : Prop := ∀ e ∈ E, InR e.f ∧ InR (e.c - e.f)
theorem scan_some {n : Nat} {E : List Ed} {t u : Int} {k : Nat} {dr : List Int} (hE : In n E) (hR : RoomOk E) (hdr : dr.length ≤ 1000) (m : Nat)
    (hrec : ∀ (v : Int) (s : Seen), 0 ≤ v ∧ v < n → sees s v = false → unseen n s ≤ m → ∀ i : Int, ∃ r, dfs E t k v s (dr ++ [i]) = some r) :
    ∀ (r : List Ed) (i : Int) (s : Seen), (∀ e ∈ r, e ∈ E) → unseen n s ≤ m → ∃ x, scan (dfs E t k) u dr r i s = some x
  | [], i, s, _, _ => ⟨_, rfl⟩
  | e :: r, i, s, hs, hm => by
    have htl : ∀ x ∈ r, x ∈ E := fun x hx => hs x (List.mem_cons_of_mem _ hx)
    have he := hs e (List.mem_cons_self ..)
    simp only [scan]
    by_cases hu : e.a = u ∨ e.b = u
    · have hin : InR (room e u) := by
        have := hR e he
        unfold room; split
        · exact this.2
        · exact this.1
      rw [if_pos hu, gd_pos hin]
      by_cases hr : 0 < room e u ∧ sees s (other e u) = false
      · have ho : 0 ≤ other e u ∧ other e u < n := by
          have := hE e he
          unfold other; split
          · exact this.2
          · exact this.1
        rw [if_pos hr, gd_pos (by omega)]
        obtain ⟨q, hq⟩ := hrec (other e u) s ho hr.2 hm i
        rw [hq]
        cases q with
        | inl s1 => exact scan_some hE hR hdr m hrec r (i + 1) s1 htl (Nat.le_trans (unseen_mono (dfs_left k _ _ _ _ hq).mono) hm)
        | inr x => exact ⟨_, rfl⟩
      · rw [if_neg hr]; exact scan_some hE hR hdr m hrec r (i + 1) s htl hm
    · rw [if_neg hu]; exact scan_some hE hR hdr m hrec r (i + 1) s htl hm
theorem dfs_some {n : Nat} {E : List Ed} {t : Int} (hE : In n E) (hR : RoomOk E) : ∀ (k : Nat) (u : Int) (s : Seen) (dr : List Int), 0 ≤ u ∧ u < n → sees s u = false → unseen n s ≤ k → dr.length + unseen n s ≤ 1000 → ∃ r, dfs E t k u s dr = some r
  | 0, u, s, dr, hu, hn, hk, _ => by
    have := unseen_set hu hn
    omega
  | k + 1, u, s, dr, hu, hn, hk, hl => by
    have hlt := unseen_set hu hn
    simp only [dfs]
    by_cases ht : u = t
    · rw [if_pos ht, gd_pos (by omega)]; exact ⟨_, rfl⟩
    · rw [if_neg ht]
      exact scan_some hE hR (by omega) (unseen n (mset eqI s u true)) (fun v s' hv hs' hm i => dfs_some hE hR k v s' (dr ++ [i]) hv hs' (by omega) (by simp; omega)) E 0 _ (fun e he => he) (Nat.le_refl _)
theorem unseen_nil (n : Nat) : unseen n [] ≤ n := by
  have := List.length_filter_le (fun (v : Nat) => !sees [] (v : Int)) (List.range n)
  simpa [unseen] using this
/-- The search, whole. -/
theorem search_spec {n : Nat} {E : List Ed} {s t : Int} (hE : In n E) (hR : RoomOk E) (hn : n ≤ 1000) (hs : 0 ≤ s ∧ s < n) (hst : s ≠ t) (hab : ∀ e ∈ E, e.a ≠ e.b) {K : Nat} (hK : n ≤ K) :
    (∃ ks : List Nat, ks ≠ [] ∧ dfs E t K s [] [] = some (.inr (ks.map (fun (q : Nat) => (q : Int)))) ∧ SP E [] s ks t) ∨ (∃ S : Seen, dfs E t K s [] [] = some (.inl S) ∧ sees S s = true ∧ sees S t = false ∧ Closed (sees S) E ∧ ∀ v, sees S v = true → Reach E s v) := by
  have hu := unseen_nil n
  obtain ⟨r, hr⟩ := dfs_some (t := t) hE hR K s [] [] hs rfl (by omega) (by simp; omega)
  cases r with
  | inr x =>
    obtain ⟨ks, k1, k2⟩ := dfs_found K s [] [] x hr [] (by simp)
    refine .inl ⟨ks, ?_, by rw [hr, k1]; rfl, k2⟩
    rintro rfl
    exact hst k2
  | inl S =>
    have l := dfs_left K s [] [] S hr
    have h0 : ∀ v, sees [] v = false := fun _ => rfl
    refine .inr ⟨S, hr, l.at_, ?_, fun e he => ⟨fun h1 h2 => ?_, fun h1 h2 => ?_⟩, fun v hv => l.reach v hv (h0 v)⟩
    · cases hS : sees S t
      · rfl
      · exact absurd rfl (l.new t hS (h0 t)).1
    · have := (l.new _ h1 (h0 _)).2 e he (.inl rfl)
      unfold room other at this
      rw [if_pos rfl, if_pos rfl] at this
      exact this (by omega)
    · have := (l.new _ h1 (h0 _)).2 e he (.inr rfl)
      unfold room other at this
      rw [if_neg (hab e he), if_neg (hab e he)] at this
      exact this h2
end Go.D2

set_option linter.unusedVariables false
set_option linter.unusedSimpArgs false
namespace Go.Tb
open Go.RowKit
section
variable {P : Program} {n : Nat} {ops : Array Oper} {Q : Exit → Env → World → Prop} {ρ : Env} {w : World}
variable {d : Option Tmp} {ty : TypeId} {pos : String} {after : Array Edge} {g : Option (Nat × Bool)} {K : Value → World → Prop}
theorem RV.mkIface {t : Nat} {x : Operand} {v : Value} {ds : TypeDesc} (hT : P.underlying t = some ds) (hn : (match ds with | .interface _ => true | _ => false) = false) (hx : ev ρ x = some v) : RV P n ⟨d, .makeInterface t x, ty, pos, after, g⟩ ρ w (.iface t v) :=
  (fun a ha => by
    simp only [execOp, ha.ev hx, Instr.makeInterface, Sem.run_bind, run_underlying hT, Result.andThen_ok]
    cases ds <;> simp_all)
theorem OW.panicI {t : Nat} {x : Operand} {v : Value} (hx : ev ρ x = some (.iface t v)) (q : Q (.panic [{ v := .iface t v, recovered := false }]) ρ w) : OW P n Q ⟨d, .panic x, ty, pos, after, g⟩ ρ w K := fun a ha => by
  unfold wpV
  simp only [execOp, ha.ev hx, Sem.run_bind, run_panic_iface, Result.andThen]
  exact q
theorem OW.callP {f : FuncId} {args : Array Operand} {tys : Array TypeId} {vs : List Value} {R : Ending → World → Prop} (hf : callable P f = true) (hargs : evs ρ args.toList = some vs)
    (hc : Calls P f vs.toArray w R) (k : ∀ e w', R e w' → (∃ v, e = .returned v ∧ K v w') ∨ (∃ c, e = .panicked c ∧ Q (.panic c) ρ w')) : OW P n Q ⟨d, .call ⟨.value (.func f), args, tys⟩, ty, pos, after, g⟩ ρ w K := fun a ha => by
  have h1 : args.map a.eval = vs.toArray := by
    have := ha.evs hargs
    apply Array.toList_inj.1
    rw [Array.toList_map]; exact this
  unfold wpV
  have he : (execOp a.eval ⟨d, .call ⟨.value (.func f), args, tys⟩, ty, pos, after, g⟩).run P w = .ok (.enter f vs.toArray) w := by
    simp only [execOp, resolve, Act.eval, Deferred.ofValue, Sem.run_bind, Sem.run_pure, Result.andThen_ok, invoke]
    rw [show (Array.map a.eval args) = vs.toArray from h1]
    simpa using run_callFunc hf _
  rw [he]
  refine hc.mono fun e w' hr => ?_
  rcases k e w' hr with ⟨v, rfl, hk⟩ | ⟨c, rfl, hq⟩
  · exact hk
  · exact hq
theorem RV.eqnilL {α : Type} {t u e m bt : Nat} {z : List Value} {l : List α} {x y : Operand} {A : Option Addr} {k c : Nat} (hT : tyS P t = some (e, m, bt, z)) (hx : ev ρ x = some (.slice A k c)) (hy : ev ρ y = some (.slice none 0 0)) (h : A = none ↔ l = []) [Decidable (l = [])] : RV P n ⟨d, .binOp .eql t x y u, ty, pos, after, g⟩ ρ w (.bool (decide (l = []))) := by
  cases A with
  | none =>
    rw [decide_eq_true (h.1 rfl)]
    exact RV.eqnil hT hx hy
  | some a =>
    rw [decide_eq_false (fun hc => by have := h.2 hc; cases this)]
    exact RV.eqnil hT hx hy
theorem RV.nenilL {α : Type} {t u e m bt : Nat} {z : List Value} {l : List α} {x y : Operand} {A : Option Addr} {k c : Nat} (hT : tyS P t = some (e, m, bt, z)) (hx : ev ρ x = some (.slice A k c)) (hy : ev ρ y = some (.slice none 0 0)) (h : A = none ↔ l = []) [Decidable (l = [])] : RV P n ⟨d, .binOp .neq t x y u, ty, pos, after, g⟩ ρ w (.bool (!decide (l = []))) := by
  cases A with
  | none =>
    rw [decide_eq_true (h.1 rfl)]
    exact RV.nenil hT hx hy
  | some a =>
    rw [decide_eq_false (fun hc => by have := h.2 hc; cases this)]
    exact RV.nenil hT hx hy
end
theorem Own.ne {w : World} {A : Option Addr} {c : Nat} {e : TypeId} {k : Nat} {rows : List (List Value)} (h : Own w A c e k rows) (hr : rows ≠ []) : A ≠ none := by
  rintro rfl
  rcases h.blk with ⟨_, h1, _⟩ | ⟨b, sp, h1, _⟩
  · exact hr h1
  · cases h1
end Go.Tb

set_option linter.unusedVariables false
set_option linter.unusedSimpArgs false
namespace Go.D2
open Go.Tb Go.Proofs Go.RowKit
def encLeft (x : Left) : List Value := [.int .i64 x.drain.from_, .int .i64 x.drain.to_, .int .i64 x.drain.width, .int .i64 x.runs]
def toEd (d : Left) : Ed := ⟨d.drain.from_, d.drain.to_, d.drain.width, d.runs⟩
theorem Ts63' : tyS Try.prog 63 = some (87, 4, 32, [.int .i64 0, .int .i64 0, .int .i64 0, .int .i64 0]) := by kernel_rfl
theorem Ts30' : tyS Try.prog 30 = some (3, 1, 8, [.int .i64 0]) := by kernel_rfl
theorem Tk87' : tyK Try.prog 87 = some (true, 4) := by kernel_rfl
theorem Tk3' : tyK Try.prog 3 = some (false, 1) := by kernel_rfl
theorem Tz87' : tyZ Try.prog 87 = some (.agg #[.int .i64 0, .int .i64 0, .int .i64 0, .int .i64 0]) := by kernel_rfl
theorem Tz4' : tyZ Try.prog 4 = some (.bool false) := by kernel_rfl
theorem Tm96' : tyM Try.prog 96 = some (3, 4) := by kernel_rfl
theorem KO3' : KeyOK Try.prog 3 ekI eqI := KeyOK.int (by kernel_rfl)
theorem Tc94' : callable Try.prog 94 = true := by kernel_rfl
theorem Tc90' : callable Try.prog 90 = true := by kernel_rfl
theorem Tc86' : callable Try.prog 86 = true := by kernel_rfl
theorem Tf87_0' : tyF Try.prog 87 0 = some 0 := by kernel_rfl
theorem Tf52_0' : tyF Try.prog 52 0 = some 0 := by kernel_rfl
theorem Tf52_1' : tyF Try.prog 52 1 = some 1 := by kernel_rfl
theorem Tu93' : Try.prog.underlying 93 = some (.struct (Try.prog.fieldsOf 93)) := by kernel_rfl
def LookR (wb : World) (b : Nat) (A : Option Addr) (c : Nat) (dr : List Int) (R : List Ck) (res : Seen ⊕ List Int) (e : Ending) (w' : World) : Prop :=
  match res with
  | .inl s' => e = .returned (.tuple #[]) ∧ Hp wb w' ([.mp b (encMap ekI ekBl s'), .own A c 3 1 (dr.map encN)] ++ R)
  | .inr x => ∃ (A' : Option Addr) (c' : Nat), e = .panicked [{ v := .iface 93 (.agg #[.slice A' x.length c']), recovered := false }] ∧ Hp wb w' ([.own A' c' 3 1 (x.map encN)] ++ R)
set_option maxRecDepth 20000 in
set_option maxHeartbeats 1000000 in
theorem look_ok {L : List Left} {A_l : Option Addr} {c_l : Nat} {wb : World} (hl : Sl wb A_l c_l 4 (L.map encLeft)) : ∀ (k : Nat) {u t : Int} {s : Seen} {dr : List Int} {b : Nat} {A : Option Addr} {c : Nat} {R : List Ck} {w : World} {res : Seen ⊕ List Int},
    dfs (L.map toEd) t k u s dr = some res → Hp wb w ([.mp b (encMap ekI ekBl s), .own A c 3 1 (dr.map encN)] ++ R) →
    Calls Try.prog 94 #[.slice A_l L.length c_l, .int .i64 u, .int .i64 t, .map (some b), .slice A dr.length c] w (LookR wb b A c dr R res)
  | 0, u, t, s, dr, b, A, c, R, w, res, F, H => by cases F
  | k + 1, u, t, s, dr, b, A, c, R, w, res, F, H => by
    have IH := fun {u t : Int} {s : Seen} {dr : List Int} {b : Nat} {A : Option Addr} {c : Nat} {R : List Ck} {w : World} {res : Seen ⊕ List Int} => look_ok hl k (u := u) (t := t) (s := s) (dr := dr) (b := b) (A := A) (c := c) (R := R) (w := w) (res := res)
    refine calls_of_cw (args := [.slice A_l L.length c_l, .int .i64 u, .int .i64 t, .map (some b), .slice A dr.length c]) Try.func94 rfl rfl rfl rfl ?_
    have R0 := H.ext
    simp only [dfs] at F
    refine CW.seq fun K1 hK1 => ?_
    refine CW.seq fun K2 hK2 => ?_
    refine CW.region ?_
    refine LW.pure rfl rfl (RV.move rfl) ?_
    refine LW.pure rfl rfl (RV.move rfl) ?_
    refine LW.pure rfl rfl (RV.eqi rfl rfl) ?_
    refine LW.nil (hK2 _ _ ?_)
    by_cases hp1 : u = t
    · rw [if_pos hp1] at F
      obtain ⟨hg, F⟩ := gd_some F
      cases F
      refine CW.condT rfl (dec_t hp1) ?_
      refine CW.region ?_
      refine LW.pure rfl rfl (RV.move rfl) ?_
      refine LW.go rfl rfl (OW.call Tc86' rfl (slices_Clone_int_ok (a0 := dr) (res := dr) (H.own 1 rfl).sl (by unfold slices_Clone_int; rw [gd_pos (by simpa using hg)]; rfl)) ?_)
      rintro _ w3 ⟨A3, c3, rfl, E1⟩
      refine ⟨_, rfl, ?_⟩
      replace H := H.append E1
      refine LW.pure rfl rfl (RV.build (vs := [.slice A3 dr.length c3]) (cs := [.slice A3 dr.length c3]) rfl (fun _ => by kernel_rfl)) ?_
      refine LW.pure rfl rfl (RV.mkIface Tu93' rfl rfl) ?_
      refine LW.go rfl rfl (OW.panicI rfl ?_)
      refine ⟨A3, c3, rfl, ?_⟩
      exact H.pickR (C := [.own A3 c3 3 1 (dr.map encN), .mp b (encMap ekI ekBl s), .own A c 3 1 (dr.map encN)]) (C' := [.own A3 c3 3 1 (dr.map encN)]) [0] (by decide) rfl
    · rw [if_neg hp1] at F
      refine CW.condF rfl (dec_f hp1) ?_
      refine CW.skip (hK1 _ _ ?_)
      refine CW.seq fun K3 hK3 => ?_
      refine CW.region ?_
      refine LW.pure rfl rfl (RV.move rfl) ?_
      refine LW.pure rfl rfl (RV.move rfl) ?_
      refine LW.go rfl rfl (OW.updateM (ek := ekI) (ev' := ekBl) (eq := eqI) (m := s) u true KO3' Tm96' rfl rfl rfl (H.mp 0 rfl) fun w4 M4 O4 => ?_)
      replace H : Hp wb w4 ([.mp b (encMap ekI ekBl (mset eqI s u true)), .own A c 3 1 (dr.map encN)] ++ R) := H.setM 0 rfl M4 O4
      replace R0 := H.ext
      refine LW.nil (hK3 _ _ ?_)
      generalize mset eqI s u true = s1 at F H
      refine CW.seq fun K4 hK4 => ?_
      refine CW.region ?_
      refine LW.pure rfl rfl (RV.move rfl) ?_
      refine LW.pure rfl rfl (RV.len Ts63' rfl) ?_
      refine LW.pure rfl rfl (RV.move rfl) ?_
      refine LW.nil (hK4 _ _ ?_)
      refine CW.block ?_
      refine CW.loop (fun meas ρ wl => ∃ (j : Nat) (s2 : Seen) (r : List Ed), meas = L.length - j ∧ j ≤ L.length ∧ (∀ i, r[i]? = (L.map toEd)[j + i]?) ∧ scan (dfs (L.map toEd) t k) u dr r (j : Int) s2 = some res ∧
        ρ = [(0, .slice A_l L.length c_l), (1, .int .i64 u), (2, .int .i64 t), (3, .map (some b)), (4, .slice A dr.length c), (23, .slice A_l L.length c_l), (24, .int .i64 (L.length : Int)), (25, .int .i64 (j : Int))] ∧
        Hp wb wl ([.mp b (encMap ekI ekBl s2), .own A c 3 1 (dr.map encN)] ++ R)) L.length ⟨_, ?_, 0, s1, L.map toEd, rfl, Nat.zero_le _, (fun i => by simp), F, rfl, H⟩ ?_
      · exact ⟨rfl, rfl, rfl, rfl, rfl, rfl, rfl, rfl, trivial⟩
      rintro _ _ wl ⟨j, s2, r, rfl, hj, hr, F, rfl, H⟩
      have R0 := H.ext
      refine CW.seq fun K5 hK5 => ?_
      refine CW.region ?_
      refine LW.pure rfl rfl (RV.lss rfl rfl) ?_
      refine LW.nil (hK5 _ _ ?_)
      refine CW.seq fun K6 hK6 => ?_
      by_cases hp2 : (j : Int) < (L.length : Int)
      · refine CW.condT rfl (dec_t hp2) ?_
        refine CW.skip (hK6 _ _ ?_)
        have hjl : j < L.length := by omega
        obtain ⟨x, hx⟩ : ∃ x, L[j]? = some x := ⟨L[j], by simp [hjl]⟩
        obtain ⟨r', rfl⟩ : ∃ r', r = toEd x :: r' := by
          have h0 := hr 0
          rw [Nat.add_zero, List.getElem?_map, hx] at h0
          cases r with
          | nil => simp at h0
          | cons e r' => simp at h0; exact ⟨r', by rw [h0]⟩
        have hr' : ∀ i, r'[i]? = (L.map toEd)[j + 1 + i]? := fun i => by
          have := hr (i + 1)
          rw [show j + 1 + i = j + (i + 1) by omega]; simpa using this
        -- the end of a round
        have fin_ : ∀ (s3 : Seen) (w9 : World) (ρ9 : Env) (Q9 : Exit → Env → World → Prop), True := fun _ _ _ _ => trivial
        simp only [scan] at F
        refine CW.seq fun K7 hK7 => ?_
        have step : ∀ (s3 : Seen) (w9 : World) (ρ9 : Env), scan (dfs (L.map toEd) t k) u dr r' ((j : Int) + 1) s3 = some res → Hp wb w9 ([.mp b (encMap ekI ekBl s3), .own A c 3 1 (dr.map encN)] ++ R) →
            Sub [(0, .slice A_l L.length c_l), (1, .int .i64 u), (2, .int .i64 t), (3, .map (some b)), (4, .slice A dr.length c), (23, .slice A_l L.length c_l), (24, .int .i64 (L.length : Int)), (25, .int .i64 (j : Int))] ρ9 → K7 ρ9 w9 := by
          intro s3 w9 ρ9 F9 H9 hs
          refine hK7 _ _ ?_
          refine CW.sub _ hs ?_
          refine CW.region ?_
          refine LW.pure rfl rfl (RV.add rfl rfl (by have := hl.cap; have := hl.len; simp at this; omega)) ?_
          refine LW.pure rfl rfl (RV.move rfl) ?_
          refine LW.nil ?_
          refine ⟨L.length - (j + 1), by omega, _, ?_, j + 1, s3, r', rfl, by omega, hr', by rw [show ((j + 1 : Nat) : Int) = (j : Int) + 1 by omega]; exact F9, rfl, H9⟩
          exact ⟨rfl, rfl, rfl, rfl, rfl, rfl, rfl, rfl, trivial⟩
        refine CW.block ?_
        refine CW.seq fun K8 hK8 => ?_
        refine CW.region ?_
        refine LW.pure rfl rfl (RV.move rfl) ?_
        refine LW.pure rfl rfl (RV.indexAddr Ts63' rfl rfl ⟨by omega, hp2⟩ (hl.addr_ hx)) ?_
        refine LW.pure rfl rfl (RV.loadA [.int .i64 x.drain.from_, .int .i64 x.drain.to_, .int .i64 x.drain.width, .int .i64 x.runs] Tk87' rfl (((hl.ext R0).at_ hx)) rfl rfl) ?_
        refine LW.go rfl rfl (OW.alloc Tz87' fun b5 w5 N5 => ?_)
        replace H := H.new N5 N5.blk
        refine LW.pure rfl rfl (RV.assign rfl) ?_
        refine LW.go rfl rfl (OW.store Tk87' rfl rfl (H.blk 0 rfl) (off := 0) (vs := [.int .i64 x.drain.from_, .int .i64 x.drain.to_, .int .i64 x.drain.width, .int .i64 x.runs]) rfl rfl rfl rfl rfl fun w6 S6 => ?_)
        replace H : Hp wb w6 ([.blk b5 87 [.int .i64 x.drain.from_, .int .i64 x.drain.to_, .int .i64 x.drain.width, .int .i64 x.runs], .mp b (encMap ekI ekBl s2), .own A c 3 1 (dr.map encN)] ++ R) := H.stored 0 rfl S6
        replace R0 := H.ext
        refine LW.nil (hK8 _ _ ?_)
        refine CW.seq fun K9 hK9 => ?_
        refine CW.seq fun K10 hK10 => ?_
        refine CW.region ?_
        refine LW.pure rfl rfl (RV.fieldAddr Tf87_0' rfl) ?_
        refine LW.pure rfl rfl (RV.fieldAddr Tf52_0' rfl) ?_
        refine LW.pure rfl rfl (RV.load1 Tk3' rfl (((H.blk 0 rfl).cells.off 0).off 0) rfl) ?_
        refine LW.pure rfl rfl (RV.move rfl) ?_
        refine LW.pure rfl rfl (RV.nei rfl rfl) ?_
        refine LW.pure rfl rfl (RV.move rfl) ?_
        -- is one of its ends here?
        have go : ∀ (q : Bool) (ρ9 : Env), Tb.look ρ9 41 = some (.bool q) → q = !(decide (x.drain.from_ = u) || decide (x.drain.to_ = u)) →
            Sub [(0, .slice A_l L.length c_l), (1, .int .i64 u), (2, .int .i64 t), (3, .map (some b)), (4, .slice A dr.length c), (10, .int .i64 (j : Int)), (11, .pointer (some ⟨b5, 0, none⟩)), (23, .slice A_l L.length c_l), (24, .int .i64 (L.length : Int)), (25, .int .i64 (j : Int))] ρ9 → K10 ρ9 w6 := by
          intro q ρ9 hq hqe hs
          refine hK10 _ _ ?_
          by_cases hin : (toEd x).a = u ∨ (toEd x).b = u
          · rw [if_pos hin] at F
            have hqf : q = false := by
              rw [hqe]
              rcases hin with h | h
              · have h : x.drain.from_ = u := h
                simp [h]
              · have h : x.drain.to_ = u := h
                simp [h]
            refine CW.condF (show ev ρ9 _ = some (.bool q) from hq) hqf ?_
            refine CW.skip (hK9 _ _ ?_)
            refine CW.sub _ hs ?_
            obtain ⟨hroom, F⟩ := gd_some F
            have hroom' : drain_left_room x u = some (other (toEd x) u, room (toEd x) u) := by
              unfold drain_left_room
              unfold room at hroom
              unfold other room
              by_cases h : x.drain.from_ = u
              · have h' : (toEd x).a = u := h
                rw [if_pos h'] at hroom
                rw [if_pos h, if_pos h', if_pos h']; exact gd_pos hroom
              · have h' : ¬ (toEd x).a = u := h
                rw [if_neg h, if_neg h', if_neg h']; rfl
            generalize hoo : other (toEd x) u = oo at F hroom'
            generalize hrr : room (toEd x) u = rr at F hroom'
            refine CW.seq fun K11 hK11 => ?_
            refine CW.region ?_
            refine LW.pure rfl rfl (RV.loadA [.int .i64 x.drain.from_, .int .i64 x.drain.to_, .int .i64 x.drain.width, .int .i64 x.runs] Tk87' rfl (H.blk 0 rfl).cells rfl rfl) ?_
            refine LW.pure rfl rfl (RV.move rfl) ?_
            refine LW.go rfl rfl (OW.call Tc90' rfl (drain_left_room_ok (a0 := x) (a1 := u) hroom') ?_)
            rintro _ w7 ⟨rfl, E7⟩
            refine ⟨_, rfl, ?_⟩
            replace H := H.grow E7
            replace R0 := H.ext
            refine LW.pure rfl rfl (RV.move rfl) ?_
            refine LW.pure rfl rfl (RV.extract rfl rfl) ?_
            refine LW.pure rfl rfl (RV.extract rfl rfl) ?_
            refine LW.pure rfl rfl (RV.assign rfl) ?_
            refine LW.pure rfl rfl (RV.assign rfl) ?_
            refine LW.nil (hK11 _ _ ?_)
            replace H : Hp wb w7 ([.mp b (encMap ekI ekBl s2), .own A c 3 1 (dr.map encN)] ++ ([.blk b5 87 [.int .i64 x.drain.from_, .int .i64 x.drain.to_, .int .i64 x.drain.width, .int .i64 x.runs]] ++ R)) :=
              H.pickR (C := [.blk b5 87 [.int .i64 x.drain.from_, .int .i64 x.drain.to_, .int .i64 x.drain.width, .int .i64 x.runs], .mp b (encMap ekI ekBl s2), .own A c 3 1 (dr.map encN)]) (C' := [.mp b (encMap ekI ekBl s2), .own A c 3 1 (dr.map encN), .blk b5 87 [.int .i64 x.drain.from_, .int .i64 x.drain.to_, .int .i64 x.drain.width, .int .i64 x.runs]]) [1, 2, 0] (by decide) rfl
            have Hs : Hp wb w7 ([.mp b (encMap ekI ekBl s2), .own A c 3 1 (dr.map encN)] ++ R) :=
              H.pickR (C := [.mp b (encMap ekI ekBl s2), .own A c 3 1 (dr.map encN), .blk b5 87 [.int .i64 x.drain.from_, .int .i64 x.drain.to_, .int .i64 x.drain.width, .int .i64 x.runs]]) (C' := [.mp b (encMap ekI ekBl s2), .own A c 3 1 (dr.map encN)]) [0, 1] (by decide) rfl
            refine CW.seq fun K12 hK12 => ?_
            have skip_ : ∀ (ρ8 : Env), Tb.look ρ8 55 = some (.bool false) → ¬ (0 < rr ∧ sees s2 oo = false) →
                Sub [(0, .slice A_l L.length c_l), (1, .int .i64 u), (2, .int .i64 t), (3, .map (some b)), (4, .slice A dr.length c), (23, .slice A_l L.length c_l), (24, .int .i64 (L.length : Int)), (25, .int .i64 (j : Int))] ρ8 → K12 ρ8 w7 := by
              intro ρ8 h8 hn hs8
              rw [if_neg hn] at F
              refine hK12 _ _ ?_
              refine CW.condF (show ev ρ8 _ = some (.bool false) from h8) rfl ?_
              refine CW.skip ?_
              exact step s2 w7 ρ8 F Hs hs8
            refine CW.region ?_
            refine LW.pure rfl rfl (RV.move rfl) ?_
            refine LW.pure rfl rfl (RV.gtr rfl rfl) ?_
            refine LW.pure rfl rfl (RV.move rfl) ?_
            by_cases hp3 : (0 : Int) < rr
            · refine LW.pureYB rfl rfl rfl rfl (dec_t hp3) (RV.move rfl) ?_
              refine LW.pureYB rfl rfl rfl rfl (dec_t hp3) (RV.move rfl) ?_
              refine LW.pureYB rfl rfl rfl rfl (dec_t hp3) (RV.lookupM (ek := ekI) (ev' := ekBl) (eq := eqI) (m := s2) oo false KO3' Tm96' Tz4' rfl rfl (H.mp 0 rfl)) ?_
              refine LW.pureYB rfl rfl rfl rfl (dec_t hp3) (RV.not rfl) ?_
              refine LW.pure rfl rfl (RV.pickTB rfl (dec_t hp3) rfl) ?_
              refine LW.nil ?_
              cases hsee : sees s2 oo
              · rw [if_pos ⟨hp3, hsee⟩] at F
                obtain ⟨hlen, F⟩ := gd_some F
                refine hK12 _ _ ?_
                refine CW.condT rfl (show (!(mget eqI s2 oo).getD false) = true by unfold sees at hsee; rw [hsee]; rfl) ?_
                refine CW.region ?_
                refine LW.pure rfl rfl (RV.move rfl) ?_
                refine LW.pure rfl rfl (RV.move rfl) ?_
                refine LW.pure rfl rfl (RV.move rfl) ?_
                refine LW.pure rfl rfl (RV.move rfl) ?_
                refine LW.pure rfl rfl (RV.move rfl) ?_
                refine LW.pure rfl rfl (RV.move rfl) ?_
                refine LW.go rfl rfl (OW.buildSlice (e := 3) (vs := [.int .i64 (j : Int)]) (cs := [.int .i64 (j : Int)]) rfl (fun _ => by kernel_rfl) fun b8 w8 N8 => ?_)
                replace H := H.made' (k := 1) (t := 3) (n := 1) (enc := encN) (l := [(j : Int)]) N8 N8.blk (fun _ => rfl) rfl (by omega)
                replace R0 := H.ext
                refine LW.go rfl rfl (OW.appendC (enc := encN) (l := dr) (xs := [(j : Int)]) Ts30' rfl rfl (H.own 2 rfl) (H.own 0 rfl).sl (fun _ => rfl) rfl rfl hlen (by omega) (by simp) fun A9 c9 w9 O9 D9 => ?_)
                generalize hres : dfs (L.map toEd) t k oo s2 (dr ++ [(j : Int)]) = q at F
                cases q with
                | none => cases F
                | some q =>
                -- the state at the call, and what is left of it
                have key : ∃ (R' : List Ck), Hp wb w9 ([.mp b (encMap ekI ekBl s2), .own A9 c9 3 1 ((dr ++ [(j : Int)]).map encN)] ++ R') ∧
                    (∀ (s3 : Seen) (w10 : World), Hp wb w10 ([.mp b (encMap ekI ekBl s3), .own A9 c9 3 1 ((dr ++ [(j : Int)]).map encN)] ++ R') → Hp wb w10 ([.mp b (encMap ekI ekBl s3), .own A c 3 1 (dr.map encN)] ++ R)) ∧ (∀ (y : Ck) (w10 : World), Hp wb w10 ([y] ++ R') → Hp wb w10 ([y] ++ R)) := by
                  rcases D9 with ⟨rfl, rfl, hA, M9⟩ | ⟨b9, rfl, hb9, E9⟩
                  · have H1 := H.mod 2 rfl M9 O9 (.inl rfl)
                    refine ⟨R, ?_, fun s3 w10 H10 => ?_, fun _ _ h => h⟩
                    · exact H1.pickR (C := [.own (some ⟨b8, 0, none⟩) 1 3 1 (List.map encN [(j : Int)]), .mp b (encMap ekI ekBl s2), .own A9 c9 3 1 ((dr ++ [(j : Int)]).map encN), .blk b5 87 [.int .i64 x.drain.from_, .int .i64 x.drain.to_, .int .i64 x.drain.width, .int .i64 x.runs]]) (C' := [.mp b (encMap ekI ekBl s2), .own A9 c9 3 1 ((dr ++ [(j : Int)]).map encN)]) [1, 2] (by decide) rfl
                    · have o := H10.own 1 rfl
                      rw [List.map_append] at o
                      exact H10.weaken 1 rfl (y := .own A9 c9 3 1 (dr.map encN)) (o.shrink hA) (fun _ h => h)
                  · have H1 := H.newOwn E9 O9 (fun a ha => by cases ha; exact hb9)
                    refine ⟨[.own A c 3 1 (dr.map encN)] ++ R, ?_, fun s3 w10 H10 => ?_, fun y w10 H10 => H10.pickR (C := [y, .own A c 3 1 (dr.map encN)]) (C' := [y]) [0] (by decide) rfl⟩
                    · exact H1.pickR (C := [.own (some ⟨b9, 0, none⟩) c9 3 1 ((dr ++ [(j : Int)]).map encN), .own (some ⟨b8, 0, none⟩) 1 3 1 (List.map encN [(j : Int)]), .mp b (encMap ekI ekBl s2), .own A c 3 1 (dr.map encN), .blk b5 87 [.int .i64 x.drain.from_, .int .i64 x.drain.to_, .int .i64 x.drain.width, .int .i64 x.runs]]) (C' := [.mp b (encMap ekI ekBl s2), .own (some ⟨b9, 0, none⟩) c9 3 1 ((dr ++ [(j : Int)]).map encN), .own A c 3 1 (dr.map encN)]) [2, 0, 3] (by decide) rfl
                    · exact H10.pickR (C := [.mp b (encMap ekI ekBl s3), .own (some ⟨b9, 0, none⟩) c9 3 1 ((dr ++ [(j : Int)]).map encN), .own A c 3 1 (dr.map encN)]) (C' := [.mp b (encMap ekI ekBl s3), .own A c 3 1 (dr.map encN)]) [0, 2] (by decide) rfl
                obtain ⟨R', Hc, back, back2⟩ := key
                refine LW.go rfl rfl (OW.callP Tc94' rfl (IH hres Hc) ?_)
                intro e w10 hq10
                cases q with
                | inl s3 =>
                  obtain ⟨rfl, H10⟩ := hq10
                  refine .inl ⟨_, rfl, ?_⟩
                  refine LW.nil ?_
                  exact step s3 w10 _ F (back s3 w10 H10) ⟨rfl, rfl, rfl, rfl, rfl, rfl, rfl, rfl, trivial⟩
                | inr y =>
                  obtain ⟨A', c', rfl, H10⟩ := hq10
                  cases F
                  exact .inr ⟨_, rfl, A', c', rfl, back2 _ _ H10⟩
              · refine skip_ _ (look_bool rfl (show (!(mget eqI s2 oo).getD false) = false by unfold sees at hsee; rw [hsee]; rfl)) (fun h => by rw [hsee] at h; cases h.2) ⟨rfl, rfl, rfl, rfl, rfl, rfl, rfl, rfl, trivial⟩
            · refine LW.noB rfl rfl rfl rfl (ne_beq (v := false) (dec_f hp3) rfl) ?_
              refine LW.noB rfl rfl rfl rfl (ne_beq (v := false) (dec_f hp3) rfl) ?_
              refine LW.noB rfl rfl rfl rfl (ne_beq (v := false) (dec_f hp3) rfl) ?_
              refine LW.noB rfl rfl rfl rfl (ne_beq (v := false) (dec_f hp3) rfl) ?_
              refine LW.pure rfl rfl (RV.pickFB rfl (dec_f hp3) rfl) ?_
              refine LW.nil ?_
              exact skip_ _ rfl (fun h => hp3 h.1) ⟨rfl, rfl, rfl, rfl, rfl, rfl, rfl, rfl, trivial⟩
          · rw [if_neg hin] at F
            have hqt : q = true := by
              rw [hqe]
              have h1 : ¬ x.drain.from_ = u := fun h => hin (.inl h)
              have h2 : ¬ x.drain.to_ = u := fun h => hin (.inr h)
              simp [h1, h2]
            refine CW.condT (show ev ρ9 _ = some (.bool q) from hq) hqt ?_
            refine CW.exit ?_
            have Hs : Hp wb w6 ([.mp b (encMap ekI ekBl s2), .own A c 3 1 (dr.map encN)] ++ R) :=
              H.pickR (C := [.blk b5 87 [.int .i64 x.drain.from_, .int .i64 x.drain.to_, .int .i64 x.drain.width, .int .i64 x.runs], .mp b (encMap ekI ekBl s2), .own A c 3 1 (dr.map encN)]) (C' := [.mp b (encMap ekI ekBl s2), .own A c 3 1 (dr.map encN)]) [1, 2] (by decide) rfl
            refine step s2 w6 ρ9 F Hs ?_
            obtain ⟨h0, h1, h2, h3, h4, _, _, h5, h6, h7, _⟩ := hs
            exact ⟨h0, h1, h2, h3, h4, h5, h6, h7, trivial⟩
        by_cases hp4 : x.drain.from_ = u
        · have hb4 : (!decide (x.drain.from_ = u)) = false := by simp [hp4]
          refine LW.noB rfl rfl rfl rfl (ne_beq (v := false) hb4 rfl) ?_
          refine LW.noB rfl rfl rfl rfl (ne_beq (v := false) hb4 rfl) ?_
          refine LW.noB rfl rfl rfl rfl (ne_beq (v := false) hb4 rfl) ?_
          refine LW.noB rfl rfl rfl rfl (ne_beq (v := false) hb4 rfl) ?_
          refine LW.noB rfl rfl rfl rfl (ne_beq (v := false) hb4 rfl) ?_
          refine LW.pure rfl rfl (RV.pickFB rfl hb4 rfl) ?_
          refine LW.nil ?_
          exact go false _ rfl (by simp [hp4]) ⟨rfl, rfl, rfl, rfl, rfl, rfl, rfl, rfl, rfl, rfl, trivial⟩
        · have hb4 : (!decide (x.drain.from_ = u)) = true := by simp [hp4]
          refine LW.pureYB rfl rfl rfl rfl hb4 (RV.fieldAddr Tf87_0' rfl) ?_
          refine LW.pureYB rfl rfl rfl rfl hb4 (RV.fieldAddr Tf52_1' rfl) ?_
          refine LW.pureYB rfl rfl rfl rfl hb4 (RV.load1 Tk3' rfl (((H.blk 0 rfl).cells.off 0).off 1) rfl) ?_
          refine LW.pureYB rfl rfl rfl rfl hb4 (RV.move rfl) ?_
          refine LW.pureYB rfl rfl rfl rfl hb4 (RV.nei rfl rfl) ?_
          refine LW.pure rfl rfl (RV.pickTB rfl hb4 rfl) ?_
          refine LW.nil ?_
          exact go (!decide (x.drain.to_ = u)) _ rfl (by simp [hp4]) ⟨rfl, rfl, rfl, rfl, rfl, rfl, rfl, rfl, rfl, rfl, trivial⟩
      · refine CW.condF rfl (dec_f hp2) ?_
        refine CW.exit ?_
        have hjl : j = L.length := by omega
        have hrn : r = [] := by
          cases r with
          | nil => rfl
          | cons e r' => have := hr 0; rw [hjl] at this; simp at this
        subst hrn
        simp only [scan] at F
        cases F
        exact ⟨_, ResOK.none_, rfl, H⟩
end Go.D2

set_option linter.unusedVariables false
set_option linter.unusedSimpArgs false
namespace Go.Tb
open Go.RowKit
structure FitsD (n : Nat) (ds : List Deferred) (ρ : Env) (a : Act) : Prop where
  defers : a.defers = ds
  fits : Fits n ρ { a with defers := [] }
def liftD (n : Nat) (ds : List Deferred) (Q : Exit → Env → World → Prop) : Exit → Act → World → Prop := fun e a w => ∃ ρ, FitsD n ds ρ a ∧ Q e ρ w
def CWD (P : Program) (n : Nat) (ds : List Deferred) (c : Code) (Q : Exit → Env → World → Prop) (ρ : Env) (w : World) : Prop := ∀ a, FitsD n ds ρ a → c.wp P (liftD n ds Q) a w
def LWD (P : Program) (n : Nat) (ds : List Deferred) (ops : Array Oper) (Q : Exit → Env → World → Prop) (l : List Oper) (ρ : Env) (w : World) : Prop := ∀ a, FitsD n ds ρ a → wpList P ops (liftD n ds Q) l a w
section
variable {P : Program} {n : Nat} {ds : List Deferred} {ops : Array Oper} {Q : Exit → Env → World → Prop} {ρ : Env} {w : World}
theorem eval_defers (a : Act) (l : List Deferred) : ({ a with defers := l } : Act).eval = a.eval := by
  funext x; cases x <;> rfl
theorem OW.toD {o : Oper} {K : Value → World → Prop} (h : OW P n Q o ρ w K) {a : Act} (ha : FitsD n ds ρ a) : wpV P o a w K (fun c w' => Q (.panic c) ρ w') := by
  have := h _ ha.fits
  unfold wpV at this ⊢
  rw [eval_defers] at this
  exact this
theorem FitsD.upd {a : Act} (h : FitsD n ds ρ a) {d : Option Nat} (hd : okDst n d = true) (v : Value) : FitsD n ds (Tb.upd ρ d v) (a.put d v) := by
  have := h.fits.upd hd v
  refine ⟨?_, ?_⟩
  · cases d <;> exact h.defers
  · cases d <;> exact this
theorem LWD.go {o : Oper} {rest : List Oper} (hg : o.guard = none) (hd : okDst n o.dst = true) (h : OW P n Q o ρ w (fun v w' => LWD P n ds ops Q rest (upd ρ o.dst v) w')) : LWD P n ds ops Q (o :: rest) ρ w := fun a ha => by
  unfold wpList
  rw [if_pos (by simp [Region.wanted, hg])]
  exact .inl (wp_of_wpV (h.toD ha) (fun v w' hk => hk _ (ha.upd hd v)) (fun c w' hk => ⟨ρ, ha, hk⟩))
theorem LWD.pure {o : Oper} {rest : List Oper} {v : Value} (hg : o.guard = none) (hd : okDst n o.dst = true) (h : RV P n o ρ w v) (k : LWD P n ds ops Q rest (upd ρ o.dst v) w) : LWD P n ds ops Q (o :: rest) ρ w :=
  LWD.go hg hd (OW.value h k)
theorem LWD.nil (h : Q .normal ρ w) : LWD P n ds ops Q [] ρ w := fun _ ha => wpList_nil ⟨ρ, ha, h⟩
theorem CWD.region {id : Nat} {l : List Oper} (h : LWD P n ds l.toArray Q l ρ w) : CWD P n ds (.region id l.toArray false) Q ρ w := fun a ha => wp_region_lit (h a ha)
theorem CWD.seq {x y : Code} (h : CWD P n ds x (thenE (fun ρ w => CWD P n ds y Q ρ w) Q) ρ w) : CWD P n ds (.seq x y) Q ρ w := fun a ha => by
  refine wp_seq (wp_mono (h a ha) fun e a' w' hq => ?_)
  obtain ⟨ρ', hf, hq⟩ := hq
  cases e <;> first | exact hq a' hf | exact ⟨ρ', hf, hq⟩
theorem CWD.ret (h : Q .ret ρ w) : CWD P n ds .ret Q ρ w := fun _ ha => wp_ret ⟨ρ, ha, h⟩
variable {d : Option Tmp} {ty : TypeId} {pos : String} {after : Array Edge} {g : Option (Nat × Bool)} {K : Value → World → Prop}
theorem RV.neiface {t u q : Nat} {ms : Array (String × TypeId)} {x : Operand} {v : Value} (hT : P.underlying t = some (.interface ms)) (hx : ev ρ x = some (.iface q v)) : RV P n ⟨d, .binOp .neq t x (.const .nilIface) u, ty, pos, after, g⟩ ρ w (.bool true) := fun a ha => by
  have h : ∀ d : Nat, (Op.equalIn (d + 1) t (.iface q v) .nilIface).run P w = .ok false w := fun d => by simp [Op.equalIn, run_underlying hT]
  have hg : (eqGuard .neq t x (.const .nilIface) (.iface q v) .nilIface).run P w = .ok () w := by simp [go_sem]
  have hy : a.eval (.const .nilIface) = .nilIface := rfl
  simp only [execOp, ha.ev hx, hy, Sem.run_bind, hg, Result.andThen_ok]
  simp only [binOp]
  simp [Op.equal, Op.maxDepth, h 9999]
theorem RV.nenilI {t u : Nat} {ms : Array (String × TypeId)} {x : Operand} (hT : P.underlying t = some (.interface ms)) (hx : ev ρ x = some .nilIface) : RV P n ⟨d, .binOp .neq t x (.const .nilIface) u, ty, pos, after, g⟩ ρ w (.bool false) := fun a ha => by
  have h : ∀ d : Nat, (Op.equalIn (d + 1) t .nilIface .nilIface).run P w = .ok true w := fun d => by simp [Op.equalIn, run_underlying hT]
  have hg : (eqGuard .neq t x (.const .nilIface) .nilIface .nilIface).run P w = .ok () w := by simp [go_sem]
  have hy : a.eval (.const .nilIface) = .nilIface := rfl
  simp only [execOp, ha.ev hx, hy, Sem.run_bind, hg, Result.andThen_ok]
  simp only [binOp]
  simp [Op.equal, Op.maxDepth, h 9999]
theorem RV.assertOk {t q : Nat} {fs : TypeDesc} {x : Operand} {v : Value} (hT : P.underlying q = some fs) (hn : (match fs with | .interface _ => true | _ => false) = false) (hx : ev ρ x = some (.iface q v)) : RV P n ⟨d, .typeAssert x t q true, ty, pos, after, g⟩ ρ w (.tuple #[v, .bool true]) := fun a ha => by
  simp only [execOp, ha.ev hx, Instr.typeAssert, Sem.run_bind, run_underlying hT, Result.andThen_ok]
  cases fs <;> simp_all
end
end Go.Tb
namespace Go.Tb
theorem Fits.empty {n : Nat} {a : Act} (hd : a.defers = []) (hs : a.tmps.size = n) : Fits n [] a := ⟨hd, hs, fun t v h => by simp [Tb.look] at h⟩
theorem Fits.add {n k : Nat} {v : Value} {ρ : Env} {a : Act} (h : Fits n ρ a) (hv : a.tmps[k]? = some v) : Fits n ((k, v) :: ρ) a := ⟨h.defers, h.size, fun t u hl => by
  unfold Tb.look at hl
  split at hl
  · rename_i hb
    have : k = t := Nat.eq_of_beq_eq_true hb
    subst this
    simp at hl; subst hl; exact hv
  · exact h.at_ t u hl⟩
end Go.Tb
namespace Go.Tb
section
variable {P : Program} {n : Nat} {ops : Array Oper} {Q : Exit → Act → World → Prop} {a : Act} {w : World} {ρ : Env}
theorem wpList_rv {o : Oper} {rest : List Oper} {v : Value} (hf : Fits n ρ a) (hg : o.guard = none) (h : RV P n o ρ w v) (k : wpList P ops Q rest (a.put o.dst v) w) : wpList P ops Q (o :: rest) a w := by
  unfold wpList
  rw [if_pos (by simp [Region.wanted, hg])]
  refine .inl ?_
  unfold Oper.wp
  rw [h a hf]
  exact k
theorem wpList_defer {o : Oper} {rest : List Oper} {x : Operand} {fn : Fn} {fst cap : Array Value} (hg : o.guard = none) (hd : o.dst = none) (ho : o.op = .defer ⟨.value x, #[], #[]⟩) (hx : a.eval x = .func fn fst cap)
    (k : wpList P ops Q rest { a with defers := { target := .fn fn cap, args := fst ++ #[] } :: a.defers } w) : wpList P ops Q (o :: rest) a w := by
  unfold wpList
  rw [if_pos (by simp [Region.wanted, hg])]
  refine .inl ?_
  unfold Oper.wp
  have he : (execOp a.eval o).run P w = .ok (.defer { target := .fn fn cap, args := fst ++ #[] }) w := by
    simp only [execOp, ho, resolve, hx, Deferred.ofValue, Sem.run_bind, Sem.run_pure, Result.andThen_ok]
    simp
  rw [he, Oper.upon_defer, hd]
  exact k
end
end Go.Tb
namespace Go.Tb
section
variable {P : Program} {n : Nat} {ρ : Env} {w : World} {d : Option Tmp} {ty : TypeId} {pos : String} {after : Array Edge} {g : Option (Nat × Bool)}
end
end Go.Tb
namespace Go.Tb
section
variable {P : Program} {n : Nat} {ρ : Env} {w : World} {d : Option Tmp} {ty : TypeId} {pos : String} {after : Array Edge} {g : Option (Nat × Bool)}
end
end Go.Tb

set_option linter.unusedVariables false
set_option linter.unusedSimpArgs false
namespace Go.D2
open Go.Tb Go.Proofs Go.RowKit
theorem Tk30' : tyK Try.prog 30 = some (false, 1) := by kernel_rfl
theorem Tk93' : tyK Try.prog 93 = some (true, 1) := by kernel_rfl
theorem Tz93' : tyZ Try.prog 93 = some (.agg #[.slice none 0 0]) := by kernel_rfl
theorem Tz30' : tyZ Try.prog 30 = some (.slice none 0 0) := by kernel_rfl
theorem Tf93_0' : tyF Try.prog 93 0 = some 0 := by kernel_rfl
theorem Tu20' : Try.prog.underlying 20 = some (.interface #[]) := by kernel_rfl
set_option maxRecDepth 20000 in
set_option maxHeartbeats 1000000 in
theorem catch_ok {b0 : Nat} {A' : Option Addr} {c' : Nat} {R : List Ck} {wb w : World} {old : Value} {x : List Int} (H : Hp wb w ([.blk b0 30 [old], .own A' c' 3 1 (x.map encN)] ++ R)) :
    CallsD Try.prog 93 #[.pointer (some ⟨b0, 0, none⟩)] (.panicking [{ v := .iface 93 (.agg #[.slice A' x.length c']), recovered := false }]) w fun e u' w' =>
      e = .returned (.tuple #[]) ∧ u' = .panicking [{ v := .iface 93 (.agg #[.slice A' x.length c']), recovered := true }] ∧ Hp wb w' ([.blk b0 30 [.slice A' x.length c'], .own A' c' 3 1 (x.map encN)] ++ R) := by
  refine callsD_of_wpS Try.func93 rfl fun c₀ cs hu => ?_
  apply wpS_seq
  apply wpS_region
  simp [wpOpsS, go_sem, recoverD, hu, Try.ntmps93, Exit.thenS]
  refine wpS_of_wp (wp_mono ((?_ : CW Try.prog 17 _ (bodyE Try.prog 17 #[] fun e w' => e = .returned (.tuple #[]) ∧ Hp wb w' ([.blk b0 30 [.slice A' x.length c'], .own A' c' 3 1 (x.map encN)] ++ R)) [(0, .pointer (some ⟨b0, 0, none⟩)), (1, .iface 93 (.agg #[.slice A' x.length c']))] w) _ ?_) ?_)
  · refine CW.seq fun K1 hK1 => ?_
    refine CW.region (l := [_, _]) ?_
    refine LW.pure rfl rfl (RV.move rfl) ?_
    refine LW.pure rfl rfl (RV.neiface Tu20' rfl) ?_
    refine LW.nil (hK1 _ _ ?_)
    refine CW.condT (t := true) rfl rfl ?_
    refine CW.seq fun K2 hK2 => ?_
    refine CW.region (l := [_, _, _, _, _, _, _, _]) ?_
    refine LW.pure rfl rfl (RV.move rfl) ?_
    refine LW.pure rfl rfl (RV.assertOk Tu93' rfl rfl) ?_
    refine LW.pure rfl rfl (RV.move rfl) ?_
    refine LW.pure rfl rfl (RV.extract rfl rfl) ?_
    refine LW.pure rfl rfl (RV.extract rfl rfl) ?_
    refine LW.go rfl rfl (OW.alloc Tz93' fun b1 w1 N1 => ?_)
    replace H := H.new N1 N1.blk
    refine LW.go rfl rfl (OW.store Tk93' rfl rfl (H.blk 0 rfl) (off := 0) (vs := [.slice A' x.length c']) rfl rfl rfl rfl rfl fun w2 S2 => ?_)
    replace H : Hp wb w2 ([.blk b1 93 [.slice A' x.length c'], .blk b0 30 [old], .own A' c' 3 1 (x.map encN)] ++ R) := H.stored 0 rfl S2
    refine LW.pure rfl rfl (RV.assign rfl) ?_
    refine LW.nil (hK2 _ _ ?_)
    refine CW.seq fun K3 hK3 => ?_
    refine CW.seq fun K4 hK4 => ?_
    refine CW.region (l := [_, _]) ?_
    refine LW.pure rfl rfl (RV.move rfl) ?_
    refine LW.pure rfl rfl (RV.not rfl) ?_
    refine LW.nil (hK4 _ _ ?_)
    refine CW.condF (t := !true) rfl rfl ?_
    refine CW.skip (hK3 _ _ ?_)
    refine CW.region (l := [_, _, _]) ?_
    refine LW.pure rfl rfl (RV.fieldAddr Tf93_0' rfl) ?_
    refine LW.pure rfl rfl (RV.load1 Tk30' rfl ((H.blk 0 rfl).cells.off 0) rfl) ?_
    refine LW.go rfl rfl (OW.store Tk30' rfl rfl (H.blk 1 rfl) (off := 0) (vs := [.slice A' x.length c']) rfl rfl rfl rfl rfl fun w3 S3 => ?_)
    replace H : Hp wb w3 ([.blk b1 93 [.slice A' x.length c'], .blk b0 30 [.slice A' x.length c'], .own A' c' 3 1 (x.map encN)] ++ R) := H.stored 1 rfl S3
    refine LW.nil ?_
    exact ⟨_, ResOK.none_, rfl, H.pickR (C := [.blk b1 93 [.slice A' x.length c'], .blk b0 30 [.slice A' x.length c'], .own A' c' 3 1 (x.map encN)]) (C' := [.blk b0 30 [.slice A' x.length c'], .own A' c' 3 1 (x.map encN)]) [1, 2] (by decide) rfl⟩
  · refine Fits.add (Fits.add (Fits.empty ?_ ?_) ?_) ?_ <;> rfl
  · rintro e a w' ⟨ρ, hf, hq⟩
    cases e with
    | normal =>
      obtain ⟨v, h1, h3, h2⟩ := hq
      exact ⟨hf.defers, _, rfl, v, h1 Try.f93 a rfl hf, h3, rfl, h2⟩
    | ret =>
      obtain ⟨v, h1, h3, h2⟩ := hq
      exact ⟨hf.defers, _, rfl, v, h1 Try.f93 a rfl hf, h3, rfl, h2⟩
    | panic ch => obtain ⟨h, _⟩ := hq; cases h
    | outgrown => obtain ⟨h, _⟩ := hq; cases h
    | exit id => exact hq.elim
    | goto l => exact hq.elim
set_option maxRecDepth 20000 in
set_option maxHeartbeats 1000000 in
theorem catch_idle {p : Addr} (w : World) : CallsD Try.prog 93 #[.pointer (some p)] .returning w fun e u' w' => e = .returned (.tuple #[]) ∧ u' = .returning ∧ w' = w := by
  refine callsD_of_wpS Try.func93 rfl fun c₀ cs hu => ?_
  apply wpS_seq
  apply wpS_region
  simp [wpOpsS, go_sem, recoverD, hu, Try.ntmps93, Exit.thenS]
  refine wpS_of_wp (wp_mono ((?_ : CW Try.prog 17 _ (bodyE Try.prog 17 #[] fun e w' => e = .returned (.tuple #[]) ∧ w' = w) [(0, .pointer (some p)), (1, .nilIface)] w) _ ?_) ?_)
  · refine CW.seq fun K1 hK1 => ?_
    refine CW.region (l := [_, _]) ?_
    refine LW.pure rfl rfl (RV.move rfl) ?_
    refine LW.pure rfl rfl (RV.nenilI Tu20' rfl) ?_
    refine LW.nil (hK1 _ _ ?_)
    refine CW.condF (t := false) rfl rfl ?_
    refine CW.skip ?_
    exact ⟨_, ResOK.none_, rfl, rfl⟩
  · refine Fits.add (Fits.add (Fits.empty ?_ ?_) ?_) ?_ <;> rfl
  · rintro e a w' ⟨ρ, hf, hq⟩
    cases e with
    | normal =>
      obtain ⟨v, h1, h3, h2⟩ := hq
      refine ⟨hf.defers, .returning, ?_, v, h1 Try.f93 a rfl hf, h3, rfl, h2⟩
      cases c₀; simp_all
    | ret =>
      obtain ⟨v, h1, h3, h2⟩ := hq
      refine ⟨hf.defers, .returning, ?_, v, h1 Try.f93 a rfl hf, h3, rfl, h2⟩
      cases c₀; simp_all
    | panic ch => obtain ⟨h, _⟩ := hq; cases h
    | outgrown => obtain ⟨h, _⟩ := hq; cases h
    | exit id => exact hq.elim
    | goto l => exact hq.elim
/-- The search as a text: the drains of a way; none if there is none. -/
def drain_search (a0 : List Left) (a1 a2 : Int) : Option (List Int) :=
  gd (a1 ≠ a2) <|
  match dfs (a0.map toEd) a2 FU a1 [] [] with
  | none => none
  | some (.inl _) => some []
  | some (.inr x) => gd (x ≠ []) (some x)
set_option maxRecDepth 20000 in
set_option maxHeartbeats 1000000 in
theorem drain_search_ok {a0 : List Left} {a1 a2 : Int} {A_a0 : Option Addr} {c_a0 : Nat} {w : World} {res : List Int} (h_a0 : Sl w A_a0 c_a0 4 (a0.map encLeft)) (F : drain_search a0 a1 a2 = some res) :
    Calls Try.prog 71 #[.slice A_a0 a0.length c_a0, .int .i64 a1, .int .i64 a2] w (fun e w' => ∃ (A0 : Option Addr) (c0 : Nat), e = .returned (.slice A0 res.length c0) ∧ (A0 = none ↔ res = []) ∧ Hp w w' [.own A0 c0 3 1 (List.map encN res)]) := by
  unfold drain_search at F
  obtain ⟨hne, F⟩ := gd_some F
  generalize FU = KK at F
  refine calls_of_wp_defers Try.func71 rfl ?_
  refine wp_seq (wp_mono ((?_ : CW Try.prog 13 _ (thenE (fun ρ w1 => ∃ b, ρ = [(6, .pointer (some ⟨b, 0, none⟩)), (0, .slice A_a0 a0.length c_a0), (1, .int .i64 a1), (2, .int .i64 a2)] ∧ Hp w w1 [.blk b 30 [.slice none 0 0]]) (fun _ _ _ => False)) [(0, .slice A_a0 a0.length c_a0), (1, .int .i64 a1), (2, .int .i64 a2)] w) _ ?_) ?_)
  · refine CW.region (l := [_]) ?_
    refine LW.go rfl rfl (OW.alloc Tz30' fun b1 w1 N1 => ?_)
    refine LW.nil ?_
    exact ⟨b1, rfl, (Hp.start w).new N1 N1.blk⟩
  · refine Fits.add (Fits.add (Fits.add (Fits.empty ?_ ?_) ?_) ?_) ?_ <;> rfl
  rintro e a w1 ⟨ρ, hf, hq⟩
  cases e with
  | ret => exact hq.elim
  | panic ch => exact hq.elim
  | outgrown => exact hq.elim
  | exit id => exact hq.elim
  | goto l => exact hq.elim
  | normal =>
  obtain ⟨b1, rfl, H⟩ := hq
  have R0 := H.ext
  refine wp_seq (wp_region_lit (l := [_, _]) ?_)
  refine wpList_rv hf rfl (RV.makeFunc (fs := []) (cs := [.pointer (some ⟨b1, 0, none⟩)]) rfl rfl) ?_
  have hf2 := hf.upd (d := some 7) rfl (.func (.func 93) #[] #[.pointer (some ⟨b1, 0, none⟩)])
  refine wpList_defer (x := .tmp 7) (fn := .func 93) (fst := #[]) (cap := #[.pointer (some ⟨b1, 0, none⟩)]) rfl rfl rfl (hf2.ev (x := .tmp 7) rfl) ?_
  generalize hact : Act.put _ _ _ = ac2 at hf2 ⊢
  have hfd : FitsD 13 [{ target := .fn (.func 93) #[.pointer (some ⟨b1, 0, none⟩)], args := #[] ++ #[] }] _ { ac2 with defers := { target := .fn (.func 93) #[.pointer (some ⟨b1, 0, none⟩)], args := #[] ++ #[] } :: ac2.defers } :=
    ⟨by rw [hf2.defers], ⟨rfl, hf2.size, hf2.at_⟩⟩
  refine wpList_nil ?_
  show Code.wp _ _ _ _ _
  refine wp_mono ((?_ : CWD Try.prog 13 _ _ (fun e ρ w2 => match e with
    | .ret => Tb.look ρ 6 = some (.pointer (some ⟨b1, 0, none⟩)) ∧ res = [] ∧ Hp w w2 [.blk b1 30 [.slice none 0 0]]
    | .panic ch => Tb.look ρ 6 = some (.pointer (some ⟨b1, 0, none⟩)) ∧ ∃ (A' : Option Addr) (c' : Nat), res ≠ [] ∧ ch = [{ v := .iface 93 (.agg #[.slice A' res.length c']), recovered := false }] ∧ Hp w w2 [.blk b1 30 [.slice none 0 0], .own A' c' 3 1 (res.map encN)]
    | _ => False) _ w1) _ hfd) ?_
  · refine CWD.seq ?_
    refine CWD.region (l := [_, _, _, _, _]) ?_
    refine LWD.pure rfl rfl (RV.move rfl) ?_
    refine LWD.pure rfl rfl (RV.move rfl) ?_
    refine LWD.pure rfl rfl (RV.move rfl) ?_
    refine LWD.go rfl rfl (OW.makeMap fun b3 w3 N3 M3 => ?_)
    have H3 : Hp w w3 ([.mp b3 (encMap ekI ekBl ([] : Seen))] ++ [.blk b1 30 [.slice none 0 0]]) := H.newM N3 M3
    have H4 : Hp w w3 (.own none 0 3 1 (([] : List Int).map encN) :: ([.mp b3 (encMap ekI ekBl ([] : Seen))] ++ [.blk b1 30 [.slice none 0 0]])) := H3.nilOwn 3 1
    have H5 : Hp w w3 ([.mp b3 (encMap ekI ekBl ([] : Seen)), .own none 0 3 1 (([] : List Int).map encN)] ++ [.blk b1 30 [.slice none 0 0]]) :=
      H4.pick (L' := [.mp b3 (encMap ekI ekBl ([] : Seen)), .own none 0 3 1 (([] : List Int).map encN), .blk b1 30 [.slice none 0 0]]) [1, 0, 2] (by decide) rfl
    cases hd : dfs (a0.map toEd) a2 KK a1 [] [] with
    | none => rw [hd] at F; cases F
    | some q =>
    rw [hd] at F
    refine LWD.go rfl rfl (OW.callP Tc94' rfl (look_ok (u := a1) (t := a2) (s := []) (dr := []) (b := b3) (A := none) (c := 0) (R := [.blk b1 30 [.slice none 0 0]]) (w := w3) (res := q) h_a0 KK hd H5) ?_)
    intro e w5 hq5
    cases q with
    | inr x =>
      obtain ⟨A', c', rfl, H6⟩ := hq5
      obtain ⟨hx, F⟩ := gd_some F
      cases F
      refine .inr ⟨_, rfl, rfl, A', c', hx, rfl, ?_⟩
      exact H6.pick (L' := [.blk b1 30 [.slice none 0 0], .own A' c' 3 1 (res.map encN)]) [1, 0] (by decide) rfl
    | inl s' =>
      obtain ⟨rfl, H6⟩ := hq5
      cases F
      refine .inl ⟨_, rfl, ?_⟩
      refine LWD.nil ?_
      refine CWD.seq ?_
      refine CWD.region (l := [_]) ?_
      have H7 : Hp w w5 [.blk b1 30 [.slice none 0 0]] := H6.pick (L' := [.blk b1 30 [.slice none 0 0]]) [2] (by decide) rfl
      refine LWD.go rfl rfl (OW.store Tk30' rfl rfl (H7.blk 0 rfl) (off := 0) (vs := [.slice none 0 0]) rfl rfl rfl rfl rfl fun w6 S6 => ?_)
      refine LWD.nil ?_
      refine CWD.ret ?_
      exact ⟨rfl, rfl, H7.stored 0 rfl S6⟩
  rintro e a3 w2 ⟨ρ, hf3, hq⟩
  have inv : ∀ (w' : World), (invoke (.fn (.func 93) #[.pointer (some ⟨b1, 0, none⟩)]) (#[] ++ #[])).run Try.prog w' = .ok (.enter 93 #[.pointer (some ⟨b1, 0, none⟩)]) w' := fun w' => by
    simp only [invoke]
    have := run_callFunc (P := Try.prog) (f := 93) (by kernel_rfl) (#[] ++ #[] ++ #[.pointer (some ⟨b1, 0, none⟩)]) (w := w')
    exact this
  have fin_ : ∀ {ρ' : Env} {w' : World} {A' : Option Addr} {c' m : Nat}, Tb.look ρ' 6 = some (.pointer (some ⟨b1, 0, none⟩)) → FitsD 13 [{ target := .fn (.func 93) #[.pointer (some ⟨b1, 0, none⟩)], args := #[] ++ #[] }] ρ' a3 → Blk w' b1 30 [.slice A' m c'] →
      (results Try.f71 a3.tmps).run Try.prog w' = .ok (.slice A' m c') w' := fun {ρ'} {w'} {A'} {c'} {m} h6 hf B =>
    ResOK.cell1 (n := 13) ⟨_, h6, run_loadVar_cell Tk30' (B.cells 0 _ rfl)⟩ Try.f71 { a3 with defers := [] } rfl hf.fits
  cases e with
  | normal => exact hq.elim
  | outgrown => exact hq.elim
  | exit id => exact hq.elim
  | goto l => exact hq.elim
  | ret =>
    obtain ⟨h6, rfl, H8⟩ := hq
    show Leaves _ _ _ _ a3.defers _ _
    rw [hf3.defers]
    refine leaves_cons (by simp) (inv w2) ?_
    refine (catch_idle w2).mono ?_
    rintro e u' w'' ⟨rfl, rfl, rfl⟩
    refine ⟨_, fin_ h6 hf3 (H8.blk 0 rfl), none, 0, rfl, by simp, ?_⟩
    exact (Hp.of_ext H8.ext).nilOwn 3 1
  | panic ch =>
    obtain ⟨h6, A', c', hx, rfl, H8⟩ := hq
    show Leaves _ _ _ _ a3.defers _ _
    rw [hf3.defers]
    refine leaves_cons (by simp) (inv w2) ?_
    refine (catch_ok (R := []) (wb := w) H8).mono ?_
    rintro e u' w'' ⟨rfl, rfl, H9⟩
    refine ⟨_, fin_ h6 hf3 (H9.blk 0 rfl), A', c', rfl, ?_, H9.pick (L' := [.own A' c' 3 1 (res.map encN)]) [1] (by decide) rfl⟩
    have := (H9.own 1 rfl).ne (by simpa using hx)
    exact ⟨fun h => absurd h this, fun h => absurd h hx⟩
end Go.D2

set_option linter.unusedVariables false
namespace Go.D2
open Go.Tb
structure Net where
  nodes : Int
  from_ : Int
  to_ : Int
  drains : List Drain
def encDrain (x : Drain) : List Value := [.int .i64 x.from_, .int .i64 x.to_, .int .i64 x.width]
def law02_Long (a0 : Net) : Option Bool :=
  some (decide ((100 : Int) < ((a0.drains.length : Int))))
def drain_from (a0 : Int) (a1 : Int) (a2 : Int) : Option Bool :=
  if a1 ≤ a0 then
    some (decide (a0 ≤ a2))
  else
    some false
def drain_isNode (a0 : Net) (a1 : Int) : Option Bool :=
  gd (InR (a0.nodes - 1)) <|
  bnd (drain_from a1 ((0 : Int)) (a0.nodes - 1)) fun r1 =>
  some r1
def drain_Validate_k1 : Option Int :=
  some ((0 : Int))
def drain_Validate_k2 (t37_1 : Int) (rec1 : Int → Option Int) (t65_1 : Bool) : Option Int :=
  if t65_1 = true then
    some ((1 : Int))
  else
    gd (InR (t37_1 + 1)) <|
    rec1 ((t37_1 + 1))
def drain_Validate_B1 (a0 : Net) (rec1 : Int → Option Int) (t37_1 : Int) : Option Int :=
  if t37_1 < ((a0.drains.length : Int)) then
    ix a0.drains t37_1 fun x1 =>
    bnd (drain_isNode a0 x1.from_) fun r1 =>
    if r1 = true then
      bnd (drain_isNode a0 x1.to_) fun r2 =>
      if r2 = true then
        if x1.from_ = x1.to_ then
          drain_Validate_k2 t37_1 rec1 true
        else
          bnd (drain_from x1.width ((0 : Int)) ((20 : Int))) fun r3 =>
          drain_Validate_k2 t37_1 rec1 ((!r3))
      else
        drain_Validate_k2 t37_1 rec1 true
    else
      drain_Validate_k2 t37_1 rec1 true
  else
    drain_Validate_k1
def drain_Validate_L1 (a0 : Net) : Nat → Int → Option Int
  | 0, _ => none
  | n_ + 1, t37_1 => drain_Validate_B1 a0 (drain_Validate_L1 a0 n_) t37_1
theorem drain_Validate_L1_s {a0 : Net} {m_ : Nat} {t37_1 : Int} {res : Int} (h : drain_Validate_L1 a0 m_ t37_1 = some res) : ∃ k, m_ = k + 1 ∧ drain_Validate_B1 a0 (drain_Validate_L1 a0 k) t37_1 = some res := by
  cases m_ with
  | zero => cases h
  | succ k => exact ⟨k, rfl, h⟩
def drain_Validate_k3 (a0 : Net) (t29_1 : Bool) : Option Int :=
  if t29_1 = true then
    some ((1 : Int))
  else
    if (16 : Int) < ((a0.drains.length : Int)) then
      some ((3 : Int))
    else
      drain_Validate_L1 a0 FU (((0 : Int)))
def drain_Validate (a0 : Net) : Option Int :=
  bnd (drain_from a0.nodes ((2 : Int)) ((8 : Int))) fun r4 =>
  if r4 = true then
    bnd (drain_isNode a0 a0.from_) fun r5 =>
    if r5 = true then
      bnd (drain_isNode a0 a0.to_) fun r6 =>
      if r6 = true then
        drain_Validate_k3 a0 ((decide (a0.from_ = a0.to_)))
      else
        drain_Validate_k3 a0 true
    else
      drain_Validate_k3 a0 true
  else
    drain_Validate_k3 a0 true
def drain_run_k1 (t70_1 : Int) (rec1 : Int → Int → (List Left) → Option ((List Left))) (r1 : Int × Int) (l1 : List Left) : Option ((List Left)) :=
  gd (InR (t70_1 + 1)) <|
  rec1 r1.1 ((t70_1 + 1)) l1
def drain_run_B1 (rec2 : (List Left) → Option ((List Left))) (r2 : List Int) (t8_1 : Int) (rec1 : Int → Int → (List Left) → Option ((List Left))) (t7_1 : Int) (t70_1 : Int) (l2 : List Left) : Option ((List Left)) :=
  if t70_1 < ((r2.length : Int)) then
    ix r2 t70_1 fun x1 =>
    ix l2 x1 fun x2 =>
    bnd (drain_left_room x2 t7_1) fun r1 =>
    ix l2 x1 fun x3 =>
    if x3.drain.from_ = t7_1 then
      ix l2 x1 fun x4 =>
      gd (InR (x4.runs + t8_1)) <|
      ix l2 x1 fun x5 =>
      drain_run_k1 t70_1 rec1 r1 (((l2.set (Int.toNat x1) ((⟨x5.drain, x4.runs + t8_1⟩ : Left)))))
    else
      ix l2 x1 fun x6 =>
      gd (InR (x6.runs - t8_1)) <|
      ix l2 x1 fun x7 =>
      drain_run_k1 t70_1 rec1 r1 (((l2.set (Int.toNat x1) ((⟨x7.drain, x6.runs - t8_1⟩ : Left)))))
  else
    rec2 l2
def drain_run_L1 (rec2 : (List Left) → Option ((List Left))) (r2 : List Int) (t8_1 : Int) : Nat → Int → Int → (List Left) → Option ((List Left))
  | 0, _, _, _ => none
  | n_ + 1, t7_1, t70_1, l2 => drain_run_B1 rec2 r2 t8_1 (drain_run_L1 rec2 r2 t8_1 n_) t7_1 t70_1 l2
theorem drain_run_L1_s {rec2 : (List Left) → Option ((List Left))} {r2 : List Int} {t8_1 : Int} {m_ : Nat} {t7_1 : Int} {t70_1 : Int} {l2 : List Left} {res : (List Left)} (h : drain_run_L1 rec2 r2 t8_1 m_ t7_1 t70_1 l2 = some res) : ∃ k, m_ = k + 1 ∧ drain_run_B1 rec2 r2 t8_1 (drain_run_L1 rec2 r2 t8_1 k) t7_1 t70_1 l2 = some res := by
  cases m_ with
  | zero => cases h
  | succ k => exact ⟨k, rfl, h⟩
def drain_run_k2 (a0 : Net) (l3 : List Left) (rec2 : (List Left) → Option ((List Left))) (r2 : List Int) (t8_1 : Int) : Option ((List Left)) :=
  drain_run_L1 rec2 r2 t8_1 FU a0.from_ (((0 : Int))) l3
def drain_run_k3 (t43_1 : Int) (rec3 : Int → Int → Int → Option ((List Left))) (r3 : Int × Int) (t8_2 : Int) : Option ((List Left)) :=
  gd (InR (t43_1 + 1)) <|
  rec3 r3.1 t8_2 ((t43_1 + 1))
def drain_run_k4 (t8_3 : Int) (t43_1 : Int) (rec3 : Int → Int → Int → Option ((List Left))) (r3 : Int × Int) (t62_1 : Bool) : Option ((List Left)) :=
  if t62_1 = true then
    drain_run_k3 t43_1 rec3 r3 r3.2
  else
    drain_run_k3 t43_1 rec3 r3 t8_3
def drain_run_B2 (a0 : Net) (l3 : List Left) (rec2 : (List Left) → Option ((List Left))) (r2 : List Int) (rec3 : Int → Int → Int → Option ((List Left))) (t7_2 : Int) (t8_3 : Int) (t43_1 : Int) : Option ((List Left)) :=
  if t43_1 < ((r2.length : Int)) then
    ix r2 t43_1 fun x8 =>
    ix l3 x8 fun x9 =>
    bnd (drain_left_room x9 t7_2) fun r3 =>
    if t8_3 < 0 then
      drain_run_k4 t8_3 t43_1 rec3 r3 true
    else
      drain_run_k4 t8_3 t43_1 rec3 r3 ((decide (r3.2 < t8_3)))
  else
    drain_run_k2 a0 l3 rec2 r2 t8_3
def drain_run_L2 (a0 : Net) (l3 : List Left) (rec2 : (List Left) → Option ((List Left))) (r2 : List Int) : Nat → Int → Int → Int → Option ((List Left))
  | 0, _, _, _ => none
  | n_ + 1, t7_2, t8_3, t43_1 => drain_run_B2 a0 l3 rec2 r2 (drain_run_L2 a0 l3 rec2 r2 n_) t7_2 t8_3 t43_1
theorem drain_run_L2_s {a0 : Net} {l3 : List Left} {rec2 : (List Left) → Option ((List Left))} {r2 : List Int} {m_ : Nat} {t7_2 : Int} {t8_3 : Int} {t43_1 : Int} {res : (List Left)} (h : drain_run_L2 a0 l3 rec2 r2 m_ t7_2 t8_3 t43_1 = some res) : ∃ k, m_ = k + 1 ∧ drain_run_B2 a0 l3 rec2 r2 (drain_run_L2 a0 l3 rec2 r2 k) t7_2 t8_3 t43_1 = some res := by
  cases m_ with
  | zero => cases h
  | succ k => exact ⟨k, rfl, h⟩
def drain_run_B3 (a0 : Net) (rec2 : (List Left) → Option ((List Left))) (l3 : List Left) : Option ((List Left)) :=
  bnd (drain_search l3 a0.from_ a0.to_) fun r2 =>
  if r2 = [] then
    some l3
  else
    drain_run_L2 a0 l3 rec2 r2 FU a0.from_ (((-1 : Int))) (((0 : Int)))
def drain_run_L3 (a0 : Net) : Nat → (List Left) → Option ((List Left))
  | 0, _ => none
  | n_ + 1, l3 => drain_run_B3 a0 (drain_run_L3 a0 n_) l3
theorem drain_run_L3_s {a0 : Net} {m_ : Nat} {l3 : List Left} {res : (List Left)} (h : drain_run_L3 a0 m_ l3 = some res) : ∃ k, m_ = k + 1 ∧ drain_run_B3 a0 (drain_run_L3 a0 k) l3 = some res := by
  cases m_ with
  | zero => cases h
  | succ k => exact ⟨k, rfl, h⟩
def drain_run_k5 (a0 : Net) (l4 : List Left) : Option ((List Left)) :=
  drain_run_L3 a0 FU l4
def drain_run_B4 (a0 : Net) (rec4 : Int → (List Left) → Option ((List Left))) (t20_1 : Int) (l5 : List Left) : Option ((List Left)) :=
  if t20_1 < ((a0.drains.length : Int)) then
    ix a0.drains t20_1 fun x10 =>
    gd (l5.length + (([(⟨x10, 0⟩ : Left)] : List Left)).length ≤ 1000000) <|
    gd (InR (t20_1 + 1)) <|
    rec4 ((t20_1 + 1)) (((l5 ++ ([(⟨x10, 0⟩ : Left)] : List Left))))
  else
    drain_run_k5 a0 l5
def drain_run_L4 (a0 : Net) : Nat → Int → (List Left) → Option ((List Left))
  | 0, _, _ => none
  | n_ + 1, t20_1, l5 => drain_run_B4 a0 (drain_run_L4 a0 n_) t20_1 l5
theorem drain_run_L4_s {a0 : Net} {m_ : Nat} {t20_1 : Int} {l5 : List Left} {res : (List Left)} (h : drain_run_L4 a0 m_ t20_1 l5 = some res) : ∃ k, m_ = k + 1 ∧ drain_run_B4 a0 (drain_run_L4 a0 k) t20_1 l5 = some res := by
  cases m_ with
  | zero => cases h
  | succ k => exact ⟨k, rfl, h⟩
def drain_run (a0 : Net) : Option ((List Left)) :=
  drain_run_L4 a0 FU (((0 : Int))) ((([] : List Left)))
end Go.D2

namespace Go.Open2
open Go.Tb Go.Proofs Go.ChangeShapes Go.WideShapes Go.ChangeAt Go.RowKit Go.Joins Go.D2
theorem own_ : ownKnob Try.prog.godebug = none := by kernel_rfl
theorem laidOut_ : laidOutB Try.prog = true := by kernel_rfl
theorem cells24_ : Try.prog.cellsOf 24 = 4 := by kernel_rfl
theorem cells52_ : Try.prog.cellsOf 52 = 3 := by kernel_rfl
section
variable {H : Type} {enc : TypeId × Value → H} {W : World} {sp : Nat → Bool} {held : Bool} {r : Reach} {b0 base : Nat} {v : Value} {d : DataW H} {p : List MemPlace}
theorem trod_lt_ {t : TypeId} (h : DataW.Trod enc Try.prog W base sp held t v d p) : ∀ x ∈ p, x.block < W.heap.size := by obtain ⟨m, hm⟩ := h; exact DataW.trod_lt m _ _ _ hm
theorem open_drains {fuel : Nat} {c1 : Value} {y : DataW H × List MemPlace} (h : DataW.trod enc Try.prog W base sp held fuel 22 [c1] = some y) : ∃ (l : List Drain) (A : Option Addr) (c : Nat), c1 = .slice A l.length c ∧ Sl W A c 3 (l.map encDrain) := by
  rcases open_rows Try.underlying22 Try.underlying52 (by kernel_rfl) cells52_ h with hcs | ⟨a, len, cap, hcs, hl, hm, hi⟩
  · simp at hcs; subst hcs
    exact ⟨[], none, 0, rfl, Sl.nil (by omega)⟩
  · simp at hcs; subst hcs
    obtain ⟨l, hlen, hl2⟩ := ex_list (Q := fun i (x : Drain) => ∀ (j : Nat) (u : Value), (encDrain x)[j]? = some u → W.cell? (a.add (i * 3 + j)) = some u) len (fun i hilt => by
      obtain ⟨v0, y0, n0, h0, t0⟩ := hi i hilt 0 _ rfl
      obtain ⟨v1, y1, n1, h1, t1⟩ := hi i hilt 1 _ rfl
      obtain ⟨v2, y2, n2, h2, t2⟩ := hi i hilt 2 _ rfl
      obtain ⟨z0, e0, _, _⟩ := DataW.trod_int Try.underlying3 t0
      obtain ⟨z1, e1, _, _⟩ := DataW.trod_int Try.underlying3 t1
      obtain ⟨z2, e2, _, _⟩ := DataW.trod_int Try.underlying3 t2
      simp at e0 e1 e2
      subst e0 e1 e2
      refine ⟨⟨z0, z1, z2⟩, fun j u hu => ?_⟩
      match j, hu with
      | 0, hu => cases hu; exact h0
      | 1, hu => cases hu; exact h1
      | 2, hu => cases hu; exact h2)
    subst hlen
    exact ⟨l, some a, cap, rfl, Sl.mk_ hl hm (fun _ => rfl) rfl hl2⟩
set_option maxRecDepth 100000 in
theorem open_net (hv : Value.okWide Try.prog W r b0 24 v) (h : DataW.Trod enc Try.prog W base sp held 24 v d p) : ∃ (n : Net) (A : Option Addr) (cc : Nat), v = .agg #[.int .i64 n.nodes, .int .i64 n.from_, .int .i64 n.to_, .slice A n.drains.length cc] ∧ Sl W A cc 3 (n.drains.map encDrain) := by
  obtain ⟨c0, c1, c2, c3, y0, y1, y2, y3, m, rfl, _, _, hy0, hy1, hy2, hy3⟩ := open_agg4 Try.underlying24 (by kernel_rfl) cells24_ hv h
  obtain ⟨a, e0, _, _⟩ := DataW.trod_int Try.underlying3 hy0
  obtain ⟨b, e1, _, _⟩ := DataW.trod_int Try.underlying3 hy1
  obtain ⟨c, e2, _, _⟩ := DataW.trod_int Try.underlying3 hy2
  simp at e0 e1 e2; subst e0 e1 e2
  obtain ⟨l, A, c', rfl, hs⟩ := open_drains hy3
  exact ⟨⟨a, b, c, l⟩, A, c', rfl, hs⟩
end
end Go.Open2

set_option linter.unusedVariables false
namespace Go.D2
open Go.Tb
def drain_flowOf_k1 (l1 : List Int) : Option ((List Int)) :=
  some l1
def drain_flowOf_B1 (a0 : List Left) (rec1 : Int → (List Int) → Option ((List Int))) (t8_1 : Int) (l2 : List Int) : Option ((List Int)) :=
  if t8_1 < ((a0.length : Int)) then
    ix a0 t8_1 fun x1 =>
    gd (l2.length + (([x1.runs] : List Int)).length ≤ 1000000) <|
    gd (InR (t8_1 + 1)) <|
    rec1 ((t8_1 + 1)) (((l2 ++ ([x1.runs] : List Int))))
  else
    drain_flowOf_k1 l2
def drain_flowOf_L1 (a0 : List Left) : Nat → Int → (List Int) → Option ((List Int))
  | 0, _, _ => none
  | n_ + 1, t8_1, l2 => drain_flowOf_B1 a0 (drain_flowOf_L1 a0 n_) t8_1 l2
theorem drain_flowOf_L1_s {a0 : List Left} {m_ : Nat} {t8_1 : Int} {l2 : List Int} {res : (List Int)} (h : drain_flowOf_L1 a0 m_ t8_1 l2 = some res) : ∃ k, m_ = k + 1 ∧ drain_flowOf_B1 a0 (drain_flowOf_L1 a0 k) t8_1 l2 = some res := by
  cases m_ with
  | zero => cases h
  | succ k => exact ⟨k, rfl, h⟩
def drain_flowOf (a0 : List Left) : Option ((List Int)) :=
  drain_flowOf_L1 a0 FU (((0 : Int))) ((([] : List Int)))
def drain_value_k1 (t7_1 : Int) : Option Int :=
  some t7_1
def drain_value_k2 (t13_1 : Int) (rec1 : Int → Int → Option Int) (t7_2 : Int) : Option Int :=
  gd (InR (t13_1 + 1)) <|
  rec1 t7_2 ((t13_1 + 1))
def drain_value_k3 (a1 : List Int) (a2 : Int) (t13_1 : Int) (rec1 : Int → Int → Option Int) (x1 : Drain) (t7_3 : Int) : Option Int :=
  if x1.to_ = a2 then
    ix a1 t13_1 fun x2 =>
    gd (InR (t7_3 - x2)) <|
    drain_value_k2 t13_1 rec1 ((t7_3 - x2))
  else
    drain_value_k2 t13_1 rec1 t7_3
def drain_value_B1 (a0 : Net) (a1 : List Int) (a2 : Int) (rec1 : Int → Int → Option Int) (t7_4 : Int) (t13_1 : Int) : Option Int :=
  if t13_1 < ((a0.drains.length : Int)) then
    ix a0.drains t13_1 fun x1 =>
    if x1.from_ = a2 then
      ix a1 t13_1 fun x3 =>
      gd (InR (t7_4 + x3)) <|
      drain_value_k3 a1 a2 t13_1 rec1 x1 ((t7_4 + x3))
    else
      drain_value_k3 a1 a2 t13_1 rec1 x1 t7_4
  else
    drain_value_k1 t7_4
def drain_value_L1 (a0 : Net) (a1 : List Int) (a2 : Int) : Nat → Int → Int → Option Int
  | 0, _, _ => none
  | n_ + 1, t7_4, t13_1 => drain_value_B1 a0 a1 a2 (drain_value_L1 a0 a1 a2 n_) t7_4 t13_1
theorem drain_value_L1_s {a0 : Net} {a1 : List Int} {a2 : Int} {m_ : Nat} {t7_4 : Int} {t13_1 : Int} {res : Int} (h : drain_value_L1 a0 a1 a2 m_ t7_4 t13_1 = some res) : ∃ k, m_ = k + 1 ∧ drain_value_B1 a0 a1 a2 (drain_value_L1 a0 a1 a2 k) t7_4 t13_1 = some res := by
  cases m_ with
  | zero => cases h
  | succ k => exact ⟨k, rfl, h⟩
def drain_value (a0 : Net) (a1 : List Int) (a2 : Int) : Option Int :=
  drain_value_L1 a0 a1 a2 FU (((0 : Int))) (((0 : Int)))
def drain_most (a0 : Net) : Option Int :=
  bnd (drain_run a0) fun r1 =>
  bnd (drain_flowOf r1) fun r2 =>
  bnd (drain_value a0 r2 a0.from_) fun r3 =>
  some r3
def drain_Most (a0 : Net) : Option (Int × Int) :=
  bnd (drain_Validate a0) fun r1 =>
  if r1 = 0 then
    bnd (drain_most a0) fun r2 =>
    some (r2, (0 : Int))
  else
    some ((0 : Int), r1)
def slices_Index_int_k1 : Option Int :=
  some ((-1 : Int))
def slices_Index_int_B1 (a0 : List Int) (a1 : Int) (rec1 : Int → Option Int) (t8_1 : Int) : Option Int :=
  if t8_1 < ((a0.length : Int)) then
    ix a0 t8_1 fun x1 =>
    if a1 = x1 then
      some t8_1
    else
      gd (InR (t8_1 + 1)) <|
      rec1 ((t8_1 + 1))
  else
    slices_Index_int_k1
def slices_Index_int_L1 (a0 : List Int) (a1 : Int) : Nat → Int → Option Int
  | 0, _ => none
  | n_ + 1, t8_1 => slices_Index_int_B1 a0 a1 (slices_Index_int_L1 a0 a1 n_) t8_1
theorem slices_Index_int_L1_s {a0 : List Int} {a1 : Int} {m_ : Nat} {t8_1 : Int} {res : Int} (h : slices_Index_int_L1 a0 a1 m_ t8_1 = some res) : ∃ k, m_ = k + 1 ∧ slices_Index_int_B1 a0 a1 (slices_Index_int_L1 a0 a1 k) t8_1 = some res := by
  cases m_ with
  | zero => cases h
  | succ k => exact ⟨k, rfl, h⟩
def slices_Index_int (a0 : List Int) (a1 : Int) : Option Int :=
  slices_Index_int_L1 a0 a1 FU (((0 : Int)))
def slices_Contains_int (a0 : List Int) (a1 : Int) : Option Bool :=
  bnd (slices_Index_int a0 a1) fun r1 =>
  some (decide ((0 : Int) ≤ r1))
def drain_across_k1 (t5_1 : Int) : Option Int :=
  some t5_1
def drain_across_k2 (t11_1 : Int) (rec1 : Int → Int → Option Int) (t5_2 : Int) : Option Int :=
  gd (InR (t11_1 + 1)) <|
  rec1 t5_2 ((t11_1 + 1))
def drain_across_k3 (t5_3 : Int) (t11_1 : Int) (rec1 : Int → Int → Option Int) (x1 : Drain) (t25_1 : Bool) : Option Int :=
  if t25_1 = true then
    gd (InR (t5_3 + x1.width)) <|
    drain_across_k2 t11_1 rec1 ((t5_3 + x1.width))
  else
    drain_across_k2 t11_1 rec1 t5_3
def drain_across_B1 (a0 : Net) (a1 : List Int) (rec1 : Int → Int → Option Int) (t5_3 : Int) (t11_1 : Int) : Option Int :=
  if t11_1 < ((a0.drains.length : Int)) then
    ix a0.drains t11_1 fun x1 =>
    bnd (slices_Contains_int a1 x1.from_) fun r1 =>
    if r1 = true then
      bnd (slices_Contains_int a1 x1.to_) fun r2 =>
      drain_across_k3 t5_3 t11_1 rec1 x1 ((!r2))
    else
      drain_across_k3 t5_3 t11_1 rec1 x1 false
  else
    drain_across_k1 t5_3
def drain_across_L1 (a0 : Net) (a1 : List Int) : Nat → Int → Int → Option Int
  | 0, _, _ => none
  | n_ + 1, t5_3, t11_1 => drain_across_B1 a0 a1 (drain_across_L1 a0 a1 n_) t5_3 t11_1
theorem drain_across_L1_s {a0 : Net} {a1 : List Int} {m_ : Nat} {t5_3 : Int} {t11_1 : Int} {res : Int} (h : drain_across_L1 a0 a1 m_ t5_3 t11_1 = some res) : ∃ k, m_ = k + 1 ∧ drain_across_B1 a0 a1 (drain_across_L1 a0 a1 k) t5_3 t11_1 = some res := by
  cases m_ with
  | zero => cases h
  | succ k => exact ⟨k, rfl, h⟩
def drain_across (a0 : Net) (a1 : List Int) : Option Int :=
  drain_across_L1 a0 a1 FU (((0 : Int))) (((0 : Int)))
def drain_Across_k1 (a0 : Net) (a1 : List Int) (t49_1 : Bool) : Option (Int × Int) :=
  if t49_1 = true then
    some ((0 : Int), (1 : Int))
  else
    bnd (drain_across a0 a1) fun r1 =>
    some (r1, (0 : Int))
def drain_Across_k2 (a0 : Net) (a1 : List Int) : Option (Int × Int) :=
  bnd (slices_Contains_int a1 a0.from_) fun r2 =>
  if r2 = true then
    bnd (slices_Contains_int a1 a0.to_) fun r3 =>
    drain_Across_k1 a0 a1 r3
  else
    drain_Across_k1 a0 a1 true
def drain_Across_k3 (t16_1 : Int) (rec1 : Int → Option (Int × Int)) (t37_1 : Bool) : Option (Int × Int) :=
  if t37_1 = true then
    some ((0 : Int), (1 : Int))
  else
    gd (InR (t16_1 + 1)) <|
    rec1 ((t16_1 + 1))
def drain_Across_B1 (a0 : Net) (a1 : List Int) (rec1 : Int → Option (Int × Int)) (t16_1 : Int) : Option (Int × Int) :=
  if t16_1 < ((a1.length : Int)) then
    ix a1 t16_1 fun x1 =>
    bnd (drain_isNode a0 x1) fun r4 =>
    if r4 = true then
      if (0 : Int) < t16_1 then
        gd (InR (t16_1 - 1)) <|
        ix a1 (t16_1 - 1) fun x2 =>
        drain_Across_k3 t16_1 rec1 ((decide (x1 ≤ x2)))
      else
        drain_Across_k3 t16_1 rec1 false
    else
      drain_Across_k3 t16_1 rec1 true
  else
    drain_Across_k2 a0 a1
def drain_Across_L1 (a0 : Net) (a1 : List Int) : Nat → Int → Option (Int × Int)
  | 0, _ => none
  | n_ + 1, t16_1 => drain_Across_B1 a0 a1 (drain_Across_L1 a0 a1 n_) t16_1
theorem drain_Across_L1_s {a0 : Net} {a1 : List Int} {m_ : Nat} {t16_1 : Int} {res : Int × Int} (h : drain_Across_L1 a0 a1 m_ t16_1 = some res) : ∃ k, m_ = k + 1 ∧ drain_Across_B1 a0 a1 (drain_Across_L1 a0 a1 k) t16_1 = some res := by
  cases m_ with
  | zero => cases h
  | succ k => exact ⟨k, rfl, h⟩
def drain_Across (a0 : Net) (a1 : List Int) : Option (Int × Int) :=
  bnd (drain_Validate a0) fun r5 =>
  if r5 = 0 then
    drain_Across_L1 a0 a1 FU (((0 : Int)))
  else
    some ((0 : Int), r5)
end Go.D2

set_option linter.unusedVariables false
namespace Go.D2
open Go.Tb
def drain_Flow (a0 : Net) : Option ((List Int) × Int) :=
  bnd (drain_Validate a0) fun r1 =>
  if r1 = 0 then
    bnd (drain_run a0) fun r2 =>
    bnd (drain_flowOf r2) fun r3 =>
    some (r3, (0 : Int))
  else
    some (([] : List Int), r1)
end Go.D2

set_option linter.unusedVariables false
namespace Go.D2
open Go.Tb
def drain_Reverse_k1 (a0 : Net) (l1 : List Drain) : Option (Net × Int) :=
  some ((⟨a0.nodes, a0.to_, a0.from_, l1⟩ : Net), (0 : Int))
def drain_Reverse_B1 (a0 : Net) (rec1 : Int → (List Drain) → Option (Net × Int)) (t24_1 : Int) (l2 : List Drain) : Option (Net × Int) :=
  if t24_1 < ((a0.drains.length : Int)) then
    ix a0.drains t24_1 fun x1 =>
    gd (l2.length + (([(⟨x1.to_, x1.from_, x1.width⟩ : Drain)] : List Drain)).length ≤ 1000000) <|
    gd (InR (t24_1 + 1)) <|
    rec1 ((t24_1 + 1)) (((l2 ++ ([(⟨x1.to_, x1.from_, x1.width⟩ : Drain)] : List Drain))))
  else
    drain_Reverse_k1 a0 l2
def drain_Reverse_L1 (a0 : Net) : Nat → Int → (List Drain) → Option (Net × Int)
  | 0, _, _ => none
  | n_ + 1, t24_1, l2 => drain_Reverse_B1 a0 (drain_Reverse_L1 a0 n_) t24_1 l2
theorem drain_Reverse_L1_s {a0 : Net} {m_ : Nat} {t24_1 : Int} {l2 : List Drain} {res : Net × Int} (h : drain_Reverse_L1 a0 m_ t24_1 l2 = some res) : ∃ k, m_ = k + 1 ∧ drain_Reverse_B1 a0 (drain_Reverse_L1 a0 k) t24_1 l2 = some res := by
  cases m_ with
  | zero => cases h
  | succ k => exact ⟨k, rfl, h⟩
def drain_Reverse (a0 : Net) : Option (Net × Int) :=
  bnd (drain_Validate a0) fun r1 =>
  if r1 = 0 then
    drain_Reverse_L1 a0 FU (((0 : Int))) ((([] : List Drain)))
  else
    some ((⟨0, 0, 0, []⟩ : Net), r1)
end Go.D2

set_option linter.unusedVariables false
namespace Go.D2
open Go.Tb
def drain_CheckFlow_k1 (a0 : Net) (a1 : List Int) : Option (Int × Int) :=
  bnd (drain_value a0 a1 a0.from_) fun r1 =>
  some (r1, (0 : Int))
def drain_CheckFlow_k2 (t40_1 : Int) (rec1 : Int → Option (Int × Int)) (t59_1 : Bool) : Option (Int × Int) :=
  if t59_1 = true then
    some ((0 : Int), (7 : Int))
  else
    gd (InR (t40_1 + 1)) <|
    rec1 ((t40_1 + 1))
def drain_CheckFlow_B1 (a0 : Net) (a1 : List Int) (rec1 : Int → Option (Int × Int)) (t40_1 : Int) : Option (Int × Int) :=
  if t40_1 < a0.nodes then
    if t40_1 = a0.from_ then
      drain_CheckFlow_k2 t40_1 rec1 false
    else
      if t40_1 = a0.to_ then
        drain_CheckFlow_k2 t40_1 rec1 false
      else
        bnd (drain_value a0 a1 t40_1) fun r2 =>
        drain_CheckFlow_k2 t40_1 rec1 ((!(decide (r2 = 0))))
  else
    drain_CheckFlow_k1 a0 a1
def drain_CheckFlow_L1 (a0 : Net) (a1 : List Int) : Nat → Int → Option (Int × Int)
  | 0, _ => none
  | n_ + 1, t40_1 => drain_CheckFlow_B1 a0 a1 (drain_CheckFlow_L1 a0 a1 n_) t40_1
theorem drain_CheckFlow_L1_s {a0 : Net} {a1 : List Int} {m_ : Nat} {t40_1 : Int} {res : Int × Int} (h : drain_CheckFlow_L1 a0 a1 m_ t40_1 = some res) : ∃ k, m_ = k + 1 ∧ drain_CheckFlow_B1 a0 a1 (drain_CheckFlow_L1 a0 a1 k) t40_1 = some res := by
  cases m_ with
  | zero => cases h
  | succ k => exact ⟨k, rfl, h⟩
def drain_CheckFlow_k3 (a0 : Net) (a1 : List Int) : Option (Int × Int) :=
  drain_CheckFlow_L1 a0 a1 FU (((0 : Int)))
def drain_CheckFlow_B2 (a0 : Net) (a1 : List Int) (rec2 : Int → Option (Int × Int)) (t23_1 : Int) : Option (Int × Int) :=
  if t23_1 < ((a1.length : Int)) then
    ix a1 t23_1 fun x1 =>
    ix a0.drains t23_1 fun x2 =>
    bnd (drain_from x1 ((0 : Int)) x2.width) fun r3 =>
    if r3 = true then
      gd (InR (t23_1 + 1)) <|
      rec2 ((t23_1 + 1))
    else
      some ((0 : Int), (6 : Int))
  else
    drain_CheckFlow_k3 a0 a1
def drain_CheckFlow_L2 (a0 : Net) (a1 : List Int) : Nat → Int → Option (Int × Int)
  | 0, _ => none
  | n_ + 1, t23_1 => drain_CheckFlow_B2 a0 a1 (drain_CheckFlow_L2 a0 a1 n_) t23_1
theorem drain_CheckFlow_L2_s {a0 : Net} {a1 : List Int} {m_ : Nat} {t23_1 : Int} {res : Int × Int} (h : drain_CheckFlow_L2 a0 a1 m_ t23_1 = some res) : ∃ k, m_ = k + 1 ∧ drain_CheckFlow_B2 a0 a1 (drain_CheckFlow_L2 a0 a1 k) t23_1 = some res := by
  cases m_ with
  | zero => cases h
  | succ k => exact ⟨k, rfl, h⟩
def drain_CheckFlow (a0 : Net) (a1 : List Int) : Option (Int × Int) :=
  bnd (drain_Validate a0) fun r4 =>
  if r4 = 0 then
    if ((a1.length : Int)) = ((a0.drains.length : Int)) then
      drain_CheckFlow_L2 a0 a1 FU (((0 : Int)))
    else
      some ((0 : Int), (1 : Int))
  else
    some ((0 : Int), r4)
end Go.D2

set_option linter.unusedVariables false
namespace Go.D2
open Go.Tb
def drain_Least_1 (cap0 : Net) (cap1 : List Left) (a0 : Int) : Option Bool :=
  if a0 = cap0.from_ then
    some true
  else
    bnd (drain_search cap1 cap0.from_ a0) fun r1 =>
    some (!(decide (r1 = [])))
def drain_nodes_k1 (l1 : List Int) : Option ((List Int)) :=
  some l1
def drain_nodes_k2 (t9_1 : Int) (rec1 : Int → (List Int) → Option ((List Int))) (l2 : List Int) : Option ((List Int)) :=
  gd (InR (t9_1 + 1)) <|
  rec1 ((t9_1 + 1)) l2
def drain_nodes_B1 (a0 : Net) (a1 : Int → Option Bool) (rec1 : Int → (List Int) → Option ((List Int))) (t9_1 : Int) (l3 : List Int) : Option ((List Int)) :=
  if t9_1 < a0.nodes then
    bnd (a1 t9_1) fun r1 =>
    if r1 = true then
      gd (l3.length + (([t9_1] : List Int)).length ≤ 1000000) <|
      drain_nodes_k2 t9_1 rec1 (((l3 ++ ([t9_1] : List Int))))
    else
      drain_nodes_k2 t9_1 rec1 l3
  else
    drain_nodes_k1 l3
def drain_nodes_L1 (a0 : Net) (a1 : Int → Option Bool) : Nat → Int → (List Int) → Option ((List Int))
  | 0, _, _ => none
  | n_ + 1, t9_1, l3 => drain_nodes_B1 a0 a1 (drain_nodes_L1 a0 a1 n_) t9_1 l3
theorem drain_nodes_L1_s {a0 : Net} {a1 : Int → Option Bool} {m_ : Nat} {t9_1 : Int} {l3 : List Int} {res : (List Int)} (h : drain_nodes_L1 a0 a1 m_ t9_1 l3 = some res) : ∃ k, m_ = k + 1 ∧ drain_nodes_B1 a0 a1 (drain_nodes_L1 a0 a1 k) t9_1 l3 = some res := by
  cases m_ with
  | zero => cases h
  | succ k => exact ⟨k, rfl, h⟩
def drain_nodes (a0 : Net) (a1 : Int → Option Bool) : Option ((List Int)) :=
  drain_nodes_L1 a0 a1 FU (((0 : Int))) ((([] : List Int)))
def drain_Least (a0 : Net) : Option ((List Int) × Int) :=
  bnd (drain_Validate a0) fun r1 =>
  if r1 = 0 then
    bnd (drain_run a0) fun r2 =>
    bnd (drain_nodes a0 ((fun x0 => drain_Least_1 a0 r2 x0))) fun r3 =>
    some (r3, (0 : Int))
  else
    some (([] : List Int), r1)
end Go.D2

set_option linter.unusedVariables false
namespace Go.D2
open Go.Tb
def drain_Greatest_1 (cap0 : Net) (cap1 : List Left) (a0 : Int) : Option Bool :=
  if a0 = cap0.to_ then
    some false
  else
    bnd (drain_search cap1 a0 cap0.to_) fun r1 =>
    some (decide (r1 = []))
def drain_Greatest (a0 : Net) : Option ((List Int) × Int) :=
  bnd (drain_Validate a0) fun r1 =>
  if r1 = 0 then
    bnd (drain_run a0) fun r2 =>
    bnd (drain_nodes a0 ((fun x0 => drain_Greatest_1 a0 r2 x0))) fun r3 =>
    some (r3, (0 : Int))
  else
    some (([] : List Int), r1)
def ref01_SameInts_k1 : Option Bool :=
  some true
def ref01_SameInts_B1 (a0 : List Int) (a1 : List Int) (rec1 : Int → Option Bool) (t5_1 : Int) : Option Bool :=
  if t5_1 < ((a0.length : Int)) then
    ix a0 t5_1 fun x1 =>
    ix a1 t5_1 fun x2 =>
    if x1 = x2 then
      gd (InR (t5_1 + 1)) <|
      rec1 ((t5_1 + 1))
    else
      some false
  else
    ref01_SameInts_k1
def ref01_SameInts_L1 (a0 : List Int) (a1 : List Int) : Nat → Int → Option Bool
  | 0, _ => none
  | n_ + 1, t5_1 => ref01_SameInts_B1 a0 a1 (ref01_SameInts_L1 a0 a1 n_) t5_1
theorem ref01_SameInts_L1_s {a0 : List Int} {a1 : List Int} {m_ : Nat} {t5_1 : Int} {res : Bool} (h : ref01_SameInts_L1 a0 a1 m_ t5_1 = some res) : ∃ k, m_ = k + 1 ∧ ref01_SameInts_B1 a0 a1 (ref01_SameInts_L1 a0 a1 k) t5_1 = some res := by
  cases m_ with
  | zero => cases h
  | succ k => exact ⟨k, rfl, h⟩
def ref01_SameInts (a0 : List Int) (a1 : List Int) : Option Bool :=
  if ((a0.length : Int)) = ((a1.length : Int)) then
    ref01_SameInts_L1 a0 a1 FU (((0 : Int)))
  else
    some false
end Go.D2

set_option linter.unusedVariables false
namespace Go.D2
open Go.Tb
structure Two where
  i : Int
  j : Int
def slices_Clone_Drain (a0 : List Drain) : Option (List Drain) :=
  gd ((([] : List Drain)).length + a0.length ≤ 1000000) <|
  some ((([] : List Drain) ++ a0))
def drain_changed (a0 : Net) (a1 : Int) (a2 : Int) : Option Net :=
  bnd (slices_Clone_Drain a0.drains) fun r1 =>
  ix r1 a1 fun x1 =>
  some ((⟨a0.nodes, a0.from_, a0.to_, (r1.set (Int.toNat a1) ((⟨x1.from_, x1.to_, a2⟩ : Drain)))⟩ : Net))
def drain_Widen_k1 (a0 : Net) (a1 : Int) (a2 : Int) (t37_1 : Bool) : Option (Net × Int) :=
  if t37_1 = true then
    some ((⟨0, 0, 0, []⟩ : Net), (1 : Int))
  else
    ix a0.drains a1 fun x1 =>
    gd (InR (x1.width + a2)) <|
    bnd (drain_changed a0 a1 (x1.width + a2)) fun r1 =>
    some (r1, (0 : Int))
def drain_Widen (a0 : Net) (a1 : Int) (a2 : Int) : Option (Net × Int) :=
  bnd (drain_Validate a0) fun r2 =>
  if r2 = 0 then
    gd (InR (((a0.drains.length : Int)) - 1)) <|
    bnd (drain_from a1 ((0 : Int)) (((a0.drains.length : Int)) - 1)) fun r3 =>
    if r3 = true then
      bnd (drain_from a2 ((-20 : Int)) ((20 : Int))) fun r4 =>
      if r4 = true then
        ix a0.drains a1 fun x2 =>
        gd (InR (x2.width + a2)) <|
        bnd (drain_from (x2.width + a2) ((0 : Int)) ((20 : Int))) fun r5 =>
        drain_Widen_k1 a0 a1 a2 ((!r5))
      else
        drain_Widen_k1 a0 a1 a2 true
    else
      some ((⟨0, 0, 0, []⟩ : Net), (4 : Int))
  else
    some ((⟨0, 0, 0, []⟩ : Net), r2)
end Go.D2

set_option linter.unusedVariables false
namespace Go.D2
open Go.Tb
def drain_those_k1 (l1 : List Int) : Option ((List Int)) :=
  some l1
def drain_those_k2 (t10_1 : Int) (rec1 : Int → (List Int) → Option ((List Int))) (l2 : List Int) : Option ((List Int)) :=
  gd (InR (t10_1 + 1)) <|
  rec1 ((t10_1 + 1)) l2
def drain_those_B1 (a0 : Net) (a1 : Int → Option Bool) (rec1 : Int → (List Int) → Option ((List Int))) (t10_1 : Int) (l3 : List Int) : Option ((List Int)) :=
  if t10_1 < ((a0.drains.length : Int)) then
    bnd (a1 t10_1) fun r1 =>
    if r1 = true then
      gd (l3.length + (([t10_1] : List Int)).length ≤ 1000000) <|
      drain_those_k2 t10_1 rec1 (((l3 ++ ([t10_1] : List Int))))
    else
      drain_those_k2 t10_1 rec1 l3
  else
    drain_those_k1 l3
def drain_those_L1 (a0 : Net) (a1 : Int → Option Bool) : Nat → Int → (List Int) → Option ((List Int))
  | 0, _, _ => none
  | n_ + 1, t10_1, l3 => drain_those_B1 a0 a1 (drain_those_L1 a0 a1 n_) t10_1 l3
theorem drain_those_L1_s {a0 : Net} {a1 : Int → Option Bool} {m_ : Nat} {t10_1 : Int} {l3 : List Int} {res : (List Int)} (h : drain_those_L1 a0 a1 m_ t10_1 l3 = some res) : ∃ k, m_ = k + 1 ∧ drain_those_B1 a0 a1 (drain_those_L1 a0 a1 k) t10_1 l3 = some res := by
  cases m_ with
  | zero => cases h
  | succ k => exact ⟨k, rfl, h⟩
def drain_those (a0 : Net) (a1 : Int → Option Bool) : Option ((List Int)) :=
  drain_those_L1 a0 a1 FU (((0 : Int))) ((([] : List Int)))
end Go.D2

set_option linter.unusedVariables false
namespace Go.D2
open Go.Tb
def drain_Critical_1 (cap0 : Net) (cap1 : Int) (a0 : Int) : Option Bool :=
  ix cap0.drains a0 fun x1 =>
  if (0 : Int) < x1.width then
    gd (InR (x1.width - 1)) <|
    bnd (drain_changed cap0 a0 (x1.width - 1)) fun r1 =>
    bnd (drain_most r1) fun r2 =>
    some (decide (r2 < cap1))
  else
    some false
def drain_Critical (a0 : Net) : Option ((List Int) × Int) :=
  bnd (drain_Validate a0) fun r1 =>
  if r1 = 0 then
    bnd (drain_most a0) fun r2 =>
    bnd (drain_those a0 ((fun x0 => drain_Critical_1 a0 r2 x0))) fun r3 =>
    some (r3, (0 : Int))
  else
    some (([] : List Int), r1)
def drain_Needless_1 (cap0 : Net) (cap1 : Int) (a0 : Int) : Option Bool :=
  bnd (drain_changed cap0 a0 ((0 : Int))) fun r1 =>
  bnd (drain_most r1) fun r2 =>
  some (decide (r2 = cap1))
def drain_Needless (a0 : Net) : Option ((List Int) × Int) :=
  bnd (drain_Validate a0) fun r1 =>
  if r1 = 0 then
    bnd (drain_most a0) fun r2 =>
    bnd (drain_those a0 ((fun x0 => drain_Needless_1 a0 r2 x0))) fun r3 =>
    some (r3, (0 : Int))
  else
    some (([] : List Int), r1)
end Go.D2

set_option linter.unusedVariables false
namespace Go.D2
open Go.Tb
def drain_CheckMost (a0 : Net) (a1 : List Int) (a2 : List Int) : Option Int :=
  bnd (drain_CheckFlow a0 a1) fun r1 =>
  if r1.2 = 0 then
    bnd (drain_Across a0 a2) fun r2 =>
    if r2.2 = 0 then
      if r1.1 = r2.1 then
        some ((0 : Int))
      else
        some ((7 : Int))
    else
      some r2.2
  else
    some r1.2
end Go.D2

set_option linter.unusedVariables false
namespace Go.Tb
structure SlT {α β : Type} (w : World) (A : Option Addr) (c k : Nat) (enc : (Option Addr × Nat) × α → List Value) (f : α → List β) (k2 : Nat) (enc2 : β → List Value) (l : List α) : Prop where
  ex : ∃ hs : List (Option Addr × Nat), hs.length = l.length ∧ Sl w A c k ((hs.zip l).map enc) ∧ ∀ (j : Nat) (h : Option Addr × Nat) (x : α), hs[j]? = some h → l[j]? = some x → Sl w h.1 h.2 k2 ((f x).map enc2)
section
variable {α β : Type} {w w' : World} {A : Option Addr} {c k k2 : Nat} {enc : (Option Addr × Nat) × α → List Value} {f : α → List β} {enc2 : β → List Value} {l : List α}
theorem SlT.ext (h : SlT w A c k enc f k2 enc2 l) (e : Ext w w') : SlT w' A c k enc f k2 enc2 l := by
  obtain ⟨hs, h1, h2, h3⟩ := h.ex
  exact ⟨hs, h1, h2.ext e, fun j h x hj hx => (h3 j h x hj hx).ext e⟩
theorem SlT.at_ (h : SlT w A c k enc f k2 enc2 l) {j : Nat} {x : α} (hx : l[j]? = some x) : ∃ (Aj : Option Addr) (cj : Nat), Cells w (elemPtr A k j) (enc ((Aj, cj), x)) ∧ Sl w Aj cj k2 ((f x).map enc2) := by
  obtain ⟨hs, h1, h2, h3⟩ := h.ex
  have hlt := lt_of_at hx
  have hh : hs[j]? = some hs[j] := by simp [h1, hlt]
  refine ⟨hs[j].1, hs[j].2, ?_, h3 j _ x hh hx⟩
  exact h2.at_ (enc := enc) (x := (hs[j], x)) (by simp [List.getElem?_zip_eq_some, hh, hx])
theorem SlT.addr (h : SlT w A c k enc f k2 enc2 l) {i : Int} (h0 : 0 ≤ i ∧ i < l.length) : ∃ a, A = some a := by
  obtain ⟨hs, h1, h2, _⟩ := h.ex
  exact h2.addr (i := i) (by simp [h1]; omega)
theorem SlT.max (h : SlT w A c k enc f k2 enc2 l) : (l.length : Int) ≤ 9223372036854775807 := by
  obtain ⟨hs, h1, h2, _⟩ := h.ex
  have := h2.max
  simp [h1] at this
  omega
theorem SlT.nil_ : SlT w none 0 k enc f k2 enc2 [] := ⟨⟨[], rfl, Sl.nil (by decide), fun j h l hj => by simp at hj⟩⟩
end
end Go.Tb

set_option linter.unusedVariables false
namespace Go.D2
open Go.Tb
structure Trail where
  drains : List Int
  amount : Int
def encTrail (p : (Option Addr × Nat) × Trail) : List Value := [.slice p.1.1 p.2.drains.length p.1.2, .int .i64 p.2.amount]
def drain_isTrail_k1 (a0 : Net) (a1 : Trail) : Option Bool :=
  ix a1.drains 0 fun x1 =>
  ix a0.drains x1 fun x2 =>
  gd (InR (((a1.drains.length : Int)) - 1)) <|
  ix a1.drains (((a1.drains.length : Int)) - 1) fun x3 =>
  ix a0.drains x3 fun x4 =>
  if x2.from_ = x4.to_ then
    some true
  else
    if x2.from_ = a0.from_ then
      some (decide (x4.to_ = a0.to_))
    else
      some false
def drain_isTrail_k2 (t22_1 : Int) (rec1 : Int → Option Bool) (t65_1 : Bool) : Option Bool :=
  if t65_1 = true then
    some false
  else
    gd (InR (t22_1 + 1)) <|
    rec1 ((t22_1 + 1))
def drain_isTrail_B1 (a0 : Net) (a1 : Trail) (rec1 : Int → Option Bool) (t22_1 : Int) : Option Bool :=
  if t22_1 < ((a1.drains.length : Int)) then
    ix a1.drains t22_1 fun x5 =>
    gd (InR (((a0.drains.length : Int)) - 1)) <|
    bnd (drain_from x5 ((0 : Int)) (((a0.drains.length : Int)) - 1)) fun r1 =>
    if r1 = true then
      gd (0 ≤ t22_1 ∧ t22_1 ≤ (a1.drains.length : Int)) <|
      bnd (slices_Contains_int ((List.take (Int.toNat t22_1) a1.drains)) x5) fun r2 =>
      if r2 = true then
        drain_isTrail_k2 t22_1 rec1 true
      else
        if (0 : Int) < t22_1 then
          gd (InR (t22_1 - 1)) <|
          ix a1.drains (t22_1 - 1) fun x6 =>
          ix a0.drains x6 fun x7 =>
          ix a0.drains x5 fun x8 =>
          drain_isTrail_k2 t22_1 rec1 ((!(decide (x7.to_ = x8.from_))))
        else
          drain_isTrail_k2 t22_1 rec1 false
    else
      drain_isTrail_k2 t22_1 rec1 true
  else
    drain_isTrail_k1 a0 a1
def drain_isTrail_L1 (a0 : Net) (a1 : Trail) : Nat → Int → Option Bool
  | 0, _ => none
  | n_ + 1, t22_1 => drain_isTrail_B1 a0 a1 (drain_isTrail_L1 a0 a1 n_) t22_1
theorem drain_isTrail_L1_s {a0 : Net} {a1 : Trail} {m_ : Nat} {t22_1 : Int} {res : Bool} (h : drain_isTrail_L1 a0 a1 m_ t22_1 = some res) : ∃ k, m_ = k + 1 ∧ drain_isTrail_B1 a0 a1 (drain_isTrail_L1 a0 a1 k) t22_1 = some res := by
  cases m_ with
  | zero => cases h
  | succ k => exact ⟨k, rfl, h⟩
def drain_isTrail_k3 (a0 : Net) (a1 : Trail) (t18_1 : Bool) : Option Bool :=
  if t18_1 = true then
    some false
  else
    drain_isTrail_L1 a0 a1 FU (((0 : Int)))
def drain_isTrail (a0 : Net) (a1 : Trail) : Option Bool :=
  if ((a1.drains.length : Int)) = 0 then
    drain_isTrail_k3 a0 a1 true
  else
    bnd (drain_from a1.amount ((1 : Int)) ((20 : Int))) fun r3 =>
    drain_isTrail_k3 a0 a1 ((!r3))
def drain_Sum_k1 (l1 : List Int) : Option ((List Int) × Int) :=
  some (l1, (0 : Int))
def drain_Sum_k2 (t26_1 : Int) (rec1 : Int → (List Int) → Option ((List Int) × Int)) (l2 : List Int) : Option ((List Int) × Int) :=
  gd (InR (t26_1 + 1)) <|
  rec1 ((t26_1 + 1)) l2
def drain_Sum_B1 (t26_1 : Int) (rec1 : Int → (List Int) → Option ((List Int) × Int)) (x1 : Trail) (rec2 : Int → (List Int) → Option ((List Int) × Int)) (t37_1 : Int) (l3 : List Int) : Option ((List Int) × Int) :=
  if t37_1 < ((x1.drains.length : Int)) then
    ix x1.drains t37_1 fun x2 =>
    ix l3 x2 fun x3 =>
    gd (InR (x3 + x1.amount)) <|
    ix l3 x2 fun x4 =>
    gd (InR (t37_1 + 1)) <|
    rec2 ((t37_1 + 1)) (((l3.set (Int.toNat x2) (x3 + x1.amount))))
  else
    drain_Sum_k2 t26_1 rec1 l3
def drain_Sum_L1 (t26_1 : Int) (rec1 : Int → (List Int) → Option ((List Int) × Int)) (x1 : Trail) : Nat → Int → (List Int) → Option ((List Int) × Int)
  | 0, _, _ => none
  | n_ + 1, t37_1, l3 => drain_Sum_B1 t26_1 rec1 x1 (drain_Sum_L1 t26_1 rec1 x1 n_) t37_1 l3
theorem drain_Sum_L1_s {t26_1 : Int} {rec1 : Int → (List Int) → Option ((List Int) × Int)} {x1 : Trail} {m_ : Nat} {t37_1 : Int} {l3 : List Int} {res : (List Int) × Int} (h : drain_Sum_L1 t26_1 rec1 x1 m_ t37_1 l3 = some res) : ∃ k, m_ = k + 1 ∧ drain_Sum_B1 t26_1 rec1 x1 (drain_Sum_L1 t26_1 rec1 x1 k) t37_1 l3 = some res := by
  cases m_ with
  | zero => cases h
  | succ k => exact ⟨k, rfl, h⟩
def drain_Sum_B2 (a0 : Net) (a1 : List Trail) (rec1 : Int → (List Int) → Option ((List Int) × Int)) (t26_1 : Int) (l4 : List Int) : Option ((List Int) × Int) :=
  if t26_1 < ((a1.length : Int)) then
    ix a1 t26_1 fun x1 =>
    bnd (drain_isTrail a0 x1) fun r1 =>
    if r1 = true then
      drain_Sum_L1 t26_1 rec1 x1 FU (((0 : Int))) l4
    else
      some (([] : List Int), (1 : Int))
  else
    drain_Sum_k1 l4
def drain_Sum_L2 (a0 : Net) (a1 : List Trail) : Nat → Int → (List Int) → Option ((List Int) × Int)
  | 0, _, _ => none
  | n_ + 1, t26_1, l4 => drain_Sum_B2 a0 a1 (drain_Sum_L2 a0 a1 n_) t26_1 l4
theorem drain_Sum_L2_s {a0 : Net} {a1 : List Trail} {m_ : Nat} {t26_1 : Int} {l4 : List Int} {res : (List Int) × Int} (h : drain_Sum_L2 a0 a1 m_ t26_1 l4 = some res) : ∃ k, m_ = k + 1 ∧ drain_Sum_B2 a0 a1 (drain_Sum_L2 a0 a1 k) t26_1 l4 = some res := by
  cases m_ with
  | zero => cases h
  | succ k => exact ⟨k, rfl, h⟩
def drain_Sum (a0 : Net) (a1 : List Trail) : Option ((List Int) × Int) :=
  bnd (drain_Validate a0) fun r2 =>
  if r2 = 0 then
    if (40 : Int) < ((a1.length : Int)) then
      some (([] : List Int), (3 : Int))
    else
      gd (0 ≤ (a0.drains.length : Int) ∧ ((a0.drains.length : Int)) ≤ 1000000) <|
      drain_Sum_L2 a0 a1 FU (((0 : Int))) (((List.replicate (Int.toNat ((a0.drains.length : Int))) (0 : Int))))
  else
    some (([] : List Int), r2)
end Go.D2

set_option linter.unusedVariables false
namespace Go.Tb
open Go.RowKit
section
variable {P : Program} {n : Nat} {ops : Array Oper} {Q : Exit → Env → World → Prop} {ρ : Env} {w : World} {d : Option Tmp} {ty : TypeId} {pos : String} {after : Array Edge} {g : Option (Nat × Bool)} {K : Value → World → Prop}
/-- What an assertion to the type q gives, with its word on whether it holds. -/
def AssertM (P : Program) (q : TypeId) (v r : Value) : Prop := ∀ (t : TypeId) (w : World), (Instr.typeAssert v t q true).run P w = .ok r w
theorem AssertM.yes {q : TypeId} {fs : TypeDesc} {v : Value} (hT : P.underlying q = some fs) (hn : (match fs with | .interface _ => true | _ => false) = false) : AssertM P q (.iface q v) (.tuple #[v, .bool true]) := fun t w => by
  simp only [Instr.typeAssert, Sem.run_bind, run_underlying hT, Result.andThen_ok]
  cases fs <;> simp_all
theorem zeroV_run {q : TypeId} {z : Value} (hz : tyZ P q = some z) (w : World) : (zeroValue q).run P w = .ok z w := by
  unfold tyZ at hz
  cases hi : P.info? q with
  | none => simp [hi] at hz
  | some i => simp [hi] at hz; simp [zeroValue, typeInfo, hi, hz]
theorem AssertM.no {q q' : TypeId} {fs : TypeDesc} {v z : Value} (hT : P.underlying q = some fs) (hn : (match fs with | .interface _ => true | _ => false) = false) (hz : tyZ P q = some z) (hq : q' ≠ q) : AssertM P q (.iface q' v) (.tuple #[z, .bool false]) := fun t w => by
  simp only [Instr.typeAssert, Sem.run_bind, run_underlying hT, Result.andThen_ok]
  cases fs <;> simp_all [zeroV_run hz]
theorem AssertM.nil {q : TypeId} {fs : TypeDesc} {z : Value} (hT : P.underlying q = some fs) (hn : (match fs with | .interface _ => true | _ => false) = false) (hz : tyZ P q = some z) : AssertM P q .nilIface (.tuple #[z, .bool false]) := fun t w => by
  simp only [Instr.typeAssert, Sem.run_bind, run_underlying hT, Result.andThen_ok]
  cases fs <;> simp_all [zeroV_run hz]
/-- A method called through an interface. -/
def CallsM (P : Program) (v : Value) (name : String) (args : List Value) (w : World) (R : Ending → World → Prop) : Prop :=
  ∃ (t : TypeId) (u : Value) (f : FuncId) (r : Value), v = .iface t u ∧ (∀ w, (method (P.types.size + Made.depth) t u name).run P w = .ok (f, r) w) ∧ callable P f = true ∧ Calls P f (r :: args).toArray w R
theorem OW.invoke {recv : Operand} {name : String} {args : Array Operand} {tys : Array TypeId} {vs : List Value} {v : Value} {R : Ending → World → Prop} (hx : ev ρ recv = some v) (hargs : evs ρ args.toList = some vs)
    (hc : CallsM P v name vs w R) (k : ∀ e w', R e w' → ∃ v, e = .returned v ∧ K v w') : OW P n Q ⟨d, .call ⟨.invoke recv name, args, tys⟩, ty, pos, after, g⟩ ρ w K := by
  obtain ⟨t, u, f, r, rfl, hm, hf, hc⟩ := hc
  refine OW.enters (f := f) (args := (r :: vs).toArray) (fun a ha => ?_) hc k
  have h1 : args.map a.eval = vs.toArray := by
    have := ha.evs hargs
    apply Array.toList_inj.1
    rw [Array.toList_map]; exact this
  have hx' := ha.ev hx
  simp only [execOp, resolve, hx', Sem.run_bind, Sem.run_pure, Result.andThen_ok, Go.invoke]
  rw [show (Array.map a.eval args) = vs.toArray from h1]
  have e0 : (#[Value.iface t u] ++ vs.toArray)[0]? = some (.iface t u) := by simp
  have e1 : (#[Value.iface t u] ++ vs.toArray).extract 1 (#[Value.iface t u] ++ vs.toArray).size = vs.toArray := by
    apply Array.toList_inj.1; simp
  simp only [e0, callMethod, Sem.run_bind]
  rw [e1]
  have hp : (program : Sem Program).run P w = .ok P w := rfl
  rw [hp]
  simp only [Result.andThen_ok, hm w]
  have e2 : (#[r] ++ vs.toArray) = (r :: vs).toArray := by
    apply Array.toList_inj.1; simp
  rw [e2]
  exact run_callFunc hf _
end
structure Sl3 {α : Type} (w : World) (A : Option Addr) (c k : Nat) (enc : α → List Value) (lll : List (List (List α))) : Prop where
  ex : ∃ hs : List (Option Addr × Nat), hs.length = lll.length ∧ Sl w A c 1 ((hs.zip lll).map encH) ∧ ∀ (j : Nat) (h : Option Addr × Nat) (l : List (List α)), hs[j]? = some h → lll[j]? = some l → Sl2 w h.1 h.2 k enc l
section
variable {α : Type} {w w' : World} {A : Option Addr} {c k : Nat} {enc : α → List Value} {ll : List (List (List α))}
theorem Sl3.ext (h : Sl3 w A c k enc ll) (e : Ext w w') : Sl3 w' A c k enc ll := by
  obtain ⟨hs, h1, h2, h3⟩ := h.ex
  exact ⟨hs, h1, h2.ext e, fun j h l hj hl => (h3 j h l hj hl).ext e⟩
theorem Sl3.at_ (h : Sl3 w A c k enc ll) {j : Nat} {l : List (List α)} (hl : ll[j]? = some l) : ∃ (Aj : Option Addr) (cj : Nat), Cells w (elemPtr A 1 j) [.slice Aj l.length cj] ∧ Sl2 w Aj cj k enc l := by
  obtain ⟨hs, h1, h2, h3⟩ := h.ex
  have hlt := lt_of_at hl
  have hh : hs[j]? = some hs[j] := by simp [h1, hlt]
  refine ⟨hs[j].1, hs[j].2, ?_, h3 j _ l hh hl⟩
  exact h2.at_ (enc := encH) (x := (hs[j], l)) (by simp [List.getElem?_zip_eq_some, hh, hl])
theorem Sl3.addr (h : Sl3 w A c k enc ll) {i : Int} (h0 : 0 ≤ i ∧ i < ll.length) : ∃ a, A = some a := by
  obtain ⟨hs, h1, h2, _⟩ := h.ex
  exact h2.addr (i := i) (by simp [h1]; omega)
theorem Sl3.nil_ : Sl3 w none 0 k enc ([] : List (List (List α))) := ⟨⟨[], rfl, Sl.nil (by decide), fun j h l hj => by simp at hj⟩⟩
theorem Sl3.one {A1 : Option Addr} {c1 : Nat} {l1 : List (List α)} (h : Sl w A c 1 ([((A1, c1), l1)].map encH)) (s1 : Sl2 w A1 c1 k enc l1) : Sl3 w A c k enc [l1] := by
  refine ⟨[(A1, c1)], rfl, h, fun j x l hj hl => ?_⟩
  match j, hj, hl with
  | 0, hj, hl => simp at hj hl; subst hj; subst hl; exact s1
end
end Go.Tb

set_option linter.unusedVariables false
set_option linter.unusedSimpArgs false
namespace Go.Tb
open Go.RowKit
section
variable {P : Program} {n : Nat} {ops : Array Oper} {Q : Exit → Env → World → Prop} {ρ : Env} {w : World}
variable {d : Option Tmp} {ty : TypeId} {pos : String} {after : Array Edge} {g : Option (Nat × Bool)} {K : Value → World → Prop}
theorem Mod.refl (w : World) (A : Option Addr) : Mod w w A := ⟨rfl, rfl, rfl, Nat.le_refl _, fun _ _ _ => rfl⟩
theorem Mod.trans {w w1 w2 : World} {A : Option Addr} (a : Mod w w1 A) (b : Mod w1 w2 A) : Mod w w2 A :=
  ⟨b.os.trans a.os, b.tape.trans a.tape, b.output.trans a.output, Nat.le_trans a.size b.size, fun k hk hn => (b.block k (Nat.lt_of_lt_of_le hk a.size) hn).trans (a.block k hk hn)⟩
theorem Mod.of_ext {w w1 : World} {A : Option Addr} (a : Ext w w1) : Mod w w1 A := ⟨a.os, a.tape, a.output, a.size, fun k hk hn => Below.block a k hk⟩
end
section
variable {α : Type} {w : World} {A : Option Addr} {c e k : Nat} {enc : α → List Value} {l : List α}
theorem Own.at0 (h : Own w A c e k (l.map enc)) (h0 : 0 < l.length) : ∃ b, A = some ⟨b, 0, none⟩ := by
  rcases h.own.2 with ⟨hv, hn⟩ | ⟨g, cap, cur, hv, r⟩
  · simp at hn; simp [hn] at h0
  · injection hv with hv1
    exact ⟨g, hv1⟩
end
section
variable {w0 w w' : World} {L : List Ck}
end
theorem cutA_0 (A : Option Addr) (c k : Nat) : cutA A c k 0 = A := by unfold cutA; split <;> (cases A <;> simp [Addr.add])
theorem look_cut0 {α : Type} {ρ : Env} {t : Nat} {A : Option Addr} {c k : Nat} {l : List α} (h : look ρ t = some (.slice A l.length c)) : look ρ t = some (.slice (cutA A c k 0) (List.drop 0 l).length (c - 0)) := by
  rw [cutA_0, List.drop_zero, Nat.sub_zero]; exact h
theorem Sl.cutN {α : Type} {w : World} {A : Option Addr} {c k : Nat} {enc : α → List Value} {l : List α} (h : Sl w A c k (l.map enc)) {lo : Nat} (g : lo ≤ l.length) : Sl w (cutA A c k lo) (c - lo) k ((List.drop lo l).map enc) := by
  have := h.cut lo l.length g (Nat.le_refl _)
  rwa [List.take_length] at this
end Go.Tb

set_option linter.unusedVariables false
set_option linter.unusedSimpArgs false
namespace Go.Tb
open Go.RowKit
section
variable {α β : Type}
structure TbxH (A : Option Addr) (c to ko : Nat) (enc : (Option Addr × Nat) × α → List Value) (f : α → List β) (ti k2 : Nat) (enc2 : β → List Value) (hs : List (Option Addr × Nat)) (l : List α) (w : World) : Prop where
  len : hs.length = l.length
  outer : Own w A c to ko ((hs.zip l).map enc)
  row : ∀ (i : Nat) (h : Option Addr × Nat) (t : α), hs[i]? = some h → l[i]? = some t → Own w h.1 h.2 ti k2 ((f t).map enc2)
  ne : ∀ (i : Nat) (h : Option Addr × Nat) (b : Nat), hs[i]? = some h → b ∈ adB h.1 → b ∉ adB A
def tbxB (A : Option Addr) (hs : List (Option Addr × Nat)) : List Nat := adB A ++ hs.flatMap fun h => adB h.1
theorem mem_tbxB {A : Option Addr} {hs : List (Option Addr × Nat)} {b : Nat} : b ∈ tbxB A hs ↔ b ∈ adB A ∨ ∃ (i : Nat) (h : Option Addr × Nat), hs[i]? = some h ∧ b ∈ adB h.1 := by
  unfold tbxB
  simp only [List.mem_append, List.mem_flatMap]
  refine or_congr Iff.rfl ⟨?_, ?_⟩
  · rintro ⟨h, hm, hb⟩
    obtain ⟨i, hi⟩ := List.getElem?_of_mem hm
    exact ⟨i, h, hi, hb⟩
  · rintro ⟨i, h, hi, hb⟩
    exact ⟨h, List.mem_of_getElem? hi, hb⟩
variable {A : Option Addr} {c to ko : Nat} {enc : (Option Addr × Nat) × α → List Value} {f : α → List β} {ti k2 : Nat} {enc2 : β → List Value} {hs : List (Option Addr × Nat)} {l : List α} {w w' w0 : World} {L : List Ck}
theorem TbxH.keep (h : TbxH A c to ko enc f ti k2 enc2 hs l w) (hb : ∀ b ∈ tbxB A hs, w'.heap[b]? = w.heap[b]?) : TbxH A c to ko enc f ti k2 enc2 hs l w' :=
  ⟨h.len, h.outer.keep fun b h' => hb b (mem_tbxB.2 (.inl h')), fun i x t hx ht => (h.row i x t hx ht).keep fun b h' => hb b (mem_tbxB.2 (.inr ⟨i, x, hx, h'⟩)), h.ne⟩
theorem TbxH.lt (h : TbxH A c to ko enc f ti k2 enc2 hs l w) : ∀ b ∈ tbxB A hs, b < w.heap.size := by
  intro b hb
  rcases mem_tbxB.1 hb with hb | ⟨i, x, hx, hb⟩
  · exact h.outer.lt b hb
  · have hl : i < l.length := by rw [← h.len]; exact lt_of_at hx
    exact (h.row i x l[i] hx (by simp [hl])).lt b hb
theorem TbxH.holds (h : TbxH A c to ko enc f ti k2 enc2 hs l w) : (Ck.inv (tbxB A hs) (TbxH A c to ko enc f ti k2 enc2 hs l)).holds w :=
  ⟨h.lt, h, fun w1 w2 _ hb q => q.keep hb⟩
theorem Hp.tbx (h : Hp w0 w L) (p : Nat) (hp : L[p]? = some (.inv (tbxB A hs) (TbxH A c to ko enc f ti k2 enc2 hs l))) : TbxH A c to ko enc f ti k2 enc2 hs l w := (h.holds p _ hp).2.1
theorem TbxH.slT (h : TbxH A c to ko enc f ti k2 enc2 hs l w) : SlT w A c ko enc f k2 enc2 l :=
  ⟨⟨hs, h.len, h.outer.sl, fun j x t hx ht => (h.row j x t hx ht).sl⟩⟩
theorem Hp.nilTbx (enc : (Option Addr × Nat) × α → List Value) (f : α → List β) (enc2 : β → List Value) (h : Hp w0 w L) (to ko ti k2 : Nat) : Hp w0 w (.inv (tbxB none []) (TbxH none 0 to ko enc f ti k2 enc2 [] []) :: L) :=
  h.cons (Ext.refl w) (TbxH.holds (l := []) (hs := []) ⟨rfl, Own.nil w to ko, fun i x t hx ht => by simp at hx, fun i x b hx => by simp at hx⟩) (fun b hb => by simp [Ck.bl, tbxB, adB] at hb)
/-- A struct whose slice is the chunk q is appended. -/
theorem Hp.tbxPush (h : Hp w0 w L) (p q : Nat) (hpq : p ≠ q) (hp : L[p]? = some (.inv (tbxB A hs) (TbxH A c to ko enc f ti k2 enc2 hs l))) {e c' : Nat} {A' B : Option Addr} {x : α} (hq : L[q]? = some (.own B e ti k2 ((f x).map enc2)))
    (md : Mod w w' A) (hd : A' = A ∨ ∃ a, A' = some a ∧ w.heap.size ≤ a.block) (o : Own w' A' c' to ko ((hs.zip l ++ [((B, e), x)]).map enc)) :
    Hp w0 w' ((L.set p (.inv (tbxB A' (hs ++ [(B, e)])) (TbxH A' c' to ko enc f ti k2 enc2 (hs ++ [(B, e)]) (l ++ [x])))).eraseIdx q) := by
  have T := h.tbx p hp
  have O := h.own q hq
  have hA : ∀ b ∈ adB A, b ∈ tbxB A hs := fun b hb => mem_tbxB.2 (.inl hb)
  have hA' : ∀ b ∈ adB A', b ∈ adB A ∨ w.heap.size ≤ b := by
    rcases hd with rfl | ⟨a, rfl, ha⟩
    · exact fun b hb => .inl hb
    · intro b hb; simp [adB] at hb; subst hb; exact .inr ha
  have hset : ∀ (j : Nat) (y : Option Addr × Nat), (hs ++ [(B, e)])[j]? = some y → (j = hs.length ∧ y = (B, e)) ∨ (j < hs.length ∧ hs[j]? = some y) := by
    intro j y hj
    by_cases hij : j < hs.length
    · rw [List.getElem?_append_left hij] at hj; exact .inr ⟨hij, hj⟩
    · rw [List.getElem?_append_right (by omega)] at hj
      have : j - hs.length = 0 := by have := lt_of_at hj; simp at this; omega
      rw [this] at hj
      simp at hj
      exact .inl ⟨by omega, hj.symm⟩
  have hfar : ∀ b ∈ adB B, b ∉ tbxB A hs := fun b hb => h.disj q p _ _ hq hp (Ne.symm hpq) b hb
  refine h.merge p q hpq hp hq (h.extMod md fun b hb => h.fresh p _ hp b (hA b hb)) (fun b hb hn => md.other hb fun hB => hn (hA b hB)) (TbxH.holds ?_) ?_
  · refine ⟨by simp [T.len], ?_, fun j y t hj ht => ?_, fun j y b hj hb => ?_⟩
    · rw [List.zip_append T.len]; exact o
    · rcases hset j y hj with ⟨rfl, rfl⟩ | ⟨hij, hj⟩
      · rw [List.getElem?_append_right (by rw [T.len]; exact Nat.le_refl _), T.len] at ht
        simp at ht
        subst ht
        exact O.keep fun b hb => md.other (O.lt b hb) fun hc => hfar b hb (hA b hc)
      · rw [List.getElem?_append_left (by rw [← T.len]; exact hij)] at ht
        have R := T.row j y t hj ht
        exact R.keep fun b hb => md.other (R.lt b hb) fun hc => T.ne j y b hj hb hc
    · intro hc
      rcases hset j y hj with ⟨_, rfl⟩ | ⟨hij, hj⟩
      · rcases hA' b hc with hc | hc
        · exact hfar b hb (hA b hc)
        · have := O.lt b hb; omega
      · rcases hA' b hc with hc | hc
        · exact T.ne j y b hj hb hc
        · have hlt : j < l.length := by rw [← T.len]; exact hij
          have := (T.row j y l[j] hj (by simp [hlt])).lt b hb; omega
  · intro b hb
    rcases mem_tbxB.1 hb with hb | ⟨j, y, hj, hb⟩
    · rcases hA' b hb with hb | hb
      · exact .inl (hA b hb)
      · exact .inr (.inr hb)
    · rcases hset j y hj with ⟨_, rfl⟩ | ⟨hij, hj⟩
      · exact .inr (.inl hb)
      · exact .inl (mem_tbxB.2 (.inr ⟨j, y, hj, hb⟩))
end
section
variable {P : Program} {n : Nat} {ops : Array Oper} {Q : Exit → Env → World → Prop} {ρ : Env} {w : World}
variable {d : Option Tmp} {ty : TypeId} {pos : String} {after : Array Edge} {g : Option (Nat × Bool)} {K : Value → World → Prop}
theorem OW.appendX {α β : Type} {enc : (Option Addr × Nat) × α → List Value} {f : α → List β} {enc2 : β → List Value} {l : List α} {el : α} {t e bt ti ko k2 c cs q : Nat} {hs : List (Option Addr × Nat)} {z : List Value} {x y : Operand} {A As B : Option Addr} (hT : tyS P t = some (e, ko, bt, z)) (hx : ev ρ x = some (.slice A l.length c)) (hy : ev ρ y = some (.slice As 1 cs))
    (T : TbxH A c e ko enc f ti k2 enc2 hs l w) (src : Sl w As cs ko ([((B, q), el)].map enc)) (h1 : ∀ u, (enc u).all Value.oneCell' = true) (hz : z.length = ko) (hm0 : Nat.blt 0 ko = true) (h : l.length + 1 ≤ 1000000) (hb : bt ≤ 1000000)
    (kk : ∀ A' c' w', Own w' A' c' e ko ((hs.zip l ++ [((B, q), el)]).map enc) → Mod w w' A → (A' = A ∨ ∃ a, A' = some a ∧ w.heap.size ≤ a.block) → K (.slice A' (l ++ [el]).length c') w') :
    OW P n Q ⟨d, .call ⟨.builtin .append, #[x, y], #[t, t]⟩, ty, pos, after, g⟩ ρ w K := by
  have hl : (hs.zip l).length = l.length := by simp [T.len]
  refine OW.appendG (enc := enc) (l := hs.zip l) (xs := [((B, q), el)]) hT (by rw [hl]; exact hx) hy T.outer src h1 hz hm0 (by rw [hl]; simpa using h) hb fun A' c' w' o md hd => ?_
  have := kk A' c' w' o md hd
  have e1 : (hs.zip l ++ [((B, q), el)]).length = (l ++ [el]).length := by rw [List.length_append, hl]; simp
  rw [e1]; exact this
end
section
variable {w0 w w' : World} {L M : List Ck}
theorem ModX.frz {X : Nat → Prop} {A : Option Addr} (hs : w.heap.size ≤ w'.heap.size) (hk : ∀ k, k < w.heap.size → k ∉ adB A → w'.heap[k]? = w.heap[k]?) (hX : ∀ a, A = some a → X a.block) : ModX X w w' :=
  ⟨hs, fun k hk' hn => hk k hk' fun hc => by
    obtain ⟨a, rfl, rfl⟩ := mem_adB.1 hc
    exact hn (hX a rfl)⟩
theorem XB.tbxO {L0 : List Ck} {w1 : World} {is : List Nat} (i : Nat) {A : Option Addr} {hs : List (Option Addr × Nat)} {Q : World → Prop} (hi : is.contains i = true) (hy : L0[i]? = some (.inv (tbxB A hs) Q)) : ∀ a, A = some a → XB w1 L0 is a.block := fun a ha =>
  XB.in_ i hi hy (mem_tbxB.2 (.inl (by subst ha; simp [adB])))
/-- A chunk that does not change while others do. -/
def frz (w : World) (x : Ck) : Ck := .inv x.bl fun w' => x.holds w' ∧ ∀ b ∈ x.bl, w'.heap[b]? = w.heap[b]?
theorem frz_holds {x : Ck} (h : x.holds w) : (frz w x).holds w :=
  ⟨Ck.lt h, ⟨h, fun _ _ => rfl⟩, fun w1 w2 _ h2 h3 => ⟨Ck.keep h3.1 h2, fun b hb => (h2 b hb).trans (h3.2 b hb)⟩⟩
/-- What a call does not name stays as it was. -/
theorem Hp.freeze {a : Ck} (h : Hp w0 w ([a] ++ L)) : ∃ R, Hp w0 w ([a] ++ R) ∧ ∀ (w' : World) (a' : Ck) (M : List Ck), a'.bl = a.bl → Hp w0 w' (([a'] ++ M) ++ R) → Hp w0 w' (([a'] ++ M) ++ L) ∧ w.heap.size ≤ w'.heap.size ∧ ∀ k, k < w.heap.size → k ∉ a.bl → w'.heap[k]? = w.heap[k]? := by
  let bs : List Nat := (List.range w.heap.size).filter fun b => decide (w0.heap.size ≤ b) && !(([a] ++ L).any fun x => decide (b ∈ x.bl))
  have mem : ∀ b, b ∈ bs ↔ b < w.heap.size ∧ w0.heap.size ≤ b ∧ ∀ x ∈ [a] ++ L, b ∉ x.bl := fun b => by
    simp only [bs, List.mem_filter, List.mem_range, Bool.and_eq_true, decide_eq_true_eq, Bool.not_eq_true', List.any_eq_false, decide_eq_true_eq]
  let E : Ck := .inv bs fun w' => ∀ b ∈ bs, w'.heap[b]? = w.heap[b]?
  have hE : E.holds w := ⟨fun b hb => ((mem b).1 hb).1, fun _ _ => rfl, fun w1 w2 _ h2 h3 b hb => (h2 b hb).trans (h3 b hb)⟩
  have hl : ∀ (i : Nat), i < L.length → (L.map (frz w) ++ [E])[i]? = (L[i]?).map (frz w) := fun i hi => by
    rw [List.getElem?_append_left (by rw [List.length_map]; exact hi), List.getElem?_map]
  have cs : ∀ (i : Nat) (x : Ck), ([a] ++ (L.map (frz w) ++ [E]))[i]? = some x → (∃ y, ([a] ++ L)[i]? = some y ∧ y.bl = x.bl ∧ (y.holds w → x.holds w)) ∨ (i = L.length + 1 ∧ x = E) := by
    intro i x hx
    cases i with
    | zero =>
      simp at hx; subst hx
      exact .inl ⟨a, by simp, rfl, id⟩
    | succ i =>
      have hx' : (L.map (frz w) ++ [E])[i]? = some x := by simpa using hx
      by_cases hi : i < L.length
      · rw [hl i hi] at hx'
        have e : L[i]? = some L[i] := by simp [hi]
        rw [e] at hx'
        simp only [Option.map_some] at hx'
        refine .inl ⟨L[i], by simp, ?_, fun hh => ?_⟩
        · rw [← Option.some.inj hx']; rfl
        · rw [← Option.some.inj hx']; exact frz_holds hh
      · have hle := lt_of_at hx'
        simp only [List.length_append, List.length_map, List.length_singleton] at hle
        have e : i = L.length := by omega
        rw [List.getElem?_append_right (by rw [List.length_map]; omega), List.length_map, e, Nat.sub_self] at hx'
        simp at hx'
        exact .inr ⟨by omega, hx'.symm⟩
  refine ⟨L.map (frz w) ++ [E], ⟨h.ext, fun i x hx => ?_, fun i j x y hx hy hij b hb => ?_, fun i x hx b hb => ?_⟩, fun w' a' M hbl h' => ?_⟩
  · rcases cs i x hx with ⟨y, hy, _, hh⟩ | ⟨_, rfl⟩
    · exact hh (h.holds i y hy)
    · exact hE
  · rcases cs i x hx with ⟨p, hp, ep, _⟩ | ⟨e1, rfl⟩ <;> rcases cs j y hy with ⟨q, hq, eq, _⟩ | ⟨e2, rfl⟩
    · rw [← eq]; exact h.disj i j p q hp hq hij b (by rw [ep]; exact hb)
    · intro hc
      exact ((mem b).1 hc).2.2 p (List.mem_of_getElem? hp) (by rw [ep]; exact hb)
    · intro hc
      rw [← eq] at hc
      exact ((mem b).1 hb).2.2 q (List.mem_of_getElem? hq) hc
    · exact absurd (e1.trans e2.symm) hij
  · rcases cs i x hx with ⟨y, hy, ey, _⟩ | ⟨_, rfl⟩
    · exact h.fresh i y hy b (by rw [ey]; exact hb)
    · exact ((mem b).1 hb).2.1
  · -- behind the call
    have at2 : ∀ (i : Nat) (y : Ck), L[i]? = some y → (([a'] ++ M) ++ (L.map (frz w) ++ [E]))[([a'] ++ M).length + i]? = some (frz w y) := fun i y hy => by
      rw [List.getElem?_append_right (by omega), Nat.add_sub_cancel_left, hl i (lt_of_at hy), hy]; rfl
    have atE : (([a'] ++ M) ++ (L.map (frz w) ++ [E]))[([a'] ++ M).length + L.length]? = some E := by
      rw [List.getElem?_append_right (by omega), Nat.add_sub_cancel_left, List.getElem?_append_right (by rw [List.length_map]; exact Nat.le_refl _), List.length_map, Nat.sub_self]; rfl
    have old : ∀ (i : Nat) (x : Ck), (([a'] ++ M) ++ L)[i]? = some x → ∃ z, (([a'] ++ M) ++ (L.map (frz w) ++ [E]))[i]? = some z ∧ z.bl = x.bl ∧ (z.holds w' → x.holds w') := by
      intro i x hx
      by_cases hi : i < ([a'] ++ M).length
      · rw [List.getElem?_append_left hi] at hx
        exact ⟨x, by rw [List.getElem?_append_left hi]; exact hx, rfl, id⟩
      · rw [List.getElem?_append_right (by omega)] at hx
        have := at2 _ x hx
        rw [show ([a'] ++ M).length + (i - ([a'] ++ M).length) = i by omega] at this
        exact ⟨frz w x, this, rfl, fun hz => hz.2.1.1⟩
    have same : ∀ k, k < w.heap.size → k ∉ a.bl → w'.heap[k]? = w.heap[k]? := by
      intro k hk hn
      by_cases h1 : k < w0.heap.size
      · rw [Below.block h'.ext k h1, Below.block h.ext k h1]
      · by_cases h2 : ∃ x ∈ L, k ∈ x.bl
        · obtain ⟨x, hx, hb⟩ := h2
          obtain ⟨i, hi⟩ := List.getElem?_of_mem hx
          exact (h'.holds _ _ (at2 i x hi)).2.1.2 k hb
        · have hm : k ∈ bs := (mem k).2 ⟨hk, by omega, fun x hx hb => by
            rcases List.mem_append.1 hx with hx | hx
            · rw [List.mem_singleton.1 hx] at hb; exact hn hb
            · exact h2 ⟨x, hx, hb⟩⟩
          exact (h'.holds _ _ atE).2.1 k hm
    refine ⟨⟨h'.ext, fun i x hx => ?_, fun i j x y hx hy hij b hb => ?_, fun i x hx b hb => ?_⟩, ?_, same⟩
    · obtain ⟨z, hz, _, hh⟩ := old i x hx
      exact hh (h'.holds i z hz)
    · obtain ⟨z, hz, ez, _⟩ := old i x hx
      obtain ⟨u, hu, eu, _⟩ := old j y hy
      rw [← eu]
      exact h'.disj i j z u hz hu hij b (by rw [ez]; exact hb)
    · obtain ⟨z, hz, ez, _⟩ := old i x hx
      exact h'.fresh i z hz b (by rw [ez]; exact hb)
    · rcases Nat.eq_zero_or_pos w.heap.size with h0 | h0
      · omega
      · by_cases hin : w.heap.size - 1 ∈ a.bl
        · have := Ck.lt (h'.holds 0 a' (by simp)) (w.heap.size - 1) (by rw [hbl]; exact hin)
          omega
        · have e := same (w.heap.size - 1) (by omega) hin
          rw [Array.getElem?_eq_getElem (show w.heap.size - 1 < w.heap.size by omega)] at e
          have := (Array.getElem?_eq_some_iff.1 e).1
          omega
end
end Go.Tb

set_option linter.unusedVariables false
namespace Go.D2
open Go.Tb
def drain_trail_k1 (l1 : List Int) (lo1 : Nat) (t15_1 : Int) (l2 : List Int) : Option (Trail × (List Int)) :=
  bnd (slices_Clone_int ((List.drop lo1 l1))) fun r1 =>
  some ((⟨r1, t15_1⟩ : Trail), l2)
def drain_trail_B1 (l1 : List Int) (lo1 : Nat) (t15_1 : Int) (rec1 : Int → (List Int) → Option (Trail × (List Int))) (t85_1 : Int) (l3 : List Int) : Option (Trail × (List Int)) :=
  if t85_1 < (((List.drop lo1 l1).length : Int)) then
    ix ((List.drop lo1 l1)) t85_1 fun x1 =>
    ix l3 x1 fun x2 =>
    gd (InR (x2 - t15_1)) <|
    ix l3 x1 fun x3 =>
    gd (InR (t85_1 + 1)) <|
    rec1 ((t85_1 + 1)) (((l3.set (Int.toNat x1) (x2 - t15_1))))
  else
    drain_trail_k1 l1 lo1 t15_1 l3
def drain_trail_L1 (l1 : List Int) (lo1 : Nat) (t15_1 : Int) : Nat → Int → (List Int) → Option (Trail × (List Int))
  | 0, _, _ => none
  | n_ + 1, t85_1, l3 => drain_trail_B1 l1 lo1 t15_1 (drain_trail_L1 l1 lo1 t15_1 n_) t85_1 l3
theorem drain_trail_L1_s {l1 : List Int} {lo1 : Nat} {t15_1 : Int} {m_ : Nat} {t85_1 : Int} {l3 : List Int} {res : Trail × (List Int)} (h : drain_trail_L1 l1 lo1 t15_1 m_ t85_1 l3 = some res) : ∃ k, m_ = k + 1 ∧ drain_trail_B1 l1 lo1 t15_1 (drain_trail_L1 l1 lo1 t15_1 k) t85_1 l3 = some res := by
  cases m_ with
  | zero => cases h
  | succ k => exact ⟨k, rfl, h⟩
def drain_trail_k2 (a1 : List Int) (l1 : List Int) (lo1 : Nat) (t15_1 : Int) : Option (Trail × (List Int)) :=
  drain_trail_L1 l1 lo1 t15_1 FU (((0 : Int))) a1
def drain_trail_B2 (a1 : List Int) (l1 : List Int) (lo1 : Nat) (rec2 : Int → Int → Option (Trail × (List Int))) (t15_2 : Int) (t72_1 : Int) : Option (Trail × (List Int)) :=
  if t72_1 < (((List.drop lo1 l1).length : Int)) then
    ix ((List.drop lo1 l1)) t72_1 fun x4 =>
    ix a1 x4 fun x5 =>
    gd (InR (t72_1 + 1)) <|
    rec2 ((min t15_2 x5)) ((t72_1 + 1))
  else
    drain_trail_k2 a1 l1 lo1 t15_2
def drain_trail_L2 (a1 : List Int) (l1 : List Int) (lo1 : Nat) : Nat → Int → Int → Option (Trail × (List Int))
  | 0, _, _ => none
  | n_ + 1, t15_2, t72_1 => drain_trail_B2 a1 l1 lo1 (drain_trail_L2 a1 l1 lo1 n_) t15_2 t72_1
theorem drain_trail_L2_s {a1 : List Int} {l1 : List Int} {lo1 : Nat} {m_ : Nat} {t15_2 : Int} {t72_1 : Int} {res : Trail × (List Int)} (h : drain_trail_L2 a1 l1 lo1 m_ t15_2 t72_1 = some res) : ∃ k, m_ = k + 1 ∧ drain_trail_B2 a1 l1 lo1 (drain_trail_L2 a1 l1 lo1 k) t15_2 t72_1 = some res := by
  cases m_ with
  | zero => cases h
  | succ k => exact ⟨k, rfl, h⟩
def drain_trail_k3 (a1 : List Int) (t4_1 : Int) (l1 : List Int) (lo1 : Nat) : Option (Trail × (List Int)) :=
  drain_trail_L2 a1 l1 lo1 FU t4_1 (((0 : Int)))
def drain_trail_k4 (a0 : Net) (a1 : List Int) (l4 : List Int) (l5 : List Int) (rec3 : Int → (List Int) → (List Int) → Option (Trail × (List Int))) (t13_1 : Int) : Option (Trail × (List Int)) :=
  gd (l5.length + (([t13_1] : List Int)).length ≤ 1000000) <|
  ix a0.drains t13_1 fun x6 =>
  bnd (slices_Index_int l4 x6.to_) fun r2 =>
  if (0 : Int) ≤ r2 then
    gd (0 ≤ r2 ∧ r2 ≤ (((l5 ++ ([t13_1] : List Int))).length : Int)) <|
    drain_trail_k3 a1 (((20 : Int))) (((l5 ++ ([t13_1] : List Int)))) ((Int.toNat r2))
  else
    gd (l4.length + (([x6.to_] : List Int)).length ≤ 1000000) <|
    rec3 x6.to_ (((l4 ++ ([x6.to_] : List Int)))) (((l5 ++ ([t13_1] : List Int))))
def drain_trail_k5 (a0 : Net) (a1 : List Int) (l4 : List Int) (l5 : List Int) (rec3 : Int → (List Int) → (List Int) → Option (Trail × (List Int))) (t13_2 : Int) (rec4 : Int → Option (Trail × (List Int))) (t44_1 : Bool) : Option (Trail × (List Int)) :=
  if t44_1 = true then
    gd (InR (t13_2 + 1)) <|
    rec4 ((t13_2 + 1))
  else
    drain_trail_k4 a0 a1 l4 l5 rec3 t13_2
def drain_trail_B3 (a0 : Net) (a1 : List Int) (t2_1 : Int) (l4 : List Int) (l5 : List Int) (rec3 : Int → (List Int) → (List Int) → Option (Trail × (List Int))) (rec4 : Int → Option (Trail × (List Int))) (t13_2 : Int) : Option (Trail × (List Int)) :=
  ix a0.drains t13_2 fun x7 =>
  if x7.from_ = t2_1 then
    ix a1 t13_2 fun x8 =>
    drain_trail_k5 a0 a1 l4 l5 rec3 t13_2 rec4 ((decide (x8 = 0)))
  else
    drain_trail_k5 a0 a1 l4 l5 rec3 t13_2 rec4 true
def drain_trail_L3 (a0 : Net) (a1 : List Int) (t2_1 : Int) (l4 : List Int) (l5 : List Int) (rec3 : Int → (List Int) → (List Int) → Option (Trail × (List Int))) : Nat → Int → Option (Trail × (List Int))
  | 0, _ => none
  | n_ + 1, t13_2 => drain_trail_B3 a0 a1 t2_1 l4 l5 rec3 (drain_trail_L3 a0 a1 t2_1 l4 l5 rec3 n_) t13_2
theorem drain_trail_L3_s {a0 : Net} {a1 : List Int} {t2_1 : Int} {l4 : List Int} {l5 : List Int} {rec3 : Int → (List Int) → (List Int) → Option (Trail × (List Int))} {m_ : Nat} {t13_2 : Int} {res : Trail × (List Int)} (h : drain_trail_L3 a0 a1 t2_1 l4 l5 rec3 m_ t13_2 = some res) : ∃ k, m_ = k + 1 ∧ drain_trail_B3 a0 a1 t2_1 l4 l5 rec3 (drain_trail_L3 a0 a1 t2_1 l4 l5 rec3 k) t13_2 = some res := by
  cases m_ with
  | zero => cases h
  | succ k => exact ⟨k, rfl, h⟩
def drain_trail_k6 (a0 : Net) (a1 : List Int) (a4 : Int) (t2_1 : Int) (l4 : List Int) (l5 : List Int) (rec3 : Int → (List Int) → (List Int) → Option (Trail × (List Int))) (t29_1 : Bool) : Option (Trail × (List Int)) :=
  if t29_1 = true then
    drain_trail_L3 a0 a1 t2_1 l4 l5 rec3 FU (((0 : Int)))
  else
    drain_trail_k3 a1 a4 l5 0
def drain_trail_B4 (a0 : Net) (a1 : List Int) (a3 : Int) (a4 : Int) (rec3 : Int → (List Int) → (List Int) → Option (Trail × (List Int))) (t2_1 : Int) (l4 : List Int) (l5 : List Int) : Option (Trail × (List Int)) :=
  if t2_1 = a3 then
    drain_trail_k6 a0 a1 a4 t2_1 l4 l5 rec3 ((decide (((l5.length : Int)) = 0)))
  else
    drain_trail_k6 a0 a1 a4 t2_1 l4 l5 rec3 true
def drain_trail_L4 (a0 : Net) (a1 : List Int) (a3 : Int) (a4 : Int) : Nat → Int → (List Int) → (List Int) → Option (Trail × (List Int))
  | 0, _, _, _ => none
  | n_ + 1, t2_1, l4, l5 => drain_trail_B4 a0 a1 a3 a4 (drain_trail_L4 a0 a1 a3 a4 n_) t2_1 l4 l5
theorem drain_trail_L4_s {a0 : Net} {a1 : List Int} {a3 : Int} {a4 : Int} {m_ : Nat} {t2_1 : Int} {l4 : List Int} {l5 : List Int} {res : Trail × (List Int)} (h : drain_trail_L4 a0 a1 a3 a4 m_ t2_1 l4 l5 = some res) : ∃ k, m_ = k + 1 ∧ drain_trail_B4 a0 a1 a3 a4 (drain_trail_L4 a0 a1 a3 a4 k) t2_1 l4 l5 = some res := by
  cases m_ with
  | zero => cases h
  | succ k => exact ⟨k, rfl, h⟩
def drain_trail (a0 : Net) (a1 : List Int) (a2 : Int) (a3 : Int) (a4 : Int) : Option (Trail × (List Int)) :=
  drain_trail_L4 a0 a1 a3 a4 FU a2 ((([a2] : List Int))) ((([] : List Int)))
def slices_IndexFunc_int_k1 : Option Int :=
  some ((-1 : Int))
def slices_IndexFunc_int_B1 (a0 : List Int) (a1 : Int → Option Bool) (rec1 : Int → Option Int) (t8_1 : Int) : Option Int :=
  if t8_1 < ((a0.length : Int)) then
    ix a0 t8_1 fun x1 =>
    bnd (a1 x1) fun r1 =>
    if r1 = true then
      some t8_1
    else
      gd (InR (t8_1 + 1)) <|
      rec1 ((t8_1 + 1))
  else
    slices_IndexFunc_int_k1
def slices_IndexFunc_int_L1 (a0 : List Int) (a1 : Int → Option Bool) : Nat → Int → Option Int
  | 0, _ => none
  | n_ + 1, t8_1 => slices_IndexFunc_int_B1 a0 a1 (slices_IndexFunc_int_L1 a0 a1 n_) t8_1
theorem slices_IndexFunc_int_L1_s {a0 : List Int} {a1 : Int → Option Bool} {m_ : Nat} {t8_1 : Int} {res : Int} (h : slices_IndexFunc_int_L1 a0 a1 m_ t8_1 = some res) : ∃ k, m_ = k + 1 ∧ slices_IndexFunc_int_B1 a0 a1 (slices_IndexFunc_int_L1 a0 a1 k) t8_1 = some res := by
  cases m_ with
  | zero => cases h
  | succ k => exact ⟨k, rfl, h⟩
def slices_IndexFunc_int (a0 : List Int) (a1 : Int → Option Bool) : Option Int :=
  slices_IndexFunc_int_L1 a0 a1 FU (((0 : Int)))
def drain_Split_1 (a0 : Int) : Option Bool :=
  some (decide ((0 : Int) < a0))
def drain_Split_B1 (a0 : Net) (rec1 : (List Int) → (List Trail) → Option ((List Trail) × Int)) (l1 : List Int) (m1 : List Trail) : Option ((List Trail) × Int) :=
  bnd (slices_IndexFunc_int l1 drain_Split_1) fun r1 =>
  if r1 < 0 then
    some (m1, (0 : Int))
  else
    ix a0.drains r1 fun x1 =>
    bnd (drain_trail a0 l1 x1.from_ ((-1 : Int)) ((0 : Int))) fun r2 =>
    gd (m1.length + 1 ≤ 1000000) <|
    rec1 r2.2 (((m1 ++ [r2.1])))
def drain_Split_L1 (a0 : Net) : Nat → (List Int) → (List Trail) → Option ((List Trail) × Int)
  | 0, _, _ => none
  | n_ + 1, l1, m1 => drain_Split_B1 a0 (drain_Split_L1 a0 n_) l1 m1
theorem drain_Split_L1_s {a0 : Net} {m_ : Nat} {l1 : List Int} {m1 : List Trail} {res : (List Trail) × Int} (h : drain_Split_L1 a0 m_ l1 m1 = some res) : ∃ k, m_ = k + 1 ∧ drain_Split_B1 a0 (drain_Split_L1 a0 k) l1 m1 = some res := by
  cases m_ with
  | zero => cases h
  | succ k => exact ⟨k, rfl, h⟩
def drain_Split_k1 (a0 : Net) (l2 : List Int) (m2 : List Trail) : Option ((List Trail) × Int) :=
  drain_Split_L1 a0 FU l2 m2
def drain_Split_B2 (a0 : Net) (rec2 : Int → (List Int) → (List Trail) → Option ((List Trail) × Int)) (t6_1 : Int) (l3 : List Int) (m3 : List Trail) : Option ((List Trail) × Int) :=
  if (0 : Int) < t6_1 then
    bnd (drain_trail a0 l3 a0.from_ a0.to_ t6_1) fun r3 =>
    gd (m3.length + 1 ≤ 1000000) <|
    bnd (drain_value a0 r3.2 a0.from_) fun r4 =>
    rec2 r4 r3.2 (((m3 ++ [r3.1])))
  else
    drain_Split_k1 a0 l3 m3
def drain_Split_L2 (a0 : Net) : Nat → Int → (List Int) → (List Trail) → Option ((List Trail) × Int)
  | 0, _, _, _ => none
  | n_ + 1, t6_1, l3, m3 => drain_Split_B2 a0 (drain_Split_L2 a0 n_) t6_1 l3 m3
theorem drain_Split_L2_s {a0 : Net} {m_ : Nat} {t6_1 : Int} {l3 : List Int} {m3 : List Trail} {res : (List Trail) × Int} (h : drain_Split_L2 a0 m_ t6_1 l3 m3 = some res) : ∃ k, m_ = k + 1 ∧ drain_Split_B2 a0 (drain_Split_L2 a0 k) t6_1 l3 m3 = some res := by
  cases m_ with
  | zero => cases h
  | succ k => exact ⟨k, rfl, h⟩
def drain_Split (a0 : Net) (a1 : List Int) : Option ((List Trail) × Int) :=
  bnd (drain_CheckFlow a0 a1) fun r5 =>
  if r5.2 = 0 then
    if r5.1 < 0 then
      some (([] : List Trail), (8 : Int))
    else
      bnd (slices_Clone_int a1) fun r6 =>
      drain_Split_L2 a0 FU r5.1 r6 ((([] : List Trail)))
  else
    some (([] : List Trail), r5.2)
end Go.D2

set_option linter.unusedVariables false
namespace Go.D2
open Go.Tb
def top_others_k1 (l1 : List Int) : Option ((List Int)) :=
  some l1
def top_others_k2 (t8_1 : Int) (rec1 : Int → (List Int) → Option ((List Int))) (l2 : List Int) : Option ((List Int)) :=
  gd (InR (t8_1 + 1)) <|
  rec1 ((t8_1 + 1)) l2
def top_others_B1 (a0 : Int) (l3 : List Bool) (rec1 : Int → (List Int) → Option ((List Int))) (t8_1 : Int) (l4 : List Int) : Option ((List Int)) :=
  if t8_1 < a0 then
    ix l3 t8_1 fun x1 =>
    if x1 = true then
      top_others_k2 t8_1 rec1 l4
    else
      gd (l4.length + (([t8_1] : List Int)).length ≤ 1000000) <|
      top_others_k2 t8_1 rec1 (((l4 ++ ([t8_1] : List Int))))
  else
    top_others_k1 l4
def top_others_L1 (a0 : Int) (l3 : List Bool) : Nat → Int → (List Int) → Option ((List Int))
  | 0, _, _ => none
  | n_ + 1, t8_1, l4 => top_others_B1 a0 l3 (top_others_L1 a0 l3 n_) t8_1 l4
theorem top_others_L1_s {a0 : Int} {l3 : List Bool} {m_ : Nat} {t8_1 : Int} {l4 : List Int} {res : (List Int)} (h : top_others_L1 a0 l3 m_ t8_1 l4 = some res) : ∃ k, m_ = k + 1 ∧ top_others_B1 a0 l3 (top_others_L1 a0 l3 k) t8_1 l4 = some res := by
  cases m_ with
  | zero => cases h
  | succ k => exact ⟨k, rfl, h⟩
def top_others_k3 (a0 : Int) (l3 : List Bool) : Option ((List Int)) :=
  top_others_L1 a0 l3 FU (((0 : Int))) ((([] : List Int)))
def top_others_k4 (t6_1 : Int) (rec2 : Int → (List Bool) → Option ((List Int))) (l5 : List Bool) : Option ((List Int)) :=
  gd (InR (t6_1 + 1)) <|
  rec2 ((t6_1 + 1)) l5
def top_others_k5 (a1 : List Int) (t6_1 : Int) (l6 : List Bool) (rec2 : Int → (List Bool) → Option ((List Int))) (t29_1 : Bool) : Option ((List Int)) :=
  if t29_1 = true then
    ix a1 t6_1 fun x2 =>
    ix l6 x2 fun x3 =>
    top_others_k4 t6_1 rec2 (((l6.set (Int.toNat x2) true)))
  else
    top_others_k4 t6_1 rec2 l6
def top_others_B2 (a0 : Int) (a1 : List Int) (rec2 : Int → (List Bool) → Option ((List Int))) (t6_1 : Int) (l6 : List Bool) : Option ((List Int)) :=
  if t6_1 < ((a1.length : Int)) then
    ix a1 t6_1 fun x4 =>
    if (0 : Int) ≤ x4 then
      ix a1 t6_1 fun x5 =>
      top_others_k5 a1 t6_1 l6 rec2 ((decide (x5 < a0)))
    else
      top_others_k5 a1 t6_1 l6 rec2 false
  else
    top_others_k3 a0 l6
def top_others_L2 (a0 : Int) (a1 : List Int) : Nat → Int → (List Bool) → Option ((List Int))
  | 0, _, _ => none
  | n_ + 1, t6_1, l6 => top_others_B2 a0 a1 (top_others_L2 a0 a1 n_) t6_1 l6
theorem top_others_L2_s {a0 : Int} {a1 : List Int} {m_ : Nat} {t6_1 : Int} {l6 : List Bool} {res : (List Int)} (h : top_others_L2 a0 a1 m_ t6_1 l6 = some res) : ∃ k, m_ = k + 1 ∧ top_others_B2 a0 a1 (top_others_L2 a0 a1 k) t6_1 l6 = some res := by
  cases m_ with
  | zero => cases h
  | succ k => exact ⟨k, rfl, h⟩
def top_others (a0 : Int) (a1 : List Int) : Option ((List Int)) :=
  gd (0 ≤ a0 ∧ a0 ≤ 1000000) <|
  top_others_L2 a0 a1 FU (((0 : Int))) (((List.replicate (Int.toNat a0) (false : Bool))))
def top_TopFlows_k1 (a0 : Net) (a1 : Int) (r1 : Int × Int) (t28_1 : Bool) (t277_1 : Bool) : Option Bool :=
  if t277_1 = true then
    some false
  else
    ix a0.drains a1 fun x1 =>
    if x1.width = 0 then
      some (!t28_1)
    else
      bnd (drain_Widen a0 a1 ((-1 : Int))) fun r2 =>
      bnd (drain_Most r2.1) fun r3 =>
      if r2.2 = 0 then
        if r3.2 = 0 then
          some (t28_1 == (decide (r3.1 < r1.1)))
        else
          some false
      else
        some false
def top_TopFlows_k2 (a0 : Net) (a1 : Int) (r1 : Int × Int) (r4 : Int × Int) (t25_1 : Bool) (r5 : (List Int) × Int) (t28_1 : Bool) : Option Bool :=
  if r5.2 = 0 then
    if (t25_1 == (decide (r4.1 = r1.1))) = true then
      if t28_1 = true then
        top_TopFlows_k1 a0 a1 r1 t28_1 t25_1
      else
        top_TopFlows_k1 a0 a1 r1 t28_1 false
    else
      top_TopFlows_k1 a0 a1 r1 t28_1 true
  else
    top_TopFlows_k1 a0 a1 r1 t28_1 true
def top_TopFlows_k3 (t29_1 : Int) (rec1 : Bool → Int → Option Bool) (t28_2 : Bool) : Option Bool :=
  gd (InR (t29_1 + 1)) <|
  rec1 t28_2 ((t29_1 + 1))
def top_TopFlows_B1 (a0 : Net) (a1 : Int) (r1 : Int × Int) (r4 : Int × Int) (t25_1 : Bool) (r5 : (List Int) × Int) (rec1 : Bool → Int → Option Bool) (t28_3 : Bool) (t29_1 : Int) : Option Bool :=
  if t29_1 < ((r5.1.length : Int)) then
    if t28_3 = true then
      top_TopFlows_k3 t29_1 rec1 true
    else
      ix r5.1 t29_1 fun x2 =>
      top_TopFlows_k3 t29_1 rec1 ((decide (x2 = a1)))
  else
    top_TopFlows_k2 a0 a1 r1 r4 t25_1 r5 t28_3
def top_TopFlows_L1 (a0 : Net) (a1 : Int) (r1 : Int × Int) (r4 : Int × Int) (t25_1 : Bool) (r5 : (List Int) × Int) : Nat → Bool → Int → Option Bool
  | 0, _, _ => none
  | n_ + 1, t28_3, t29_1 => top_TopFlows_B1 a0 a1 r1 r4 t25_1 r5 (top_TopFlows_L1 a0 a1 r1 r4 t25_1 r5 n_) t28_3 t29_1
theorem top_TopFlows_L1_s {a0 : Net} {a1 : Int} {r1 : Int × Int} {r4 : Int × Int} {t25_1 : Bool} {r5 : (List Int) × Int} {m_ : Nat} {t28_3 : Bool} {t29_1 : Int} {res : Bool} (h : top_TopFlows_L1 a0 a1 r1 r4 t25_1 r5 m_ t28_3 t29_1 = some res) : ∃ k, m_ = k + 1 ∧ top_TopFlows_B1 a0 a1 r1 r4 t25_1 r5 (top_TopFlows_L1 a0 a1 r1 r4 t25_1 r5 k) t28_3 t29_1 = some res := by
  cases m_ with
  | zero => cases h
  | succ k => exact ⟨k, rfl, h⟩
def top_TopFlows_k4 (a0 : Net) (a1 : Int) (r1 : Int × Int) (r4 : Int × Int) (t25_1 : Bool) : Option Bool :=
  bnd (drain_Critical a0) fun r5 =>
  top_TopFlows_L1 a0 a1 r1 r4 t25_1 r5 FU false (((0 : Int)))
def top_TopFlows_k5 (t26_1 : Int) (rec2 : Bool → Int → Option Bool) (t25_2 : Bool) : Option Bool :=
  gd (InR (t26_1 + 1)) <|
  rec2 t25_2 ((t26_1 + 1))
def top_TopFlows_B2 (a0 : Net) (a1 : Int) (r1 : Int × Int) (r6 : (List Int) × Int) (r4 : Int × Int) (rec2 : Bool → Int → Option Bool) (t25_3 : Bool) (t26_1 : Int) : Option Bool :=
  if t26_1 < ((r6.1.length : Int)) then
    if t25_3 = true then
      top_TopFlows_k5 t26_1 rec2 true
    else
      ix r6.1 t26_1 fun x3 =>
      top_TopFlows_k5 t26_1 rec2 ((decide (x3 = a1)))
  else
    top_TopFlows_k4 a0 a1 r1 r4 t25_3
def top_TopFlows_L2 (a0 : Net) (a1 : Int) (r1 : Int × Int) (r6 : (List Int) × Int) (r4 : Int × Int) : Nat → Bool → Int → Option Bool
  | 0, _, _ => none
  | n_ + 1, t25_3, t26_1 => top_TopFlows_B2 a0 a1 r1 r6 r4 (top_TopFlows_L2 a0 a1 r1 r6 r4 n_) t25_3 t26_1
theorem top_TopFlows_L2_s {a0 : Net} {a1 : Int} {r1 : Int × Int} {r6 : (List Int) × Int} {r4 : Int × Int} {m_ : Nat} {t25_3 : Bool} {t26_1 : Int} {res : Bool} (h : top_TopFlows_L2 a0 a1 r1 r6 r4 m_ t25_3 t26_1 = some res) : ∃ k, m_ = k + 1 ∧ top_TopFlows_B2 a0 a1 r1 r6 r4 (top_TopFlows_L2 a0 a1 r1 r6 r4 k) t25_3 t26_1 = some res := by
  cases m_ with
  | zero => cases h
  | succ k => exact ⟨k, rfl, h⟩
def top_TopFlows_k6 (a0 : Net) (a1 : Int) (r1 : Int × Int) (r6 : (List Int) × Int) (r4 : Int × Int) (t227_1 : Bool) : Option Bool :=
  if t227_1 = true then
    some false
  else
    top_TopFlows_L2 a0 a1 r1 r6 r4 FU false (((0 : Int)))
def top_TopFlows_k7 (a0 : Net) (a1 : Int) (r1 : Int × Int) (r6 : (List Int) × Int) (t10_1 : Int) (c1_0_1 : Int) (c1_1_1 : Int) (c1_2_1 : Int) (l1 : List Drain) : Option Bool :=
  bnd (drain_Most ((⟨c1_0_1, c1_1_1, c1_2_1, l1⟩ : Net))) fun r4 =>
  if r6.2 = 0 then
    if t10_1 = 0 then
      if r4.2 = 0 then
        top_TopFlows_k6 a0 a1 r1 r6 r4 ((decide (r1.1 < r4.1)))
      else
        top_TopFlows_k6 a0 a1 r1 r6 r4 true
    else
      top_TopFlows_k6 a0 a1 r1 r6 r4 true
  else
    top_TopFlows_k6 a0 a1 r1 r6 r4 true
def top_TopFlows_k8 (a0 : Net) (a1 : Int) (r1 : Int × Int) (t189_1 : Bool) : Option Bool :=
  if t189_1 = true then
    some true
  else
    bnd (drain_Needless a0) fun r6 =>
    ix a0.drains a1 fun x4 =>
    gd (InR (-x4.width)) <|
    bnd (drain_Widen a0 a1 (-x4.width)) fun r7 =>
    top_TopFlows_k7 a0 a1 r1 r6 r7.2 r7.1.nodes r7.1.from_ r7.1.to_ r7.1.drains
def top_TopFlows_k9 (a0 : Net) (a1 : Int) (r1 : Int × Int) (t180_1 : Bool) : Option Bool :=
  if t180_1 = true then
    some false
  else
    if a1 < 0 then
      top_TopFlows_k8 a0 a1 r1 true
    else
      top_TopFlows_k8 a0 a1 r1 ((decide (((a0.drains.length : Int)) ≤ a1)))
def top_TopFlows_k10 (a0 : Net) (a1 : Int) (r8 : (List Int) × Int) (r1 : Int × Int) (r9 : (List Int) × Int) (r10 : (List Int) × Int) (t130_1 : Bool) : Option Bool :=
  if t130_1 = true then
    some false
  else
    bnd (drain_Reverse a0) fun r11 =>
    bnd (drain_Least r11.1) fun r12 =>
    bnd (drain_Greatest r11.1) fun r13 =>
    if r11.2 = 0 then
      if r12.2 = 0 then
        if r13.2 = 0 then
          bnd (top_others a0.nodes r10.1) fun r14 =>
          bnd (ref01_SameInts r12.1 r14) fun r15 =>
          if r15 = true then
            bnd (top_others a0.nodes r9.1) fun r16 =>
            bnd (ref01_SameInts r13.1 r16) fun r17 =>
            if r17 = true then
              bnd (drain_CheckMost r11.1 r8.1 r12.1) fun r18 =>
              top_TopFlows_k9 a0 a1 r1 ((!(decide (r18 = 0))))
            else
              top_TopFlows_k9 a0 a1 r1 true
          else
            top_TopFlows_k9 a0 a1 r1 true
        else
          top_TopFlows_k9 a0 a1 r1 true
      else
        top_TopFlows_k9 a0 a1 r1 true
    else
      top_TopFlows_k9 a0 a1 r1 true
def top_TopFlows_k11 (a0 : Net) (a1 : Int) (r8 : (List Int) × Int) (r1 : Int × Int) (r9 : (List Int) × Int) (r10 : (List Int) × Int) (t106_1 : Bool) : Option Bool :=
  if t106_1 = true then
    some false
  else
    bnd (drain_Split a0 r8.1) fun r19 =>
    bnd (drain_Sum a0 r19.1) fun r20 =>
    if r19.2 = 0 then
      if r20.2 = 0 then
        bnd (ref01_SameInts r20.1 r8.1) fun r21 =>
        top_TopFlows_k10 a0 a1 r8 r1 r9 r10 ((!r21))
      else
        top_TopFlows_k10 a0 a1 r8 r1 r9 r10 true
    else
      top_TopFlows_k10 a0 a1 r8 r1 r9 r10 true
def top_TopFlows_k12 (a0 : Net) (a1 : Int) (r8 : (List Int) × Int) (r1 : Int × Int) (r9 : (List Int) × Int) (r10 : (List Int) × Int) (t93_1 : Bool) : Option Bool :=
  if t93_1 = true then
    some false
  else
    bnd (drain_CheckFlow a0 r8.1) fun r22 =>
    if r22.2 = 0 then
      top_TopFlows_k11 a0 a1 r8 r1 r9 r10 ((!(decide (r22.1 = r1.1))))
    else
      top_TopFlows_k11 a0 a1 r8 r1 r9 r10 true
def top_TopFlows_k13 (a0 : Net) (a1 : Int) (t45_1 : Bool) : Option Bool :=
  if t45_1 = true then
    some false
  else
    bnd (law02_Long a0) fun r23 =>
    if r23 = true then
      some true
    else
      bnd (drain_Flow a0) fun r8 =>
      if r8.2 = 0 then
        bnd (drain_Most a0) fun r1 =>
        bnd (drain_Least a0) fun r9 =>
        bnd (drain_Greatest a0) fun r10 =>
        if r1.2 = 0 then
          if r9.2 = 0 then
            if r10.2 = 0 then
              bnd (drain_CheckMost a0 r8.1 r9.1) fun r24 =>
              if r24 = 0 then
                bnd (drain_CheckMost a0 r8.1 r10.1) fun r25 =>
                top_TopFlows_k12 a0 a1 r8 r1 r9 r10 ((!(decide (r25 = 0))))
              else
                top_TopFlows_k12 a0 a1 r8 r1 r9 r10 true
            else
              top_TopFlows_k12 a0 a1 r8 r1 r9 r10 true
          else
            top_TopFlows_k12 a0 a1 r8 r1 r9 r10 true
        else
          top_TopFlows_k12 a0 a1 r8 r1 r9 r10 true
      else
        some true
def top_TopFlows (a0 : Net) (a1 : Int) : Option Bool :=
  bnd (drain_Most ((⟨2, 1, 0, ([(⟨1, 0, 4⟩ : Drain), (⟨0, 1, 9⟩ : Drain)] : List Drain)⟩ : Net))) fun r26 =>
  if r26.2 = 0 then
    top_TopFlows_k13 a0 a1 ((!(decide (r26.1 = 4))))
  else
    top_TopFlows_k13 a0 a1 true
end Go.D2
