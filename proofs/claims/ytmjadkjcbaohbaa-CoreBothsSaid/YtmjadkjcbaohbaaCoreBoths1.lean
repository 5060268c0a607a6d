/- Lemmas and walks that the proof of this claim uses: TbCoreA, TryShelf, TbCoreB0, TbCoreB, TbCoreSpec2, TbCoreC, TbCoreSpec3, TbCoreD, TbCoreSpec4, TbCoreMath, TbCoreMath2, TbCoreMath3, TbCoreMath4, TbCoreEq, D3libD, D3lib, D3m1D. -/
import Derived.Test.YtmjadkjcbaohbaaCoreBoths0
namespace Go.Core
open Go.Tb Go.Proofs
set_option linter.unusedVariables false
set_option linter.unusedSimpArgs false
theorem c59 : callable Try.prog 59 = true := by kernel_rfl
theorem c70 : callable Try.prog 70 = true := by kernel_rfl
theorem f24_0 : tyF Try.prog 24 0 = some 0 := by kernel_rfl
theorem f24_1 : tyF Try.prog 24 1 = some 1 := by kernel_rfl
theorem f26_0 : tyF Try.prog 26 0 = some 0 := by kernel_rfl
theorem f26_1 : tyF Try.prog 26 1 = some 1 := by kernel_rfl
theorem f26_2 : tyF Try.prog 26 2 = some 2 := by kernel_rfl
theorem f75_0 : tyF Try.prog 75 0 = some 0 := by kernel_rfl
theorem f75_1 : tyF Try.prog 75 1 = some 1 := by kernel_rfl
theorem k22 : tyK Try.prog 22 = some (false, 1) := by kernel_rfl
theorem k26 : tyK Try.prog 26 = some (true, 3) := by kernel_rfl
theorem k3 : tyK Try.prog 3 = some (false, 1) := by kernel_rfl
theorem k4 : tyK Try.prog 4 = some (false, 1) := by kernel_rfl
theorem k75 : tyK Try.prog 75 = some (true, 2) := by kernel_rfl
theorem mixed : Try.prog.follows .mixedOrders = true := by kernel_rfl
theorem s22 : tyS Try.prog 22 = some (26, 3, 24, [.int .i64 0, .int .i64 0, .int .i64 0]) := by kernel_rfl
theorem z26 : tyZ Try.prog 26 = some (.agg #[.int .i64 0, .int .i64 0, .int .i64 0]) := by kernel_rfl
theorem z75 : tyZ Try.prog 75 = some (.agg #[.bool false, .int .i64 0]) := by kernel_rfl
def tover (t o : Tight) : Tight := ⟨t.known && o.known, t.most + o.most⟩
def tighter (t o : Tight) : Tight := if !t.known || (o.known && decide (o.most < t.most)) then o else t
set_option maxRecDepth 20000 in
theorem core_within {n : Int} {lo : Int} {hi : Int} {w : World}  : Calls Try.prog 70 #[.int .i64 n, .int .i64 lo, .int .i64 hi] w (Ret w (.bool (within n lo hi))) := by
  refine calls_of_cw (args := [.int .i64 n, .int .i64 lo, .int .i64 hi]) Try.func70 rfl rfl rfl rfl ?_
  have H := Hp.start w
  have R0 := H.ext
  refine CW.seq fun K1 hK1 => ?_
  refine CW.region ?_
  refine LW.pure rfl rfl (RV.assign rfl) ?_
  refine LW.nil (hK1 _ _ ?_)
  refine CW.seq fun K2 hK2 => ?_
  refine CW.region ?_
  refine LW.pure rfl rfl (RV.move rfl) ?_
  refine LW.pure rfl rfl (RV.move rfl) ?_
  refine LW.pure rfl rfl (RV.geq rfl rfl) ?_
  refine LW.pure rfl rfl (RV.move rfl) ?_
  cases h1 : decide (lo ≤ n)
  ·
    have h1 := of_decide_eq_false h1
    refine LW.no rfl rfl rfl rfl rfl ?_
    refine LW.no rfl rfl rfl rfl rfl ?_
    refine LW.no rfl rfl rfl rfl rfl ?_
    refine LW.pure rfl rfl (RV.pickF rfl rfl) ?_
    refine LW.pure rfl rfl (RV.assign rfl) ?_
    refine LW.nil (hK2 _ _ ?_)
    refine CW.ret ?_
    refine ⟨_, (ResOK.one rfl), ?_⟩
    refine ⟨?_, R0⟩
    · simp [within, h1]
  ·
    have h1 := of_decide_eq_true h1
    refine LW.pureY rfl rfl rfl rfl (RV.move rfl) ?_
    refine LW.pureY rfl rfl rfl rfl (RV.move rfl) ?_
    refine LW.pureY rfl rfl rfl rfl (RV.leq rfl rfl) ?_
    refine LW.pure rfl rfl (RV.pickT rfl rfl) ?_
    refine LW.pure rfl rfl (RV.assign rfl) ?_
    refine LW.nil (hK2 _ _ ?_)
    refine CW.ret ?_
    refine ⟨_, (ResOK.one rfl), ?_⟩
    refine ⟨?_, R0⟩
    · simp [within, h1]
set_option maxRecDepth 20000 in
theorem core_right {x : Bound} {layers : Int} {w : World} (hl : 1 ≤ layers ∧ layers ≤ 8) : Calls Try.prog 59 #[.agg #[.int .i64 x.a, .int .i64 x.b, .int .i64 x.most], .int .i64 layers] w (Ret w (.bool (right x layers))) := by
  refine calls_of_cw (args := [.agg #[.int .i64 x.a, .int .i64 x.b, .int .i64 x.most], .int .i64 layers]) Try.func59 rfl rfl rfl rfl ?_
  have H := Hp.start w
  have R0 := H.ext
  refine CW.seq fun K1 hK1 => ?_
  refine CW.region ?_
  refine LW.go rfl rfl (OW.box rfl fun b1 w1 N1 => ?_)
  replace H : Hp w w1 [.blk b1 26 [.int .i64 x.a, .int .i64 x.b, .int .i64 x.most]] := H.new N1 N1.blk
  replace R0 := H.ext
  refine LW.pure rfl rfl (RV.assign rfl) ?_
  refine LW.nil (hK1 _ _ ?_)
  refine CW.seq fun K2 hK2 => ?_
  refine CW.region ?_
  refine LW.pure rfl rfl (RV.fieldAddr f26_0 rfl) ?_
  refine LW.pure rfl rfl (RV.load1 k3 rfl ((H.blk 0 rfl).cells.off 0) rfl) ?_
  refine LW.pure rfl rfl (RV.move rfl) ?_
  refine LW.pure rfl rfl (RV.sub rfl rfl (by omega)) ?_
  refine LW.go rfl rfl (OW.call c70 rfl (core_within (n := x.a) (lo := 0) (hi := layers - 1)) ?_)
  rintro _ w2 ⟨rfl, E1⟩
  refine ⟨_, rfl, ?_⟩
  replace H := H.grow E1
  replace R0 := H.ext
  refine LW.pure rfl rfl (RV.move rfl) ?_
  cases h1 : within x.a 0 (layers - 1)
  ·
    refine LW.no rfl rfl rfl rfl rfl ?_
    refine LW.no rfl rfl rfl rfl rfl ?_
    refine LW.no rfl rfl rfl rfl rfl ?_
    refine LW.no rfl rfl rfl rfl rfl ?_
    refine LW.no rfl rfl rfl rfl rfl ?_
    refine LW.pure rfl rfl (RV.pickF rfl rfl) ?_
    refine LW.pure rfl rfl (RV.move rfl) ?_
    refine LW.no rfl rfl rfl rfl rfl ?_
    refine LW.no rfl rfl rfl rfl rfl ?_
    refine LW.no rfl rfl rfl rfl rfl ?_
    refine LW.no rfl rfl rfl rfl rfl ?_
    refine LW.no rfl rfl rfl rfl rfl ?_
    refine LW.pure rfl rfl (RV.pickF rfl rfl) ?_
    refine LW.pure rfl rfl (RV.move rfl) ?_
    refine LW.no rfl rfl rfl rfl rfl ?_
    refine LW.no rfl rfl rfl rfl rfl ?_
    refine LW.no rfl rfl rfl rfl rfl ?_
    refine LW.pure rfl rfl (RV.pickF rfl rfl) ?_
    refine LW.pure rfl rfl (RV.assign rfl) ?_
    refine LW.nil (hK2 _ _ ?_)
    refine CW.ret ?_
    refine ⟨_, (ResOK.one rfl), ?_⟩
    refine ⟨?_, R0⟩
    · simp [right, h1]
  ·
    refine LW.pureY rfl rfl rfl rfl (RV.fieldAddr f26_1 rfl) ?_
    refine LW.pureY rfl rfl rfl rfl (RV.load1 k3 rfl ((H.blk 0 rfl).cells.off 1) rfl) ?_
    refine LW.pureY rfl rfl rfl rfl (RV.move rfl) ?_
    refine LW.pureY rfl rfl rfl rfl (RV.sub rfl rfl (by omega)) ?_
    refine LW.yes rfl rfl rfl rfl (OW.call c70 rfl (core_within (n := x.b) (lo := 0) (hi := layers - 1)) ?_)
    rintro _ w3 ⟨rfl, E2⟩
    refine ⟨_, rfl, ?_⟩
    replace H := H.grow E2
    replace R0 := H.ext
    refine LW.pure rfl rfl (RV.pickT rfl rfl) ?_
    refine LW.pure rfl rfl (RV.move rfl) ?_
    cases h2 : within x.b 0 (layers - 1)
    ·
      refine LW.no rfl rfl rfl rfl rfl ?_
      refine LW.no rfl rfl rfl rfl rfl ?_
      refine LW.no rfl rfl rfl rfl rfl ?_
      refine LW.no rfl rfl rfl rfl rfl ?_
      refine LW.no rfl rfl rfl rfl rfl ?_
      refine LW.pure rfl rfl (RV.pickF rfl rfl) ?_
      refine LW.pure rfl rfl (RV.move rfl) ?_
      refine LW.no rfl rfl rfl rfl rfl ?_
      refine LW.no rfl rfl rfl rfl rfl ?_
      refine LW.no rfl rfl rfl rfl rfl ?_
      refine LW.pure rfl rfl (RV.pickF rfl rfl) ?_
      refine LW.pure rfl rfl (RV.assign rfl) ?_
      refine LW.nil (hK2 _ _ ?_)
      refine CW.ret ?_
      refine ⟨_, (ResOK.one rfl), ?_⟩
      refine ⟨?_, R0⟩
      · simp [right, h1, h2]
    ·
      refine LW.pureY rfl rfl rfl rfl (RV.fieldAddr f26_0 rfl) ?_
      refine LW.pureY rfl rfl rfl rfl (RV.load1 k3 rfl ((H.blk 0 rfl).cells.off 0) rfl) ?_
      refine LW.pureY rfl rfl rfl rfl (RV.fieldAddr f26_1 rfl) ?_
      refine LW.pureY rfl rfl rfl rfl (RV.load1 k3 rfl ((H.blk 0 rfl).cells.off 1) rfl) ?_
      refine LW.pureY rfl rfl rfl rfl (RV.nei rfl rfl) ?_
      refine LW.pure rfl rfl (RV.pickT rfl rfl) ?_
      refine LW.pure rfl rfl (RV.move rfl) ?_
      cases h3 : !(decide (x.a = x.b))
      ·
        have h3 := (Bool.not_eq_false' _).mp h3
        have h3 := of_decide_eq_true h3
        refine LW.no rfl rfl rfl rfl rfl ?_
        refine LW.no rfl rfl rfl rfl rfl ?_
        refine LW.no rfl rfl rfl rfl rfl ?_
        refine LW.pure rfl rfl (RV.pickF rfl rfl) ?_
        refine LW.pure rfl rfl (RV.assign rfl) ?_
        refine LW.nil (hK2 _ _ ?_)
        refine CW.ret ?_
        refine ⟨_, (ResOK.one rfl), ?_⟩
        refine ⟨?_, R0⟩
        · simp [right, h1, h2, h3]
      ·
        have h3 := (Bool.not_eq_true' _).mp h3
        have h3 := of_decide_eq_false h3
        refine LW.pureY rfl rfl rfl rfl (RV.fieldAddr f26_2 rfl) ?_
        refine LW.pureY rfl rfl rfl rfl (RV.load1 k3 rfl ((H.blk 0 rfl).cells.off 2) rfl) ?_
        refine LW.yes rfl rfl rfl rfl (OW.call c70 rfl (core_within (n := x.most) (lo := -10000) (hi := 10000)) ?_)
        rintro _ w4 ⟨rfl, E3⟩
        refine ⟨_, rfl, ?_⟩
        replace H := H.grow E3
        replace R0 := H.ext
        refine LW.pure rfl rfl (RV.pickT rfl rfl) ?_
        refine LW.pure rfl rfl (RV.assign rfl) ?_
        refine LW.nil (hK2 _ _ ?_)
        refine CW.ret ?_
        refine ⟨_, (ResOK.one rfl), ?_⟩
        refine ⟨?_, R0⟩
        · simp [right, h1, h2, h3]
set_option maxRecDepth 20000 in
theorem core_Validate {c : Core} {A_c_bounds : Option Addr} {c_c_bounds : Nat} {w : World} (h_c_bounds : Sl w A_c_bounds c_c_bounds 3 (c.bounds.map encB)) : Calls Try.prog 36 #[.agg #[.int .i64 c.layers, .slice A_c_bounds c.bounds.length c_c_bounds]] w (Ret w (.int .i64 (validate c))) := by
  refine calls_of_cw (args := [.agg #[.int .i64 c.layers, .slice A_c_bounds c.bounds.length c_c_bounds]]) Try.func36 rfl rfl rfl rfl ?_
  have H := Hp.start w
  have R0 := H.ext
  refine CW.seq fun K1 hK1 => ?_
  refine CW.region ?_
  refine LW.go rfl rfl (OW.box rfl fun b1 w1 N1 => ?_)
  replace H : Hp w w1 [.blk b1 24 [.int .i64 c.layers, .slice A_c_bounds c.bounds.length c_c_bounds]] := H.new N1 N1.blk
  replace R0 := H.ext
  refine LW.pure rfl rfl (RV.assign rfl) ?_
  refine LW.nil (hK1 _ _ ?_)
  refine CW.seq fun K2 hK2 => ?_
  refine CW.seq fun K3 hK3 => ?_
  refine CW.region ?_
  refine LW.pure rfl rfl (RV.fieldAddr f24_0 rfl) ?_
  refine LW.pure rfl rfl (RV.load1 k3 rfl ((H.blk 0 rfl).cells.off 0) rfl) ?_
  refine LW.go rfl rfl (OW.call c70 rfl (core_within (n := c.layers) (lo := 1) (hi := 8)) ?_)
  rintro _ w2 ⟨rfl, E1⟩
  refine ⟨_, rfl, ?_⟩
  replace H := H.grow E1
  replace R0 := H.ext
  refine LW.pure rfl rfl (RV.not rfl) ?_
  refine LW.nil (hK3 _ _ ?_)
  refine CW.cond rfl (fun h1 => ?_) (fun h1 => ?_)
  ·
    have h1 := (Bool.not_eq_true' _).mp h1
    refine CW.seq fun K4 hK4 => ?_
    refine CW.region ?_
    refine LW.pure rfl rfl (RV.assign rfl) ?_
    refine LW.nil (hK4 _ _ ?_)
    refine CW.ret ?_
    refine ⟨_, (ResOK.one rfl), ?_⟩
    refine ⟨?_, R0⟩
    · simp [validate, h1]
  ·
    have h1 := (Bool.not_eq_false' _).mp h1
    have hly := within_iff.1 h1
    refine CW.skip (hK2 _ _ ?_)
    refine CW.seq fun K5 hK5 => ?_
    refine CW.seq fun K6 hK6 => ?_
    refine CW.region ?_
    refine LW.pure rfl rfl (RV.fieldAddr f24_1 rfl) ?_
    refine LW.pure rfl rfl (RV.load1 k22 rfl ((H.blk 0 rfl).cells.off 1) rfl) ?_
    refine LW.pure rfl rfl (RV.len s22 rfl) ?_
    refine LW.pure rfl rfl (RV.gtr rfl rfl) ?_
    refine LW.nil (hK6 _ _ ?_)
    refine CW.cond rfl (fun h2 => ?_) (fun h2 => ?_)
    ·
      have h2 := of_decide_eq_true h2
      refine CW.seq fun K7 hK7 => ?_
      refine CW.region ?_
      refine LW.pure rfl rfl (RV.assign rfl) ?_
      refine LW.nil (hK7 _ _ ?_)
      refine CW.ret ?_
      refine ⟨_, (ResOK.one rfl), ?_⟩
      refine ⟨?_, R0⟩
      · simp [validate, h1, h2]
    ·
      have h2 := of_decide_eq_false h2
      refine CW.skip (hK5 _ _ ?_)
      refine CW.seq fun K8 hK8 => ?_
      refine CW.seq fun K9 hK9 => ?_
      refine CW.region ?_
      refine LW.pure rfl rfl (RV.fieldAddr f24_1 rfl) ?_
      refine LW.pure rfl rfl (RV.load1 k22 rfl ((H.blk 0 rfl).cells.off 1) rfl) ?_
      refine LW.pure rfl rfl (RV.len s22 rfl) ?_
      refine LW.pure rfl rfl (RV.move rfl) ?_
      refine LW.nil (hK9 _ _ ?_)
      refine CW.block ?_
      refine CW.loop (fun meas ρ wl1 => ∃ (i : Nat), meas = c.bounds.length - i ∧ ρ = [(1, .pointer (some (⟨b1, 0, none⟩))), (14, .slice A_c_bounds c.bounds.length c_c_bounds), (15, .int .i64 (((c.bounds.length : Nat) : Int))), (16, .int .i64 (↑i))] ∧ Hp w wl1 [.blk b1 24 [.int .i64 c.layers, .slice A_c_bounds c.bounds.length c_c_bounds]] ∧ (i ≤ c.bounds.length ∧ ((c.bounds.take i).all (fun x => right x c.layers) = true))) (c.bounds.length - 0) ⟨_, ?_, 0, rfl, rfl, ?_, ?_⟩ ?_
      · exact ⟨rfl, rfl, rfl, look_int rfl (by first | rfl | omega | (simp; omega)), trivial⟩
      · exact H
      · simp
      rintro _ _ wl1 ⟨i, rfl, rfl, H, hI1⟩
      have R0 := H.ext
      refine CW.seq fun K10 hK10 => ?_
      refine CW.region ?_
      refine LW.pure rfl rfl (RV.lss rfl rfl) ?_
      refine LW.nil (hK10 _ _ ?_)
      refine CW.seq fun K11 hK11 => ?_
      refine CW.cond rfl (fun h3 => ?_) (fun h3 => ?_)
      ·
        have h3 := of_decide_eq_true h3
        refine CW.skip (hK11 _ _ ?_)
        refine CW.seq fun K12 hK12 => ?_
        refine CW.block ?_
        refine CW.seq fun K13 hK13 => ?_
        refine CW.region ?_
        have hb1 : 0 ≤ ((↑i) : Int) ∧ ((↑i) : Int) < ((c.bounds.length : Nat) : Int) := by omega
        obtain ⟨x1, hx1⟩ := ex_at (l := c.bounds) (j := i) (by first | omega | (simp; omega))
        refine LW.pure rfl rfl (RV.indexAddr s22 rfl rfl hb1 (h_c_bounds.addr hb1)) ?_
        refine LW.pure rfl rfl (RV.loadA [.int .i64 x1.a, .int .i64 x1.b, .int .i64 x1.most] k26 rfl ((h_c_bounds.at_ hx1).ext R0) rfl rfl) ?_
        refine LW.go rfl rfl (OW.alloc z26 fun b2 w3 N2 => ?_)
        replace H : Hp w w3 [.blk b2 26 [.int .i64 0, .int .i64 0, .int .i64 0], .blk b1 24 [.int .i64 c.layers, .slice A_c_bounds c.bounds.length c_c_bounds]] := H.new N2 N2.blk
        replace R0 := H.ext
        refine LW.go rfl rfl (OW.store k26 rfl rfl (H.blk 0 rfl) (off := 0) (vs := [.int .i64 x1.a, .int .i64 x1.b, .int .i64 x1.most]) rfl rfl rfl rfl rfl fun w4 S1 => ?_)
        replace H : Hp w w4 [.blk b2 26 [.int .i64 x1.a, .int .i64 x1.b, .int .i64 x1.most], .blk b1 24 [.int .i64 c.layers, .slice A_c_bounds c.bounds.length c_c_bounds]] := H.stored 0 rfl S1
        replace R0 := H.ext
        refine LW.nil (hK13 _ _ ?_)
        refine CW.seq fun K14 hK14 => ?_
        refine CW.region ?_
        refine LW.pure rfl rfl (RV.loadA [.int .i64 x1.a, .int .i64 x1.b, .int .i64 x1.most] k26 rfl (H.blk 0 rfl).cells rfl rfl) ?_
        refine LW.pure rfl rfl (RV.fieldAddr f24_0 rfl) ?_
        refine LW.pure rfl rfl (RV.load1 k3 rfl ((H.blk 1 rfl).cells.off 0) rfl) ?_
        refine LW.go rfl rfl (OW.call c59 rfl (core_right (x := x1) (layers := c.layers) (by assumption)) ?_)
        rintro _ w5 ⟨rfl, E2⟩
        refine ⟨_, rfl, ?_⟩
        replace H := H.grow E2
        replace R0 := H.ext
        refine LW.pure rfl rfl (RV.not rfl) ?_
        refine LW.nil (hK14 _ _ ?_)
        refine CW.cond rfl (fun h4 => ?_) (fun h4 => ?_)
        ·
          have h4 := (Bool.not_eq_true' _).mp h4
          refine CW.seq fun K15 hK15 => ?_
          refine CW.region ?_
          refine LW.pure rfl rfl (RV.assign rfl) ?_
          refine LW.nil (hK15 _ _ ?_)
          refine CW.ret ?_
          refine ⟨_, (ResOK.one rfl), ?_⟩
          refine ⟨?_, R0⟩
          · simp [validate, h1, h2, all_false_at (p := fun x => right x c.layers) hx1 h4]
        ·
          have h4 := (Bool.not_eq_false' _).mp h4
          refine CW.skip (hK12 _ _ ?_)
          refine CW.region ?_
          refine LW.pure rfl rfl (RV.add rfl rfl (by omega)) ?_
          refine LW.pure rfl rfl (RV.move rfl) ?_
          refine LW.nil ?_
          replace H : Hp w w5 [.blk b1 24 [.int .i64 c.layers, .slice A_c_bounds c.bounds.length c_c_bounds]] := H.pick [1] (by decide) rfl
          replace R0 := H.ext
          refine ⟨_, ?_, _, ?_, i + 1, rfl, rfl, ?_, ?_⟩
          · omega
          · exact ⟨rfl, rfl, rfl, look_int rfl (by first | rfl | omega | (simp; omega)), trivial⟩
          · exact H
          · exact ⟨by omega, all_take_succ hx1 hI1.2 h4⟩
      ·
        have h3 := of_decide_eq_false h3
        refine CW.exit (hK8 _ _ ?_)
        refine CW.seq fun K16 hK16 => ?_
        refine CW.region ?_
        refine LW.pure rfl rfl (RV.assign rfl) ?_
        refine LW.nil (hK16 _ _ ?_)
        refine CW.ret ?_
        refine ⟨_, (ResOK.one rfl), ?_⟩
        refine ⟨?_, R0⟩
        · simp only [validate, h1, h2, all_of_take h3 hI1.2]; simp
set_option maxRecDepth 20000 in
theorem core_over {t : Tight} {o : Tight} {w : World} (hb : -4611686018427387904 ≤ t.most ∧ t.most ≤ 4611686018427387903 ∧ -4611686018427387904 ≤ o.most ∧ o.most ≤ 4611686018427387903) : Calls Try.prog 92 #[.agg #[.bool t.known, .int .i64 t.most], .agg #[.bool o.known, .int .i64 o.most]] w (Ret w (.agg #[.bool ((tover t o).known), .int .i64 ((tover t o).most)])) := by
  refine calls_of_cw (args := [.agg #[.bool t.known, .int .i64 t.most], .agg #[.bool o.known, .int .i64 o.most]]) Try.func92 rfl rfl rfl rfl ?_
  have H := Hp.start w
  have R0 := H.ext
  refine CW.seq fun K1 hK1 => ?_
  refine CW.region ?_
  refine LW.go rfl rfl (OW.box rfl fun b1 w1 N1 => ?_)
  replace H : Hp w w1 [.blk b1 75 [.bool t.known, .int .i64 t.most]] := H.new N1 N1.blk
  replace R0 := H.ext
  refine LW.go rfl rfl (OW.box rfl fun b2 w2 N2 => ?_)
  replace H : Hp w w2 [.blk b2 75 [.bool o.known, .int .i64 o.most], .blk b1 75 [.bool t.known, .int .i64 t.most]] := H.new N2 N2.blk
  replace R0 := H.ext
  refine LW.go rfl rfl (OW.alloc z75 fun b3 w3 N3 => ?_)
  replace H : Hp w w3 [.blk b3 75 [.bool false, .int .i64 0], .blk b2 75 [.bool o.known, .int .i64 o.most], .blk b1 75 [.bool t.known, .int .i64 t.most]] := H.new N3 N3.blk
  replace R0 := H.ext
  refine LW.nil (hK1 _ _ ?_)
  refine CW.seq fun K2 hK2 => ?_
  refine CW.region ?_
  refine LW.pure rfl rfl (RV.fieldAddr f75_0 rfl) ?_
  refine LW.pure rfl rfl (RV.load1 k4 rfl ((H.blk 2 rfl).cells.off 0) rfl) ?_
  refine LW.pure rfl rfl (RV.move rfl) ?_
  cases h1 : t.known
  ·
    refine LW.no rfl rfl rfl rfl rfl ?_
    refine LW.no rfl rfl rfl rfl rfl ?_
    refine LW.pure rfl rfl (RV.pickF rfl rfl) ?_
    refine LW.pure rfl rfl (RV.fieldAddr f75_1 rfl) ?_
    refine LW.pure rfl rfl (RV.load1 k3 rfl ((H.blk 2 rfl).cells.off 1) rfl) ?_
    refine LW.pure rfl rfl (RV.fieldAddr f75_1 rfl) ?_
    refine LW.pure rfl rfl (RV.load1 k3 rfl ((H.blk 1 rfl).cells.off 1) rfl) ?_
    refine LW.pure rfl rfl (RV.add rfl rfl (by omega)) ?_
    refine LW.pure rfl rfl (RV.build (vs := [.bool false, .int .i64 (t.most + o.most)]) (cs := [.bool false, .int .i64 (t.most + o.most)]) rfl (fun _ => by kernel_rfl)) ?_
    refine LW.go rfl rfl (OW.store k75 rfl rfl (H.blk 0 rfl) (off := 0) (vs := [.bool false, .int .i64 (t.most + o.most)]) rfl rfl rfl rfl rfl fun w4 S1 => ?_)
    replace H : Hp w w4 [.blk b3 75 [.bool false, .int .i64 (t.most + o.most)], .blk b2 75 [.bool o.known, .int .i64 o.most], .blk b1 75 [.bool t.known, .int .i64 t.most]] := H.stored 0 rfl S1
    replace R0 := H.ext
    refine LW.nil (hK2 _ _ ?_)
    refine CW.ret ?_
    refine ⟨_, (ResOK.cell1 ⟨_, rfl, run_loadVar_agg k75 (H.blk 0 rfl).cells (us := [.bool false, .int .i64 (t.most + o.most)]) rfl rfl⟩), ?_⟩
    refine ⟨?_, R0⟩
    · simp [tover, h1]
  ·
    refine LW.pureY rfl rfl rfl rfl (RV.fieldAddr f75_0 rfl) ?_
    refine LW.pureY rfl rfl rfl rfl (RV.load1 k4 rfl ((H.blk 1 rfl).cells.off 0) rfl) ?_
    refine LW.pure rfl rfl (RV.pickT rfl rfl) ?_
    refine LW.pure rfl rfl (RV.fieldAddr f75_1 rfl) ?_
    refine LW.pure rfl rfl (RV.load1 k3 rfl ((H.blk 2 rfl).cells.off 1) rfl) ?_
    refine LW.pure rfl rfl (RV.fieldAddr f75_1 rfl) ?_
    refine LW.pure rfl rfl (RV.load1 k3 rfl ((H.blk 1 rfl).cells.off 1) rfl) ?_
    refine LW.pure rfl rfl (RV.add rfl rfl (by omega)) ?_
    refine LW.pure rfl rfl (RV.build (vs := [.bool o.known, .int .i64 (t.most + o.most)]) (cs := [.bool o.known, .int .i64 (t.most + o.most)]) rfl (fun _ => by kernel_rfl)) ?_
    refine LW.go rfl rfl (OW.store k75 rfl rfl (H.blk 0 rfl) (off := 0) (vs := [.bool o.known, .int .i64 (t.most + o.most)]) rfl rfl rfl rfl rfl fun w5 S2 => ?_)
    replace H : Hp w w5 [.blk b3 75 [.bool o.known, .int .i64 (t.most + o.most)], .blk b2 75 [.bool o.known, .int .i64 o.most], .blk b1 75 [.bool t.known, .int .i64 t.most]] := H.stored 0 rfl S2
    replace R0 := H.ext
    refine LW.nil (hK2 _ _ ?_)
    refine CW.ret ?_
    refine ⟨_, (ResOK.cell1 ⟨_, rfl, run_loadVar_agg k75 (H.blk 0 rfl).cells (us := [.bool o.known, .int .i64 (t.most + o.most)]) rfl rfl⟩), ?_⟩
    refine ⟨?_, R0⟩
    · simp [tover, h1]
set_option maxRecDepth 20000 in
theorem core_tighter {t : Tight} {o : Tight} {w : World}  : Calls Try.prog 91 #[.agg #[.bool t.known, .int .i64 t.most], .agg #[.bool o.known, .int .i64 o.most]] w (Ret w (.agg #[.bool ((tighter t o).known), .int .i64 ((tighter t o).most)])) := by
  refine calls_of_cw (args := [.agg #[.bool t.known, .int .i64 t.most], .agg #[.bool o.known, .int .i64 o.most]]) Try.func91 rfl rfl rfl rfl ?_
  have H := Hp.start w
  have R0 := H.ext
  refine CW.seq fun K1 hK1 => ?_
  refine CW.region ?_
  refine LW.go rfl rfl (OW.box rfl fun b1 w1 N1 => ?_)
  replace H : Hp w w1 [.blk b1 75 [.bool t.known, .int .i64 t.most]] := H.new N1 N1.blk
  replace R0 := H.ext
  refine LW.go rfl rfl (OW.box rfl fun b2 w2 N2 => ?_)
  replace H : Hp w w2 [.blk b2 75 [.bool o.known, .int .i64 o.most], .blk b1 75 [.bool t.known, .int .i64 t.most]] := H.new N2 N2.blk
  replace R0 := H.ext
  refine LW.go rfl rfl (OW.alloc z75 fun b3 w3 N3 => ?_)
  replace H : Hp w w3 [.blk b3 75 [.bool false, .int .i64 0], .blk b2 75 [.bool o.known, .int .i64 o.most], .blk b1 75 [.bool t.known, .int .i64 t.most]] := H.new N3 N3.blk
  replace R0 := H.ext
  refine LW.nil (hK1 _ _ ?_)
  refine CW.seq fun K2 hK2 => ?_
  refine CW.seq fun K3 hK3 => ?_
  refine CW.region ?_
  refine LW.pure rfl rfl (RV.fieldAddr f75_0 rfl) ?_
  refine LW.pure rfl rfl (RV.load1 k4 rfl ((H.blk 2 rfl).cells.off 0) rfl) ?_
  refine LW.pure rfl rfl (RV.not rfl) ?_
  refine LW.pure rfl rfl (RV.move rfl) ?_
  cases h1 : !t.known
  ·
    have h1 := (Bool.not_eq_false' _).mp h1
    refine LW.pureY rfl rfl rfl rfl (RV.fieldAddr f75_0 rfl) ?_
    refine LW.pureY rfl rfl rfl rfl (RV.load1 k4 rfl ((H.blk 1 rfl).cells.off 0) rfl) ?_
    refine LW.pureY rfl rfl rfl rfl (RV.move rfl) ?_
    cases h2 : o.known
    ·
      refine LW.no rfl rfl rfl rfl rfl ?_
      refine LW.no rfl rfl rfl rfl rfl ?_
      refine LW.no rfl rfl rfl rfl rfl ?_
      refine LW.no rfl rfl rfl rfl rfl ?_
      refine LW.no rfl rfl rfl rfl rfl ?_
      refine LW.pureY rfl rfl rfl rfl (RV.pickF rfl rfl) ?_
      refine LW.pure rfl rfl (RV.pickF rfl rfl) ?_
      refine LW.nil (hK3 _ _ ?_)
      refine CW.cond rfl (fun h => by cases h) (fun _ => ?_)
      refine CW.skip (hK2 _ _ ?_)
      refine CW.seq fun K4 hK4 => ?_
      refine CW.region ?_
      refine LW.pure rfl rfl (RV.loadA [.bool t.known, .int .i64 t.most] k75 rfl (H.blk 2 rfl).cells rfl rfl) ?_
      refine LW.go rfl rfl (OW.store k75 rfl rfl (H.blk 0 rfl) (off := 0) (vs := [.bool t.known, .int .i64 t.most]) rfl rfl rfl rfl rfl fun w4 S1 => ?_)
      replace H : Hp w w4 [.blk b3 75 [.bool t.known, .int .i64 t.most], .blk b2 75 [.bool o.known, .int .i64 o.most], .blk b1 75 [.bool t.known, .int .i64 t.most]] := H.stored 0 rfl S1
      replace R0 := H.ext
      refine LW.nil (hK4 _ _ ?_)
      refine CW.ret ?_
      refine ⟨_, (ResOK.cell1 ⟨_, rfl, run_loadVar_agg k75 (H.blk 0 rfl).cells (us := [.bool t.known, .int .i64 t.most]) rfl rfl⟩), ?_⟩
      refine ⟨?_, R0⟩
      · simp [tighter, h1, h2]
    ·
      refine LW.pureY rfl rfl rfl rfl (RV.fieldAddr f75_1 rfl) ?_
      refine LW.pureY rfl rfl rfl rfl (RV.load1 k3 rfl ((H.blk 1 rfl).cells.off 1) rfl) ?_
      refine LW.pureY rfl rfl rfl rfl (RV.fieldAddr f75_1 rfl) ?_
      refine LW.pureY rfl rfl rfl rfl (RV.load1 k3 rfl ((H.blk 2 rfl).cells.off 1) rfl) ?_
      refine LW.pureY rfl rfl rfl rfl (RV.lss rfl rfl) ?_
      refine LW.pureY rfl rfl rfl rfl (RV.pickT rfl rfl) ?_
      refine LW.pure rfl rfl (RV.pickF rfl rfl) ?_
      refine LW.nil (hK3 _ _ ?_)
      refine CW.cond rfl (fun h3 => ?_) (fun h3 => ?_)
      ·
        have h3 := of_decide_eq_true h3
        refine CW.seq fun K5 hK5 => ?_
        refine CW.region ?_
        refine LW.pure rfl rfl (RV.loadA [.bool o.known, .int .i64 o.most] k75 rfl (H.blk 1 rfl).cells rfl rfl) ?_
        refine LW.go rfl rfl (OW.store k75 rfl rfl (H.blk 0 rfl) (off := 0) (vs := [.bool o.known, .int .i64 o.most]) rfl rfl rfl rfl rfl fun w5 S2 => ?_)
        replace H : Hp w w5 [.blk b3 75 [.bool o.known, .int .i64 o.most], .blk b2 75 [.bool o.known, .int .i64 o.most], .blk b1 75 [.bool t.known, .int .i64 t.most]] := H.stored 0 rfl S2
        replace R0 := H.ext
        refine LW.nil (hK5 _ _ ?_)
        refine CW.ret ?_
        refine ⟨_, (ResOK.cell1 ⟨_, rfl, run_loadVar_agg k75 (H.blk 0 rfl).cells (us := [.bool o.known, .int .i64 o.most]) rfl rfl⟩), ?_⟩
        refine ⟨?_, R0⟩
        · simp [tighter, h1, h2, h3]
      ·
        have h3 := of_decide_eq_false h3
        refine CW.skip (hK2 _ _ ?_)
        refine CW.seq fun K6 hK6 => ?_
        refine CW.region ?_
        refine LW.pure rfl rfl (RV.loadA [.bool t.known, .int .i64 t.most] k75 rfl (H.blk 2 rfl).cells rfl rfl) ?_
        refine LW.go rfl rfl (OW.store k75 rfl rfl (H.blk 0 rfl) (off := 0) (vs := [.bool t.known, .int .i64 t.most]) rfl rfl rfl rfl rfl fun w6 S3 => ?_)
        replace H : Hp w w6 [.blk b3 75 [.bool t.known, .int .i64 t.most], .blk b2 75 [.bool o.known, .int .i64 o.most], .blk b1 75 [.bool t.known, .int .i64 t.most]] := H.stored 0 rfl S3
        replace R0 := H.ext
        refine LW.nil (hK6 _ _ ?_)
        refine CW.ret ?_
        refine ⟨_, (ResOK.cell1 ⟨_, rfl, run_loadVar_agg k75 (H.blk 0 rfl).cells (us := [.bool t.known, .int .i64 t.most]) rfl rfl⟩), ?_⟩
        refine ⟨?_, R0⟩
        · simp [tighter, h1, h2, h3]
  ·
    have h1 := (Bool.not_eq_true' _).mp h1
    refine LW.no rfl rfl rfl rfl rfl ?_
    refine LW.no rfl rfl rfl rfl rfl ?_
    refine LW.no rfl rfl rfl rfl rfl ?_
    refine LW.noU rfl rfl rfl rfl ?_
    refine LW.noU rfl rfl rfl rfl ?_
    refine LW.noU rfl rfl rfl rfl ?_
    refine LW.noU rfl rfl rfl rfl ?_
    refine LW.noU rfl rfl rfl rfl ?_
    refine LW.no rfl rfl rfl rfl rfl ?_
    refine LW.pure rfl rfl (RV.pickT rfl rfl) ?_
    refine LW.nil (hK3 _ _ ?_)
    refine CW.cond rfl (fun _ => ?_) (fun h => by cases h)
    refine CW.seq fun K7 hK7 => ?_
    refine CW.region ?_
    refine LW.pure rfl rfl (RV.loadA [.bool o.known, .int .i64 o.most] k75 rfl (H.blk 1 rfl).cells rfl rfl) ?_
    refine LW.go rfl rfl (OW.store k75 rfl rfl (H.blk 0 rfl) (off := 0) (vs := [.bool o.known, .int .i64 o.most]) rfl rfl rfl rfl rfl fun w7 S4 => ?_)
    replace H : Hp w w7 [.blk b3 75 [.bool o.known, .int .i64 o.most], .blk b2 75 [.bool o.known, .int .i64 o.most], .blk b1 75 [.bool t.known, .int .i64 t.most]] := H.stored 0 rfl S4
    replace R0 := H.ext
    refine LW.nil (hK7 _ _ ?_)
    refine CW.ret ?_
    refine ⟨_, (ResOK.cell1 ⟨_, rfl, run_loadVar_agg k75 (H.blk 0 rfl).cells (us := [.bool o.known, .int .i64 o.most]) rfl rfl⟩), ?_⟩
    refine ⟨?_, R0⟩
    · simp [tighter, h1]
end Go.Core

/-
  DERIVED: THE SHELF's CONTRACTS AT THIS DUMP, IN PLAIN WORDS (tools/lay-plain.mjs out of 'TryShelf.lean', which tools/lay-shelf.mjs wrote): THE SAME DECLARATIONS UNDER THE SAME NAMES: 'import', 'namespace', 'open', 'def', 'theorem' AND NOTHING ELSE: no command of the shelf's: FOR A HAND-IN. Each laying: the table of numbers ('.._ren') and one theorem, a field a fact of the dump's own or the kernel's comparison; each contract: ONE APPLICATION.
-/
namespace Go.Proofs
open Go.Shelf
def Try.lays264_ren : Go.Shelf.Ren := ⟨fun | 264 => 101 | n => n, fun | 53 => 122 | 46 => 112 | n => n, fun | n => n⟩
theorem Try.lays264 : Go.Proofs.Lays.n264 Try.prog Try.lays264_ren := {
  mixed := by kernel_rfl
  f264 := Try.func101.trans (congrArg some (by kernel_rfl))
  t46 := Try.underlying112
  a46 := Try.isAgg112
  z46 := Try.sizeOf112
  v46 := Try.zeroValue112
  t53 := Try.underlying122
  a53 := Try.isAgg122
  z53 := Try.sizeOf122
  v53 := Try.zeroValue122 }
open Go.RowKit Go.Lib in
theorem Try.bits_Mul64 (x y : Nat) (hx : x < 18446744073709551616) (hy : y < 18446744073709551616) (w : World) :
    Calls Try.prog 101 #[.int .u64 x, .int .u64 y] w fun e w' => e = .returned (.tuple #[.int .u64 ((x * y / 18446744073709551616 : Nat) : Int), .int .u64 ((x * y % 18446744073709551616 : Nat) : Int)]) ∧ w' = w := Any.bits_Mul64 Try.lays264 x y hx hy w
def Try.lays212_ren : Go.Shelf.Ren := ⟨fun | 212 => 95 | 263 => 100 | 264 => 101 | n => n, fun | 46 => 112 | 51 => 119 | 146 => 120 | 53 => 122 | 148 => 123 | n => n, fun | n => n⟩
theorem Try.lays212 : Go.Proofs.Lays.n212 Try.prog Try.lays212_ren := {
  mixed := by kernel_rfl
  f212 := Try.func95.trans (congrArg some (by kernel_rfl))
  f263 := Try.func100.trans (congrArg some (by kernel_rfl))
  f264 := Try.func101.trans (congrArg some (by kernel_rfl))
  t46 := Try.underlying112
  a46 := Try.isAgg112
  z46 := Try.sizeOf112
  v46 := Try.zeroValue112
  t51 := Try.underlying119
  a51 := Try.isAgg119
  z51 := Try.sizeOf119
  v51 := Try.zeroValue119
  t53 := Try.underlying122
  a53 := Try.isAgg122
  z53 := Try.sizeOf122
  v53 := Try.zeroValue122
  t146 := Try.underlying120
  a146 := Try.isAgg120
  z146 := Try.sizeOf120
  v146 := Try.zeroValue120
  t148 := Try.underlying123
  a148 := Try.isAgg123
  z148 := Try.sizeOf123
  v148 := Try.zeroValue123 }
open Go.RowKit Go.Lib in
/-- math/bits.Mul: "Mul returns the full-width product of x and y": on a machine of 64 bits: Mul64's. (LAID: no walk: one application.) -/
theorem Try.bits_Mul (x y : Nat) (hx : x < 18446744073709551616) (hy : y < 18446744073709551616) (w : World) :
    Calls Try.prog 95 #[.int .u64 x, .int .u64 y] w fun e w' => e = .returned (.tuple #[.int .u64 ((x * y / 18446744073709551616 : Nat) : Int), .int .u64 ((x * y % 18446744073709551616 : Nat) : Int)]) ∧ w' = w := Any.bits_Mul Try.lays212 x y hx hy w
def Try.lays112_ren : Go.Shelf.Ren := ⟨fun | 112 => 73 | n => n, fun | 28 => 43 | 3 => 3 | 4 => 4 | 0 => 0 | n => n, fun | n => n⟩
theorem Try.lays112 : Go.Proofs.Lays.n112 Try.prog Try.lays112_ren := {
  mixed := by kernel_rfl
  f112 := Try.func73.trans (congrArg some (by kernel_rfl))
  t0 := Try.underlying0
  a0 := Try.isAgg0
  z0 := Try.sizeOf0
  v0 := Try.zeroValue0
  t3 := Try.underlying3
  a3 := Try.isAgg3
  z3 := Try.sizeOf3
  v3 := Try.zeroValue3
  t4 := Try.underlying4
  a4 := Try.isAgg4
  z4 := Try.sizeOf4
  v4 := Try.zeroValue4
  t28 := Try.underlying43
  a28 := Try.isAgg43
  z28 := Try.sizeOf43
  v28 := Try.zeroValue43 }
open Go.RowKit Go.Lib Go.Sort in
/-- slices.Reverse at []int, over an array: Go's loop from the two ends inward is walked; it makes 'Sort.reverseLoop 0 (len - 1)', which is 'Array.reverse' (Derived/Lib/SlicesMore.lean). (LAID: no walk: one application.) -/
theorem Try.slices_Reverse_int_arr (blk off cap : Nat) (d : Array Int) (w : World) (hH : Holds encI w blk off d) (hsz : d.size ≤ 9223372036854775807) :
    Calls Try.prog 73 #[.slice (some ⟨blk, off, none⟩) d.size cap] w fun e w' => e = .returned (.tuple #[]) ∧ ∃ n, w' = putRow encI (Sort.ahead w n) blk off d.reverse := Any.slices_Reverse_int_arr Try.lays112 blk off cap d w hH hsz
open Go.RowKit Go.Lib Go.Sort in
/-- slices.Reverse at []int: "Reverse reverses the elements of the slice in place.": THE SLICE's CELLS HOLD 'zs.reverse' BEHIND THE CALL; all else is as it was, but for the count of draws (the exchange 's[i], s[j] = s[j], s[i]' draws its order, once a round). IN THE WORDS OF slices.Sort's CONTRACT: 'Holds': the cells hold zs and none is frozen; 'putRow': the world with those cells holding another array. A slice of length 0 that is not nil is among them ('zs = []'); nil: '.._nil'. (LAID: no walk: one application.) -/
theorem Try.slices_Reverse_int (blk off cap : Nat) (zs : List Int) (w : World) (hH : Holds (Value.int .i64) w blk off zs.toArray) (hsz : zs.length ≤ 9223372036854775807) :
    Calls Try.prog 73 #[.slice (some ⟨blk, off, none⟩) zs.length cap] w fun e w' => e = .returned (.tuple #[]) ∧ ∃ n, w' = putRow (Value.int .i64) (Sort.ahead w n) blk off zs.reverse.toArray := Any.slices_Reverse_int Try.lays112 blk off cap zs w hH hsz
open Go.RowKit Go.Lib Go.Sort in
/-- The same at a slice of length 0, a nil one too: nothing is read, nothing written, nothing drawn. (LAID: no walk: one application.) -/
theorem Try.slices_Reverse_int_empty (a : Option Addr) (cap : Nat) (w : World) :
    Calls Try.prog 73 #[.slice a 0 cap] w fun e w' => e = .returned (.tuple #[]) ∧ w' = w := Any.slices_Reverse_int_empty Try.lays112 a cap w
end Go.Proofs

namespace Go.Core
open Go.Tb Go.Proofs
set_option linter.unusedVariables false
set_option linter.unusedSimpArgs false
theorem c95 : callable Try.prog 95 = true := by kernel_rfl
theorem s43 : tyS Try.prog 43 = some (3, 1, 8, [.int .i64 0]) := by kernel_rfl
theorem u112 : Try.prog.underlying 112 = some (.int .u64) := by kernel_rfl
theorem u112s : (Try.prog.underlying 112).isSome = true := by kernel_rfl
theorem u3 : Try.prog.underlying 3 = some (.int .i64) := by kernel_rfl
theorem u3s : (Try.prog.underlying 3).isSome = true := by kernel_rfl
theorem bits_Mul {x : Int} {y : Int} {w : World} (hx : 0 ≤ x ∧ x ≤ 1000) (hy : 0 ≤ y ∧ y ≤ 1000) : Calls Try.prog 95 #[.int .u64 x, .int .u64 y] w (Ret w (.tuple #[.int .u64 0, .int .u64 (x * y)])) := by
  obtain ⟨a, rfl⟩ := Int.eq_ofNat_of_zero_le hx.1
  obtain ⟨b, rfl⟩ := Int.eq_ofNat_of_zero_le hy.1
  have ha : a ≤ 1000 := by omega
  have hb : b ≤ 1000 := by omega
  have hab : a * b ≤ 1000000 := Nat.mul_le_mul ha hb
  refine (Try.bits_Mul a b (by omega) (by omega) w).mono fun e w' ⟨he, hw⟩ => ?_
  subst hw
  refine ⟨?_, Ext.refl _⟩
  rw [he, Nat.div_eq_of_lt (by omega), Nat.mod_eq_of_lt (by omega)]
  simp
set_option maxRecDepth 20000 in
theorem slices_Repeat0 {x : List Int} {A_x : Option Addr} {c_x : Nat} {count : Int} {v : Int} {w : World} (h_x : Sl w A_x c_x 1 (x.map encI)) (hx : x = [v]) (hc : 1 ≤ count ∧ count ≤ 8) : Calls Try.prog 87 #[.slice A_x x.length c_x, .int .i64 count] w (fun e w' => ∃ (b0 : Nat), e = .returned (.slice (some ⟨b0, 0, none⟩) ((List.replicate (Int.toNat count) v).length) ((List.replicate (Int.toNat count) v).length)) ∧ Blk w' b0 3 ((List.replicate (Int.toNat count) v).flatMap encI) ∧ w.heap.size ≤ b0 ∧ Ext w w') := by
  refine calls_of_cw (args := [.slice A_x x.length c_x, .int .i64 count]) Try.func87 rfl rfl rfl rfl ?_
  have R0 := Ext.refl w
  have hxl : (x.length : Int) = 1 := by rw [hx]; rfl
  refine CW.seq fun K1 hK1 => ?_
  refine CW.region ?_
  refine LW.pure rfl rfl (RV.assign rfl) ?_
  refine LW.nil (hK1 _ _ ?_)
  refine CW.seq fun K2 hK2 => ?_
  refine CW.seq fun K3 hK3 => ?_
  refine CW.region ?_
  refine LW.pure rfl rfl (RV.move rfl) ?_
  refine LW.pure rfl rfl (RV.lss rfl rfl) ?_
  refine LW.nil (hK3 _ _ ?_)
  refine CW.cond rfl (fun h1 => ?_) (fun h1 => ?_)
  ·
    have h1 := of_decide_eq_true h1
    exfalso; omega
  ·
    have h1 := of_decide_eq_false h1
    refine CW.skip (hK2 _ _ ?_)
    refine CW.seq fun K4 hK4 => ?_
    refine CW.region ?_
    refine LW.pure rfl rfl (RV.move rfl) ?_
    refine LW.pure rfl rfl (RV.len s43 rfl) ?_
    refine LW.pure rfl rfl (RV.convII u3s u112 rfl (IntWalk.u64_in _ (by omega))) ?_
    refine LW.pure rfl rfl (RV.move rfl) ?_
    refine LW.pure rfl rfl (RV.convII u3s u112 rfl (IntWalk.u64_in _ (by omega))) ?_
    refine LW.go rfl rfl (OW.call c95 rfl (bits_Mul (x := ((x.length : Nat) : Int)) (y := count) (by omega) (by omega)) ?_)
    rintro _ w1 ⟨rfl, E1⟩
    refine ⟨_, rfl, ?_⟩
    have R0 := R0.trans E1
    rw [show ((x.length : Int) * count) = count from by rw [hxl, Int.one_mul]]
    refine LW.pure rfl rfl (RV.move rfl) ?_
    refine LW.pure rfl rfl (RV.extract rfl rfl) ?_
    refine LW.pure rfl rfl (RV.extract rfl rfl) ?_
    refine LW.pure rfl rfl (RV.assign rfl) ?_
    refine LW.pure rfl rfl (RV.assign rfl) ?_
    refine LW.nil (hK4 _ _ ?_)
    refine CW.seq fun K5 hK5 => ?_
    refine CW.seq fun K6 hK6 => ?_
    refine CW.region ?_
    refine LW.pure rfl rfl (RV.move rfl) ?_
    refine LW.pure rfl rfl (RV.gtr rfl rfl) ?_
    refine LW.pure rfl rfl (RV.move rfl) ?_
    cases h2 : decide (0 < 0)
    ·
      have h2 := of_decide_eq_false h2
      refine LW.pureY rfl rfl rfl rfl (RV.move rfl) ?_
      refine LW.pureY rfl rfl rfl rfl (RV.gtr rfl rfl) ?_
      refine LW.pure rfl rfl (RV.pickF rfl rfl) ?_
      refine LW.nil (hK6 _ _ ?_)
      refine CW.cond rfl (fun h3 => ?_) (fun h3 => ?_)
      ·
        have h3 := of_decide_eq_true h3
        exfalso; omega
      ·
        have h3 := of_decide_eq_false h3
        refine CW.skip (hK5 _ _ ?_)
        refine CW.seq fun K7 hK7 => ?_
        refine CW.region ?_
        refine LW.pure rfl rfl (RV.move rfl) ?_
        refine LW.pure rfl rfl (RV.convII u112s u3 rfl (IntWalk.i64_in _ (by omega))) ?_
        refine LW.go rfl rfl (OW.makeL (enc := encI) 0 s43 rfl rfl rfl rfl rfl (by omega) (by omega) (by omega) fun b1 w2 N1 => ?_)
        have Gb1 : w.heap.size ≤ b1 := N1.ge R0
        have R0 := R0.trans N1.ext
        have Bb1 : Blk w2 b1 3 ((List.replicate (Int.toNat count) 0).flatMap encI) := N1.blk
        refine LW.pure rfl rfl (RV.assign rfl) ?_
        refine LW.nil (hK7 _ _ ?_)
        refine CW.seq fun K8 hK8 => ?_
        refine CW.region ?_
        refine LW.pure rfl rfl (RV.move rfl) ?_
        refine LW.pure rfl rfl (RV.move rfl) ?_
        have hov : over ((List.replicate (Int.toNat count) 0).flatMap encI) 0 [Value.int .i64 v] = (List.replicate 1 v ++ List.replicate (Int.toNat count - 1) 0).flatMap encI := by
          obtain ⟨k, hk⟩ : ∃ k, Int.toNat count = k + 1 := ⟨Int.toNat count - 1, by omega⟩
          rw [hk]; simp [over, List.replicate_succ, encI]
        refine LW.go rfl rfl (OW.copy1 (o := 0) (vs := [.int .i64 v]) s43 rfl (rfl) rfl Bb1 (by simp [encI]) (by simp; omega) (fun _ => by obtain ⟨a, ha⟩ := (h_x.addr (i := 0) (by omega)); exact ⟨a, ha, fun j u hj => by have := (h_x.ext R0).at_ (j := 0) (x := v) (by rw [hx]; rfl); subst ha; simpa [elemPtr, encI, Addr.add] using this j u (by simpa [encI] using hj)⟩) (rfl) fun w3 S1 => ?_)
        have R0 := R0.stored S1 Gb1
        have Bb1 : Blk w3 b1 3 ((List.replicate 1 v ++ List.replicate (Int.toNat count - 1) 0).flatMap encI) := by have h := S1.blk; rw [hov] at h; exact h
        refine LW.pure rfl rfl (RV.assign rfl) ?_
        refine LW.nil (hK8 _ _ ?_)
        refine CW.seq fun K9 hK9 => ?_
        refine CW.block ?_
        refine CW.loop (fun meas ρ wl1 => ∃ (m : Nat), meas = Int.toNat count - m ∧ ρ = [(4, .slice none 0 0), (7, .slice (some ⟨b1, 0, none⟩) (Int.toNat count) (Int.toNat count)), (8, .int .i64 (↑m))] ∧ Ext w wl1 ∧ Blk wl1 b1 3 ((List.replicate m v ++ List.replicate (Int.toNat count - m) 0).flatMap encI) ∧ (1 ≤ m ∧ m ≤ Int.toNat count)) (Int.toNat count - 1) ⟨_, ?_, 1, rfl, rfl, R0, Bb1, ?_⟩ ?_
        · exact ⟨rfl, rfl, look_int rfl (by first | rfl | omega | (simp; omega)), trivial⟩
        · omega
        rintro _ _ wl1 ⟨m, rfl, rfl, R0, Bb1, hI1⟩
        refine CW.seq fun K10 hK10 => ?_
        refine CW.seq fun K11 hK11 => ?_
        refine CW.region ?_
        refine LW.pure rfl rfl (RV.move rfl) ?_
        refine LW.pure rfl rfl (RV.move rfl) ?_
        refine LW.pure rfl rfl (RV.len s43 rfl) ?_
        refine LW.pure rfl rfl (RV.lss rfl rfl) ?_
        refine LW.nil (hK11 _ _ ?_)
        refine CW.cond rfl (fun h4 => ?_) (fun h4 => ?_)
        ·
          have h4 := of_decide_eq_true h4
          refine CW.skip (hK10 _ _ ?_)
          refine CW.block ?_
          refine CW.draw [7] (fun _ => True) (.cons 0 2 (.cons 1 2 (.cons 2 2 (.cons 3 1 (.cons 4 2 (.cons 5 2 (.cons 6 1 (.cons 7 0 (.cons 8 2 (.cons 9 2 (.nil))))))))))) mixed (by kernel_rfl) fun w4 E2 => ?_
          have R0 := R0.trans E2
          have Bb1 := Bb1.ext E2
          refine DW.thru rfl rfl rfl (fun _ EQ => RV.move rfl) ?_
          refine DW.thru rfl rfl rfl (fun _ EQ => RV.move rfl) ?_
          refine DW.thru rfl rfl rfl (fun _ EQ => RV.move rfl) ?_
          refine DW.fix rfl rfl rfl (fun _ EQ => RV.sliceLoO s43 rfl rfl (by omega) (by omega) (by omega)) ?_
          refine DW.thru rfl rfl rfl (fun _ EQ => RV.move rfl) ?_
          refine DW.thru rfl rfl rfl (fun _ EQ => RV.move rfl) ?_
          refine DW.fix rfl rfl rfl (fun _ EQ => RV.sliceHi s43 rfl rfl (by omega)) ?_
          have hsrc := fill_src (enc := encI) (u := .int .i64 v) rfl Bb1
          refine DW.sole rfl rfl rfl (OW.copy1 (o := m) (vs := List.replicate (min m (Int.toNat count - m)) (.int .i64 v)) s43 rfl (by simp) rfl Bb1 (by rw [len_flatMap (k := 1) (fun _ => rfl)]; simp <;> omega) (by simp) (fun _ => ⟨_, rfl, fun j u hj => hsrc j u hj⟩) (by simp [List.all_eq_true, Value.oneCell']) fun w5 S2 => ?_)
          refine ⟨fun h => absurd h (by decide), S2.modx trivial, ?_⟩
          have R0 := R0.stored S2 Gb1
          have Bb1 : Blk w5 b1 3 ((List.replicate (m + min m (Int.toNat count - m)) v ++ List.replicate (Int.toNat count - (m + min m (Int.toNat count - m))) 0).flatMap encI) := by have h := S2.blk; rw [repeat_step (enc := encI) (u := .int .i64 v) rfl 0 (Int.toNat count) m rfl (by omega)] at h; exact h
          refine DW.thru rfl rfl rfl (fun _ EQ => RV.add rfl rfl (by omega)) ?_
          refine DW.thru rfl rfl rfl (fun _ EQ => RV.assign rfl) ?_
          refine DW.nil ?_
          refine ⟨_, ?_, _, ?_, m + min m (Int.toNat count - m), rfl, rfl, R0, Bb1, ?_⟩
          · omega
          · exact ⟨rfl, rfl, look_int rfl (by first | rfl | omega | (simp; omega)), trivial⟩
          · omega
        ·
          have h4 := of_decide_eq_false h4
          refine CW.exit (hK9 _ _ ?_)
          refine CW.seq fun K12 hK12 => ?_
          refine CW.region ?_
          refine LW.pure rfl rfl (RV.move rfl) ?_
          refine LW.pure rfl rfl (RV.assign rfl) ?_
          refine LW.nil (hK12 _ _ ?_)
          refine CW.ret ?_
          refine ⟨_, (ResOK.one rfl), ?_⟩
          refine ⟨b1, ?_, ?_, ?_, R0⟩
          · simp
          · have e : m = Int.toNat count := by omega
            subst e; simpa using Bb1
          · exact Gb1
    ·
      have h2 := of_decide_eq_true h2
      exfalso; simp at h2
end Go.Core

namespace Go.Core
open Go.Tb Go.Proofs
set_option linter.unusedVariables false
set_option linter.unusedSimpArgs false
theorem c87 : callable Try.prog 87 = true := by kernel_rfl
theorem slices_Repeat {x : List Int} {A_x : Option Addr} {c_x : Nat} {count : Int} {v : Int} {w : World} (h_x : Sl w A_x c_x 1 (x.map encI)) (hx : x = [v]) (hc : 1 ≤ count ∧ count ≤ 8) : Calls Try.prog 87 #[.slice A_x x.length c_x, .int .i64 count] w (fun e w' => ∃ (A0 : Option Addr) (c0 : Nat), e = .returned (.slice A0 ((List.replicate (Int.toNat count) v).length) c0) ∧ Hp w w' [.own A0 c0 3 1 (List.map encI ((List.replicate (Int.toNat count) v)))]) := by
  refine (slices_Repeat0 h_x hx hc).mono fun e w' ⟨b, he, hB, hG, hE⟩ => ⟨some ⟨b, 0, none⟩, (List.replicate (Int.toNat count) v).length, he, ?_⟩
  exact (Hp.start w).newOwn hE (Blk.own_ hB (fun _ => rfl) (by simp; omega)) (by intro a ha; cases ha; exact hG)
set_option maxRecDepth 20000 in
theorem core_relax {c : Core} {A_c_bounds : Option Addr} {c_c_bounds : Nat} {w : World} (h_c_bounds : Sl w A_c_bounds c_c_bounds 3 (c.bounds.map encB)) (hv : validate c = 0) : Calls Try.prog 72 #[.agg #[.int .i64 c.layers, .slice A_c_bounds c.bounds.length c_c_bounds]] w (fun e w' => ∃ (A0 : Option Addr) (c0 : Nat) (A1 : Option Addr) (c1 : Nat), e = .returned (.tuple #[.slice A0 (((relax c).1).length) c0, .slice A1 (((relax c).2.1).length) c1, .int .i64 ((relax c).2.2)]) ∧ Hp w w' [.own A0 c0 3 1 (List.map encI (((relax c).1))), .own A1 c1 3 1 (List.map encI (((relax c).2.1)))]) := by
  refine calls_of_cw (args := [.agg #[.int .i64 c.layers, .slice A_c_bounds c.bounds.length c_c_bounds]]) Try.func72 rfl rfl rfl rfl ?_
  have H := Hp.start w
  have R0 := H.ext
  have hvo := validate_ok hv
  have hrl : (List.replicate (Int.toNat c.layers) (-1 : Int)).length = Int.toNat c.layers := by simp
  refine CW.seq fun K1 hK1 => ?_
  refine CW.region ?_
  refine LW.go rfl rfl (OW.box rfl fun b1 w1 N1 => ?_)
  replace H : Hp w w1 [.blk b1 24 [.int .i64 c.layers, .slice A_c_bounds c.bounds.length c_c_bounds]] := H.new N1 N1.blk
  replace R0 := H.ext
  refine LW.pure rfl rfl (RV.assign rfl) ?_
  refine LW.pure rfl rfl (RV.assign rfl) ?_
  refine LW.pure rfl rfl (RV.assign rfl) ?_
  refine LW.nil (hK1 _ _ ?_)
  refine CW.seq fun K2 hK2 => ?_
  refine CW.region ?_
  refine LW.pure rfl rfl (RV.fieldAddr f24_0 rfl) ?_
  refine LW.pure rfl rfl (RV.load1 k3 rfl ((H.blk 0 rfl).cells.off 0) rfl) ?_
  refine LW.go rfl rfl (OW.makeL (enc := encI) 0 s43 rfl rfl rfl rfl rfl (by omega) (by omega) (by omega) fun b2 w2 N2 => ?_)
  replace H : Hp w w2 [.own (some ⟨b2, 0, none⟩) (Int.toNat c.layers) 3 1 (List.map encI ((List.replicate (Int.toNat c.layers) 0))), .blk b1 24 [.int .i64 c.layers, .slice A_c_bounds c.bounds.length c_c_bounds]] := H.made' (enc := encI) (l := (List.replicate (Int.toNat c.layers) 0)) N2 N2.blk (fun _ => rfl) (by simp) (by first | decide | omega | simp)
  replace R0 := H.ext
  refine LW.pure rfl rfl (RV.assign rfl) ?_
  refine LW.nil (hK2 _ _ ?_)
  refine CW.seq fun K3 hK3 => ?_
  refine CW.region ?_
  refine LW.go rfl rfl (OW.buildSlice (e := 3) (vs := [.int .i64 (-1)]) (cs := [.int .i64 (-1)]) rfl (fun _ => by kernel_rfl) fun b3 w3 N3 => ?_)
  replace H : Hp w w3 [.own (some ⟨b3, 0, none⟩) 1 3 1 (List.map encI (([-1] : List Int))), .own (some ⟨b2, 0, none⟩) (Int.toNat c.layers) 3 1 (List.map encI ((List.replicate (Int.toNat c.layers) 0))), .blk b1 24 [.int .i64 c.layers, .slice A_c_bounds c.bounds.length c_c_bounds]] := H.made' (enc := encI) (l := ([-1] : List Int)) N3 N3.blk (fun _ => rfl) (by simp) (by first | decide | omega | simp)
  replace R0 := H.ext
  refine LW.pure rfl rfl (RV.fieldAddr f24_0 rfl) ?_
  refine LW.pure rfl rfl (RV.load1 k3 rfl ((H.blk 2 rfl).cells.off 0) rfl) ?_
  refine LW.go rfl rfl (OW.call c87 rfl (slices_Repeat (x := ([-1] : List Int)) (count := c.layers) (H.own 0 rfl).sl (rfl) (by omega)) ?_)
  rintro _ w4 ⟨A1_0, c1_0, rfl, E1⟩
  refine ⟨_, rfl, ?_⟩
  replace H : Hp w w4 [.own A1_0 c1_0 3 1 (List.map encI ((List.replicate (Int.toNat c.layers) (-1)))), .own (some ⟨b3, 0, none⟩) 1 3 1 (List.map encI (([-1] : List Int))), .own (some ⟨b2, 0, none⟩) (Int.toNat c.layers) 3 1 (List.map encI ((List.replicate (Int.toNat c.layers) 0))), .blk b1 24 [.int .i64 c.layers, .slice A_c_bounds c.bounds.length c_c_bounds]] := H.append E1
  replace R0 := H.ext
  refine LW.pure rfl rfl (RV.assign rfl) ?_
  refine LW.nil (hK3 _ _ ?_)
  refine CW.seq fun K4 hK4 => ?_
  refine CW.seq fun K5 hK5 => ?_
  refine CW.region ?_
  refine LW.pure rfl rfl (RV.fieldAddr f24_0 rfl) ?_
  refine LW.pure rfl rfl (RV.load1 k3 rfl ((H.blk 3 rfl).cells.off 0) rfl) ?_
  refine LW.pure rfl rfl (RV.move rfl) ?_
  refine LW.nil (hK5 _ _ ?_)
  refine CW.block ?_
  refine CW.loop (fun meas ρ wl1 => ∃ (i : Nat), meas = c.layers.toNat - i ∧ ρ = [(1, .pointer (some (⟨b1, 0, none⟩))), (2, .slice (some ⟨b2, 0, none⟩) (Int.toNat c.layers) (Int.toNat c.layers)), (3, .slice A1_0 ((List.replicate (Int.toNat c.layers) (-1)).length) c1_0), (4, .int .i64 ((relaxN c i).2.2)), (15, .int .i64 c.layers), (16, .int .i64 (↑i))] ∧ Hp w wl1 [.own A1_0 c1_0 3 1 (List.map encI ((relaxN c i).2.1)), .own (some ⟨b3, 0, none⟩) 1 3 1 (List.map encI (([-1] : List Int))), .own (some ⟨b2, 0, none⟩) (Int.toNat c.layers) 3 1 (List.map encI ((relaxN c i).1)), .blk b1 24 [.int .i64 c.layers, .slice A_c_bounds c.bounds.length c_c_bounds]] ∧ (i ≤ c.layers.toNat)) (c.layers.toNat - 0) ⟨_, ?_, 0, rfl, rfl, ?_, ?_⟩ ?_
  · exact ⟨rfl, look_slice rfl (by first | rfl | omega | (simp; done)), look_slice rfl (by first | rfl | omega | (simp; done)), look_int rfl (by first | rfl | omega | (simp; omega) | (have e : j = c.bounds.length := (by omega); subst e; rfl)), rfl, look_int rfl (by first | rfl | omega | (simp; omega) | (have e : j = c.bounds.length := (by omega); subst e; rfl)), trivial⟩
  · exact H
  · omega
  rintro _ _ wl1 ⟨i, rfl, rfl, H, hI1⟩
  have R0 := H.ext
  refine CW.seq fun K6 hK6 => ?_
  refine CW.region ?_
  refine LW.pure rfl rfl (RV.lss rfl rfl) ?_
  refine LW.nil (hK6 _ _ ?_)
  refine CW.seq fun K7 hK7 => ?_
  refine CW.cond rfl (fun h1 => ?_) (fun h1 => ?_)
  ·
    have h1 := of_decide_eq_true h1
    refine CW.skip (hK7 _ _ ?_)
    refine CW.seq fun K8 hK8 => ?_
    refine CW.block ?_
    refine CW.seq fun K9 hK9 => ?_
    refine CW.region ?_
    refine LW.pure rfl rfl (RV.assign rfl) ?_
    refine LW.nil (hK9 _ _ ?_)
    refine CW.seq fun K10 hK10 => ?_
    refine CW.region ?_
    refine LW.pure rfl rfl (RV.fieldAddr f24_1 rfl) ?_
    refine LW.pure rfl rfl (RV.load1 k22 rfl ((H.blk 3 rfl).cells.off 1) rfl) ?_
    refine LW.pure rfl rfl (RV.len s22 rfl) ?_
    refine LW.pure rfl rfl (RV.move rfl) ?_
    refine LW.nil (hK10 _ _ ?_)
    refine CW.block ?_
    refine CW.loop (fun meas ρ wl2 => ∃ (j : Nat), meas = c.bounds.length - j ∧ ρ = [(1, .pointer (some (⟨b1, 0, none⟩))), (2, .slice (some ⟨b2, 0, none⟩) (Int.toNat c.layers) (Int.toNat c.layers)), (3, .slice A1_0 ((List.replicate (Int.toNat c.layers) (-1)).length) c1_0), (4, .int .i64 ((relaxAt c i j).2.2)), (15, .int .i64 c.layers), (16, .int .i64 (↑i)), (19, .slice A_c_bounds c.bounds.length c_c_bounds), (20, .int .i64 (((c.bounds.length : Nat) : Int))), (21, .int .i64 (↑j))] ∧ Hp w wl2 [.own A1_0 c1_0 3 1 (List.map encI ((relaxAt c i j).2.1)), .own (some ⟨b3, 0, none⟩) 1 3 1 (List.map encI (([-1] : List Int))), .own (some ⟨b2, 0, none⟩) (Int.toNat c.layers) 3 1 (List.map encI ((relaxAt c i j).1)), .blk b1 24 [.int .i64 c.layers, .slice A_c_bounds c.bounds.length c_c_bounds]] ∧ (j ≤ c.bounds.length)) (c.bounds.length - 0) ⟨_, ?_, 0, rfl, rfl, ?_, ?_⟩ ?_
    · exact ⟨rfl, look_slice rfl (by first | rfl | omega | (simp; done)), look_slice rfl (by first | rfl | omega | (simp; done)), look_int rfl (by first | rfl | omega | (simp; omega) | (rw [hst])), rfl, rfl, rfl, rfl, look_int rfl (by first | rfl | omega | (simp; omega) | (rw [hst])), trivial⟩
    · exact H
    · omega
    rintro _ _ wl2 ⟨j, rfl, rfl, H, hI2⟩
    have R0 := H.ext
    have hV := relaxAt_inv (i := i) (j := j) hv (by omega) (by omega)
    have hl1 := hV.l1
    have hl2 := hV.l2
    refine CW.seq fun K11 hK11 => ?_
    refine CW.region ?_
    refine LW.pure rfl rfl (RV.lss rfl rfl) ?_
    refine LW.nil (hK11 _ _ ?_)
    refine CW.seq fun K12 hK12 => ?_
    refine CW.cond rfl (fun h2 => ?_) (fun h2 => ?_)
    ·
      have h2 := of_decide_eq_true h2
      refine CW.skip (hK12 _ _ ?_)
      refine CW.seq fun K13 hK13 => ?_
      refine CW.block ?_
      refine CW.seq fun K14 hK14 => ?_
      refine CW.region ?_
      refine LW.pure rfl rfl (RV.move rfl) ?_
      have hb1 : 0 ≤ ((↑j) : Int) ∧ ((↑j) : Int) < ((c.bounds.length : Nat) : Int) := by omega
      obtain ⟨x1, hx1⟩ := ex_at (l := c.bounds) (j := j) (by first | omega | (simp; omega))
      have hr := bound_ok hv hx1
      refine LW.pure rfl rfl (RV.indexAddr s22 rfl rfl hb1 (h_c_bounds.addr hb1)) ?_
      refine LW.pure rfl rfl (RV.loadA [.int .i64 x1.a, .int .i64 x1.b, .int .i64 x1.most] k26 rfl ((h_c_bounds.at_ hx1).ext R0) rfl rfl) ?_
      refine LW.go rfl rfl (OW.alloc z26 fun b4 w5 N4 => ?_)
      replace H : Hp w w5 [.blk b4 26 [.int .i64 0, .int .i64 0, .int .i64 0], .own A1_0 c1_0 3 1 (List.map encI ((relaxAt c i j).2.1)), .own (some ⟨b3, 0, none⟩) 1 3 1 (List.map encI (([-1] : List Int))), .own (some ⟨b2, 0, none⟩) (Int.toNat c.layers) 3 1 (List.map encI ((relaxAt c i j).1)), .blk b1 24 [.int .i64 c.layers, .slice A_c_bounds c.bounds.length c_c_bounds]] := H.new N4 N4.blk
      replace R0 := H.ext
      refine LW.pure rfl rfl (RV.assign rfl) ?_
      refine LW.go rfl rfl (OW.store k26 rfl rfl (H.blk 0 rfl) (off := 0) (vs := [.int .i64 x1.a, .int .i64 x1.b, .int .i64 x1.most]) rfl rfl rfl rfl rfl fun w6 S1 => ?_)
      replace H : Hp w w6 [.blk b4 26 [.int .i64 x1.a, .int .i64 x1.b, .int .i64 x1.most], .own A1_0 c1_0 3 1 (List.map encI ((relaxAt c i j).2.1)), .own (some ⟨b3, 0, none⟩) 1 3 1 (List.map encI (([-1] : List Int))), .own (some ⟨b2, 0, none⟩) (Int.toNat c.layers) 3 1 (List.map encI ((relaxAt c i j).1)), .blk b1 24 [.int .i64 c.layers, .slice A_c_bounds c.bounds.length c_c_bounds]] := H.stored 0 rfl S1
      replace R0 := H.ext
      refine LW.nil (hK14 _ _ ?_)
      refine CW.seq fun K15 hK15 => ?_
      refine CW.draw [] (fun _ => True) (.cons 0 1 (.cons 1 1 (.cons 2 1 (.cons 3 1 (.cons 4 1 (.cons 5 1 (.cons 6 1 (.cons 7 1 (.cons 8 1 (.cons 9 1 (.cons 10 1 (.cons 11 1 (.cons 12 1 (.cons 13 1 .nil)))))))))))))) mixed (by kernel_rfl) fun w7 E2 => ?_
      replace H := H.grow E2
      replace R0 := H.ext
      refine DW.fix rfl rfl rfl (fun _ EQ => RV.move rfl) ?_
      refine DW.fix rfl rfl rfl (fun _ EQ => RV.fieldAddr f26_0 rfl) ?_
      refine DW.fix rfl rfl rfl (fun _ EQ => RV.load1 k3 rfl (((H.grow EQ).blk 0 rfl).cells.off 0) rfl) ?_
      have hb2 : 0 ≤ ((x1.a) : Int) ∧ ((x1.a) : Int) < ((Int.toNat c.layers : Nat) : Int) := by omega
      obtain ⟨x2, hx2⟩ := ex_at (l := (relaxAt c i j).1) (j := Int.toNat x1.a) (by first | omega | (simp; omega))
      have hdx2 := hV.at_ hx2
      refine DW.fix rfl rfl rfl (fun _ EQ => RV.indexAddr s43 rfl rfl hb2 ⟨_, rfl⟩) ?_
      refine DW.fix rfl rfl rfl (fun _ EQ => RV.load1 k3 rfl (((H.grow EQ).own 3 rfl).sl.at_ hx2) rfl) ?_
      refine DW.fix rfl rfl rfl (fun _ EQ => RV.fieldAddr f26_2 rfl) ?_
      refine DW.fix rfl rfl rfl (fun _ EQ => RV.load1 k3 rfl (((H.grow EQ).blk 0 rfl).cells.off 2) rfl) ?_
      refine DW.fix rfl rfl rfl (fun _ EQ => RV.add rfl rfl (by omega)) ?_
      refine DW.fix rfl rfl rfl (fun _ EQ => RV.move rfl) ?_
      refine DW.fix rfl rfl rfl (fun _ EQ => RV.fieldAddr f26_1 rfl) ?_
      refine DW.fix rfl rfl rfl (fun _ EQ => RV.load1 k3 rfl (((H.grow EQ).blk 0 rfl).cells.off 1) rfl) ?_
      have hb3 : 0 ≤ ((x1.b) : Int) ∧ ((x1.b) : Int) < ((Int.toNat c.layers : Nat) : Int) := by omega
      obtain ⟨x3, hx3⟩ := ex_at (l := (relaxAt c i j).1) (j := Int.toNat x1.b) (by first | omega | (simp; omega))
      have hdx3 := hV.at_ hx3
      refine DW.fix rfl rfl rfl (fun _ EQ => RV.indexAddr s43 rfl rfl hb3 ⟨_, rfl⟩) ?_
      refine DW.fix rfl rfl rfl (fun _ EQ => RV.load1 k3 rfl (((H.grow EQ).own 3 rfl).sl.at_ hx3) rfl) ?_
      refine DW.fix rfl rfl rfl (fun _ EQ => RV.lss rfl rfl) ?_
      refine DW.nil (hK15 _ _ ?_)
      refine CW.cond rfl (fun h3 => ?_) (fun h3 => ?_)
      ·
        have h3 := of_decide_eq_true h3
        have hst := relaxAt_yes hx1 hx2 hx3 h3
        have H0 := H
        have hz : w7.heap.size ≤ w7.heap.size := Nat.le_refl _
        refine CW.draw [18, 20] (XB w7 [.blk b4 26 [.int .i64 x1.a, .int .i64 x1.b, .int .i64 x1.most], .own A1_0 c1_0 3 1 (List.map encI ((relaxAt c i j).2.1)), .own (some ⟨b3, 0, none⟩) 1 3 1 (List.map encI (([-1] : List Int))), .own (some ⟨b2, 0, none⟩) (Int.toNat c.layers) 3 1 (List.map encI ((relaxAt c i j).1)), .blk b1 24 [.int .i64 c.layers, .slice A_c_bounds c.bounds.length c_c_bounds]] [3, 1]) (.cons 0 1 (.cons 1 1 (.cons 2 1 (.cons 6 1 (.cons 7 1 (.cons 8 1 (.cons 9 1 (.cons 10 1 (.cons 11 1 (.cons 12 1 (.cons 13 1 (.cons 17 1 (.cons 3 2 (.cons 4 2 (.cons 5 2 (.cons 14 2 (.cons 15 2 (.cons 16 2 (.cons 18 0 (.cons 19 2 (.cons 20 0 (.cons 21 2 .nil)))))))))))))))))))))) mixed (by kernel_rfl) fun w8 E3 => ?_
        replace H := H.grow E3
        replace R0 := H.ext
        replace hz := Nat.le_trans hz (Ext.size E3)
        refine DW.fix rfl rfl rfl (fun _ EQ => RV.move rfl) ?_
        refine DW.fix rfl rfl rfl (fun _ EQ => RV.fieldAddr f26_1 rfl) ?_
        refine DW.fix rfl rfl rfl (fun _ EQ => RV.load1 k3 rfl (((H.grow EQ).blk 0 rfl).cells.off 1) rfl) ?_
        refine DW.fix rfl rfl rfl (fun _ EQ => RV.move rfl) ?_
        refine DW.fix rfl rfl rfl (fun _ EQ => RV.fieldAddr f26_0 rfl) ?_
        refine DW.fix rfl rfl rfl (fun _ EQ => RV.load1 k3 rfl (((H.grow EQ).blk 0 rfl).cells.off 0) rfl) ?_
        have hb4 : 0 ≤ ((x1.a) : Int) ∧ ((x1.a) : Int) < ((Int.toNat c.layers : Nat) : Int) := by omega
        obtain ⟨x4, hx4⟩ := ex_at (l := (relaxAt c i j).1) (j := Int.toNat x1.a) (by first | omega | (simp; omega))
        have hdx4 := hV.at_ hx4
        refine DW.fix rfl rfl rfl (fun _ EQ => RV.indexAddr s43 rfl rfl hb4 ⟨_, rfl⟩) ?_
        refine DW.fix rfl rfl rfl (fun _ EQ => RV.load1 k3 rfl (((H.grow EQ).own 3 rfl).sl.at_ hx4) rfl) ?_
        refine DW.fix rfl rfl rfl (fun _ EQ => RV.fieldAddr f26_2 rfl) ?_
        refine DW.fix rfl rfl rfl (fun _ EQ => RV.load1 k3 rfl (((H.grow EQ).blk 0 rfl).cells.off 2) rfl) ?_
        refine DW.fix rfl rfl rfl (fun _ EQ => RV.add rfl rfl (by omega)) ?_
        have hb5 : 0 ≤ ((x1.b) : Int) ∧ ((x1.b) : Int) < ((Int.toNat c.layers : Nat) : Int) := by omega
        obtain ⟨x5, hx5⟩ := ex_at (l := (relaxAt c i j).1) (j := Int.toNat x1.b) (by first | omega | (simp; omega))
        refine DW.fix rfl rfl rfl (fun _ EQ => RV.indexAddr s43 rfl rfl hb5 ⟨_, rfl⟩) ?_
        refine DW.thru rfl rfl rfl (fun _ EQ => RV.move rfl) ?_
        refine DW.thru rfl rfl rfl (fun _ EQ => RV.fieldAddr f26_1 rfl) ?_
        refine DW.thru rfl rfl rfl (fun _ EQ => RV.load1 k3 rfl ((H.thruB 0 rfl EQ (H0.notX [3, 1] 0 rfl (by decide))).cells.off 1) rfl) ?_
        refine DW.thru rfl rfl rfl (fun _ EQ => RV.move rfl) ?_
        refine DW.thru rfl rfl rfl (fun _ EQ => RV.fieldAddr f26_1 rfl) ?_
        refine DW.thru rfl rfl rfl (fun _ EQ => RV.load1 k3 rfl ((H.thruB 0 rfl EQ (H0.notX [3, 1] 0 rfl (by decide))).cells.off 1) rfl) ?_
        refine DW.sole rfl rfl rfl (OW.storeO (enc := encI) (vs := [.int .i64 (x4 + x1.most)]) 0 (x4 + x1.most) k3 rfl rfl (H.own 3 rfl) (fun _ => rfl) rfl hx5 rfl rfl (by decide) rfl rfl fun w9 M1 O1 => ?_)
        refine ⟨fun h => absurd h (by decide), M1.modx (XB.own_ 3 (by decide) rfl), ?_⟩
        replace H : Hp w w9 [.blk b4 26 [.int .i64 x1.a, .int .i64 x1.b, .int .i64 x1.most], .own A1_0 c1_0 3 1 (List.map encI ((relaxAt c i j).2.1)), .own (some ⟨b3, 0, none⟩) 1 3 1 (List.map encI (([-1] : List Int))), .own (some ⟨b2, 0, none⟩) (Int.toNat c.layers) 3 1 (List.map encI ((((relaxAt c i j).1).set (Int.toNat x1.b) (x4 + x1.most)))), .blk b1 24 [.int .i64 c.layers, .slice A_c_bounds c.bounds.length c_c_bounds]] := H.mod 3 rfl M1 O1 (.inl rfl)
        replace R0 := H.ext
        replace hz := Nat.le_trans hz M1.size
        have hb6 : 0 ≤ ((x1.b) : Int) ∧ ((x1.b) : Int) < (((List.replicate (Int.toNat c.layers) (-1)).length : Nat) : Int) := by omega
        obtain ⟨x6, hx6⟩ := ex_at (l := (relaxAt c i j).2.1) (j := Int.toNat x1.b) (by first | omega | (simp; omega))
        refine DW.thru rfl rfl rfl (fun _ EQ => RV.indexAddr s43 rfl rfl hb6 ((H.own 1 rfl).sl.addr_ hx6)) ?_
        refine DW.sole rfl rfl rfl (OW.storeO (enc := encI) (vs := [.int .i64 (↑j)]) 0 (↑j) k3 rfl rfl (H.own 1 rfl) (fun _ => rfl) rfl hx6 rfl rfl (by decide) rfl rfl fun w10 M2 O2 => ?_)
        refine ⟨fun h => absurd h (by decide), M2.modx (XB.own_ 1 (by decide) rfl), ?_⟩
        replace H : Hp w w10 [.blk b4 26 [.int .i64 x1.a, .int .i64 x1.b, .int .i64 x1.most], .own A1_0 c1_0 3 1 (List.map encI ((((relaxAt c i j).2.1).set (Int.toNat x1.b) (↑j)))), .own (some ⟨b3, 0, none⟩) 1 3 1 (List.map encI (([-1] : List Int))), .own (some ⟨b2, 0, none⟩) (Int.toNat c.layers) 3 1 (List.map encI ((((relaxAt c i j).1).set (Int.toNat x1.b) (x4 + x1.most)))), .blk b1 24 [.int .i64 c.layers, .slice A_c_bounds c.bounds.length c_c_bounds]] := H.mod 1 rfl M2 O2 (.inl rfl)
        replace R0 := H.ext
        replace hz := Nat.le_trans hz M2.size
        refine DW.thru rfl rfl rfl (fun _ EQ => RV.assign rfl) ?_
        refine DW.nil (hK13 _ _ ?_)
        refine CW.region ?_
        refine LW.pure rfl rfl (RV.add rfl rfl (by omega)) ?_
        refine LW.pure rfl rfl (RV.move rfl) ?_
        refine LW.nil ?_
        replace H : Hp w w10 [.own A1_0 c1_0 3 1 (List.map encI ((((relaxAt c i j).2.1).set (Int.toNat x1.b) (↑j)))), .own (some ⟨b3, 0, none⟩) 1 3 1 (List.map encI (([-1] : List Int))), .own (some ⟨b2, 0, none⟩) (Int.toNat c.layers) 3 1 (List.map encI ((((relaxAt c i j).1).set (Int.toNat x1.b) (x4 + x1.most)))), .blk b1 24 [.int .i64 c.layers, .slice A_c_bounds c.bounds.length c_c_bounds]] := H.pick [1, 2, 3, 4] (by decide) rfl
        replace R0 := H.ext
        refine ⟨_, ?_, _, ?_, j + 1, rfl, rfl, ?_, ?_⟩
        · omega
        · exact ⟨rfl, look_slice rfl (by first | rfl | omega | (simp; done)), look_slice rfl (by first | rfl | omega | (simp; done)), look_int rfl (by first | rfl | omega | (simp; omega) | (rw [hst])), rfl, rfl, rfl, rfl, look_int rfl (by first | rfl | omega | (simp; omega) | (rw [hst])), trivial⟩
        · rw [hst]; first | exact H | (have e := Option.some.inj (hx2.symm.trans hx4); subst e; exact H)
        · omega
      ·
        have h3 := of_decide_eq_false h3
        have hst := relaxAt_no hx1 hx2 hx3 h3
        refine CW.skip (hK13 _ _ ?_)
        refine CW.region ?_
        refine LW.pure rfl rfl (RV.add rfl rfl (by omega)) ?_
        refine LW.pure rfl rfl (RV.move rfl) ?_
        refine LW.nil ?_
        replace H : Hp w w7 [.own A1_0 c1_0 3 1 (List.map encI ((relaxAt c i j).2.1)), .own (some ⟨b3, 0, none⟩) 1 3 1 (List.map encI (([-1] : List Int))), .own (some ⟨b2, 0, none⟩) (Int.toNat c.layers) 3 1 (List.map encI ((relaxAt c i j).1)), .blk b1 24 [.int .i64 c.layers, .slice A_c_bounds c.bounds.length c_c_bounds]] := H.pick [1, 2, 3, 4] (by decide) rfl
        replace R0 := H.ext
        refine ⟨_, ?_, _, ?_, j + 1, rfl, rfl, ?_, ?_⟩
        · omega
        · exact ⟨rfl, look_slice rfl (by first | rfl | omega | (simp; done)), look_slice rfl (by first | rfl | omega | (simp; done)), look_int rfl (by first | rfl | omega | (simp; omega) | (rw [hst])), rfl, rfl, rfl, rfl, look_int rfl (by first | rfl | omega | (simp; omega) | (rw [hst])), trivial⟩
        · rw [hst]; first | exact H | (have e := Option.some.inj (hx2.symm.trans hx4); subst e; exact H)
        · omega
    ·
      have h2 := of_decide_eq_false h2
      refine CW.exit (hK8 _ _ ?_)
      refine CW.region ?_
      refine LW.pure rfl rfl (RV.add rfl rfl (by omega)) ?_
      refine LW.pure rfl rfl (RV.move rfl) ?_
      refine LW.nil ?_
      refine ⟨_, ?_, _, ?_, i + 1, rfl, rfl, ?_, ?_⟩
      · omega
      · exact ⟨rfl, look_slice rfl (by first | rfl | omega | (simp; done)), look_slice rfl (by first | rfl | omega | (simp; done)), look_int rfl (by first | rfl | omega | (simp; omega) | (have e : j = c.bounds.length := (by omega); subst e; rfl)), rfl, look_int rfl (by first | rfl | omega | (simp; omega) | (have e : j = c.bounds.length := (by omega); subst e; rfl)), trivial⟩
      · have e : j = c.bounds.length := (by omega)
        subst e; exact H
      · omega
  ·
    have h1 := of_decide_eq_false h1
    refine CW.exit (hK4 _ _ ?_)
    refine CW.seq fun K16 hK16 => ?_
    refine CW.region ?_
    refine LW.pure rfl rfl (RV.move rfl) ?_
    refine LW.pure rfl rfl (RV.move rfl) ?_
    refine LW.pure rfl rfl (RV.move rfl) ?_
    refine LW.pure rfl rfl (RV.assign rfl) ?_
    refine LW.pure rfl rfl (RV.assign rfl) ?_
    refine LW.pure rfl rfl (RV.assign rfl) ?_
    refine LW.nil (hK16 _ _ ?_)
    refine CW.ret ?_
    refine ⟨_, (ResOK.three rfl rfl rfl), ?_⟩
    replace H : Hp w wl1 [.own (some ⟨b2, 0, none⟩) (Int.toNat c.layers) 3 1 (List.map encI ((relaxN c i).1)), .own A1_0 c1_0 3 1 (List.map encI ((relaxN c i).2.1))] := H.pick [2, 0] (by decide) rfl
    replace R0 := H.ext
    refine ⟨(some ⟨b2, 0, none⟩), (Int.toNat c.layers), A1_0, c1_0, ?_, ?_⟩
    · have e : i = c.layers.toNat := by omega
      subst e; have hV := relaxN_inv hv c.layers.toNat; simp [relax, hV.l1, hV.l2]
    · have e : i = c.layers.toNat := by omega
      subst e; exact H
end Go.Core

set_option linter.unusedVariables false
set_option linter.unusedSimpArgs false
namespace Go.Core
open Go.Tb
def clashes (c : Core) : Bool := decide (0 ≤ (relax c).2.2)
def layersE (c : Core) (l : List Int) : Int :=
  if validate c = 0 then (if l.all (fun n => within n 0 (c.layers - 1)) then 0 else 4) else validate c
abbrev TM := List (List Tight)
def mg (m : TM) (i j : Nat) : Tight := (m.getD i []).getD j ⟨false, 0⟩
def put (m : TM) (i j : Nat) (y : Tight) : TM := m.set i ((m.getD i []).set j y)
theorem mg_of {m : TM} {i j : Nat} {r : List Tight} {t : Tight} (h1 : m[i]? = some r) (h2 : r[j]? = some t) : mg m i j = t := by simp [mg, List.getD, h1, h2]
theorem put_of {m : TM} {i j : Nat} {y : Tight} {r : List Tight} (h1 : m[i]? = some r) : put m i j y = m.set i (r.set j y) := by simp [put, List.getD, h1]
structure Sq (n : Nat) (m : TM) : Prop where
  len : m.length = n
  row : ∀ r ∈ m, r.length = n
theorem Sq.rowAt {n : Nat} {m : TM} (h : Sq n m) {i : Nat} {r : List Tight} (hr : m[i]? = some r) : r.length = n := h.row r (List.mem_of_getElem? hr)
theorem Sq.getD {n : Nat} {m : TM} (h : Sq n m) {i : Nat} (hi : i < n) : (m.getD i []).length = n := by
  have hl : i < m.length := by rw [h.len]; exact hi
  have : m[i]? = some m[i] := by simp [hl]
  simp only [List.getD, this, Option.getD_some]
  exact h.rowAt this
theorem Sq.put {n : Nat} {m : TM} (h : Sq n m) {i j : Nat} {y : Tight} : Sq n (Core.put m i j y) := by
  refine ⟨by simp [Core.put, h.len], fun r hr => ?_⟩
  unfold Core.put at hr
  by_cases hi : i < n
  · rcases List.mem_or_eq_of_mem_set hr with hr | rfl
    · exact h.row r hr
    · rw [List.length_set]; exact h.getD hi
  · rw [List.set_eq_of_length_le (by rw [h.len]; omega)] at hr
    exact h.row r hr
theorem mg_put {n : Nat} {m : TM} (h : Sq n m) {i j : Nat} {y : Tight} (hi : i < n) (hj : j < n) (a b : Nat) : mg (put m i j y) a b = if a = i ∧ b = j then y else mg m a b := by
  have hl : i < m.length := by rw [h.len]; exact hi
  have hrl := h.getD hi
  unfold mg put
  by_cases ha : a = i
  · subst ha
    simp only [List.getD, List.getElem?_set_self hl, Option.getD_some]
    by_cases hb : b = j
    · subst hb
      have : b < (m[a]?.getD []).length := by simpa [List.getD] using (by rw [hrl]; exact hj : b < (m.getD a []).length)
      simp [List.getElem?_set_self this]
    · rw [List.getElem?_set_ne (Ne.symm hb)]; simp [hb]
  · simp [List.getD, List.getElem?_set_ne (Ne.symm ha), ha]
def tI (n : Nat) : Nat → TM
  | 0 => List.replicate n []
  | i + 1 => (tI n i).set i ((List.replicate n ⟨false, 0⟩).set i ⟨true, 0⟩)
def tB (n : Nat) (bs : List Bound) : Nat → TM
  | 0 => tI n n
  | j + 1 => match bs[j]? with
    | some x => put (tB n bs j) x.a.toNat x.b.toNat (tighter (mg (tB n bs j) x.a.toNat x.b.toNat) ⟨true, x.most⟩)
    | none => tB n bs j
def fwAt (m : TM) (k i j : Nat) : TM := put m i j (tighter (mg m i j) (tover (mg m i k) (mg m k j)))
def fwJ (m : TM) (k i : Nat) : Nat → TM
  | 0 => m
  | j + 1 => fwAt (fwJ m k i j) k i j
def fwI (n : Nat) (m : TM) (k : Nat) : Nat → TM
  | 0 => m
  | i + 1 => fwJ (fwI n m k i) k i n
def fwK (n : Nat) (m : TM) : Nat → TM
  | 0 => m
  | k + 1 => fwI n (fwK n m k) k n
def table (c : Core) : TM := fwK c.layers.toNat (tB c.layers.toNat c.bounds c.bounds.length) c.layers.toNat
def tables (c : Core) : TM × Int := if clashes c then ([], 10) else (table c, 0)
theorem tI_len (n : Nat) : ∀ i : Nat, (tI n i).length = n
  | 0 => by simp [tI]
  | i + 1 => by simp [tI, tI_len n i]
theorem tI_at (n : Nat) : ∀ i : Nat, i ≤ n → ∀ j : Nat, j < i → (tI n i)[j]? = some ((List.replicate n ⟨false, 0⟩).set j ⟨true, 0⟩)
  | 0, _, j, h => by omega
  | i + 1, hi, j, h => by
    unfold tI
    by_cases hj : j = i
    · subst hj; rw [List.getElem?_set_self (by rw [tI_len]; omega)]
    · rw [List.getElem?_set_ne (by omega)]; exact tI_at n i (by omega) j (by omega)
theorem tI_sq (n : Nat) : Sq n (tI n n) := by
  refine ⟨tI_len n n, fun r hr => ?_⟩
  obtain ⟨j, hj⟩ := List.getElem?_of_mem hr
  have hlt := lt_of_at hj
  rw [tI_len] at hlt
  rw [tI_at n n (Nat.le_refl n) j hlt] at hj
  cases hj
  simp
theorem tI_mg {n i j : Nat} (hi : i < n) (hj : j < n) : mg (tI n n) i j = if i = j then ⟨true, 0⟩ else ⟨false, 0⟩ := by
  rw [mg_of (tI_at n n (Nat.le_refl n) i hi) (t := if i = j then ⟨true, 0⟩ else ⟨false, 0⟩)]
  rw [List.getElem?_set]
  by_cases h : i = j
  · subst h; simp [hi]
  · simp [h, List.getElem?_replicate, hj]
/-- A table whose known entries are bounds that the potential p keeps. -/
structure TInv (n : Nat) (p : Nat → Int) (B : Int) (m : TM) : Prop where
  sq : Sq n m
  diag : ∀ i : Nat, i < n → mg m i i = ⟨true, 0⟩
  pot : ∀ i j : Nat, i < n → j < n → (mg m i j).known = true → p j - p i ≤ (mg m i j).most
  bnd : ∀ i j : Nat, i < n → j < n → -B ≤ (mg m i j).most ∧ (mg m i j).most ≤ B
theorem TInv.mono {n : Nat} {p : Nat → Int} {B B' : Int} {m : TM} (h : TInv n p B m) (hB : B ≤ B') : TInv n p B' m :=
  ⟨h.sq, h.diag, h.pot, fun i j hi hj => by have := h.bnd i j hi hj; omega⟩
theorem tI_inv (n : Nat) (p : Nat → Int) : TInv n p 10000 (tI n n) := by
  refine ⟨tI_sq n, fun i hi => by rw [tI_mg hi hi]; simp, fun i j hi hj hk => ?_, fun i j hi hj => ?_⟩
  · rw [tI_mg hi hj] at *
    by_cases h : i = j
    · subst h; simp
    · simp [h] at hk
  · rw [tI_mg hi hj]
    by_cases h : i = j <;> simp [h]
theorem tighter_most {t o : Tight} {B : Int} (h1 : -B ≤ t.most ∧ t.most ≤ B) (h2 : -B ≤ o.most ∧ o.most ≤ B) : -B ≤ (tighter t o).most ∧ (tighter t o).most ≤ B := by
  unfold tighter; split <;> assumption
theorem tighter_pot {t o : Tight} {q : Int} (h1 : t.known = true → q ≤ t.most) (h2 : o.known = true → q ≤ o.most) : (tighter t o).known = true → q ≤ (tighter t o).most := by
  unfold tighter; split <;> assumption
theorem tighter_zero {o : Tight} (h : o.known = true → 0 ≤ o.most) : tighter ⟨true, 0⟩ o = ⟨true, 0⟩ := by
  unfold tighter
  split
  · rename_i hc
    simp at hc
    have := h hc.1
    omega
  · rfl
theorem tighter_self (t : Tight) : tighter t (tover t ⟨true, 0⟩) = t := by
  unfold tighter tover
  cases t with
  | mk k m => cases k <;> simp
theorem tighter_self' (t : Tight) : tighter t (tover ⟨true, 0⟩ t) = t := by
  unfold tighter tover
  cases t with
  | mk k m => cases k <;> simp
def Pot (c : Core) (p : Nat → Int) : Prop := ∀ x ∈ c.bounds, p x.b.toNat - p x.a.toNat ≤ x.most
theorem tB_succ {n : Nat} {bs : List Bound} {j : Nat} {x : Bound} (hx : bs[j]? = some x) : tB n bs (j + 1) = put (tB n bs j) x.a.toNat x.b.toNat (tighter (mg (tB n bs j) x.a.toNat x.b.toNat) ⟨true, x.most⟩) := by
  simp only [tB, hx]
theorem tB_inv {c : Core} {p : Nat → Int} (hv : validate c = 0) (hp : Pot c p) : ∀ j : Nat, TInv c.layers.toNat p 10000 (tB c.layers.toNat c.bounds j)
  | 0 => tI_inv _ p
  | j + 1 => by
    have ih := tB_inv hv hp j
    cases hx : c.bounds[j]? with
    | none => simp only [tB, hx]; exact ih
    | some x =>
      rw [tB_succ hx]
      have hb := bound_ok hv hx
      have ha : x.a.toNat < c.layers.toNat := by omega
      have hb' : x.b.toNat < c.layers.toNat := by omega
      have hne : x.a.toNat ≠ x.b.toNat := by omega
      have hpx := hp x (List.mem_of_getElem? hx)
      refine ⟨ih.sq.put, fun i hi => ?_, fun i k hi hk => ?_, fun i k hi hk => ?_⟩
      · rw [mg_put ih.sq ha hb', if_neg (by omega)]; exact ih.diag i hi
      · rw [mg_put ih.sq ha hb']
        split
        · rename_i h
          obtain ⟨rfl, rfl⟩ := h
          exact tighter_pot (ih.pot _ _ ha hb') (fun _ => hpx)
        · exact ih.pot i k hi hk
      · rw [mg_put ih.sq ha hb']
        split
        · exact tighter_most (ih.bnd _ _ ha hb') (by simp; omega)
        · exact ih.bnd i k hi hk
/-- In round k: row k and column k stay as they were. -/
structure FInv (n : Nat) (p : Nat → Int) (B : Int) (m0 : TM) (k : Nat) (m : TM) : Prop where
  inv : TInv n p (2 * B) m
  row : ∀ j : Nat, j < n → mg m k j = mg m0 k j
  col : ∀ i : Nat, i < n → mg m i k = mg m0 i k
theorem FInv.step {n : Nat} {p : Nat → Int} {B : Int} {m0 m : TM} {k i j : Nat} (hB : 0 ≤ B) (h0 : TInv n p B m0) (h : FInv n p B m0 k m) (hk : k < n) (hi : i < n) (hj : j < n) : FInv n p B m0 k (fwAt m k i j) := by
  have e1 := h.col i hi
  have e2 := h.row j hj
  have d0 := h0.diag k hk
  have b1 := h0.bnd i k hi hk
  have b2 := h0.bnd k j hk hj
  have p1 := h0.pot i k hi hk
  have p2 := h0.pot k j hk hj
  unfold fwAt
  rw [e1, e2]
  have over_pot : (tover (mg m0 i k) (mg m0 k j)).known = true → p j - p i ≤ (tover (mg m0 i k) (mg m0 k j)).most := by
    simp only [tover, Bool.and_eq_true]
    intro ⟨q1, q2⟩
    have := p1 q1
    have := p2 q2
    omega
  have hI := h.inv
  refine ⟨⟨hI.sq.put, fun a ha => ?_, fun a b ha hb => ?_, fun a b ha hb => ?_⟩, fun b hb => ?_, fun a ha => ?_⟩
  · rw [mg_put hI.sq hi hj]
    split
    · rename_i he
      obtain ⟨rfl, rfl⟩ := he
      rw [hI.diag a ha]
      exact tighter_zero (fun q => by have := over_pot q; omega)
    · exact hI.diag a ha
  · rw [mg_put hI.sq hi hj]
    split
    · rename_i he
      obtain ⟨rfl, rfl⟩ := he
      exact tighter_pot (hI.pot _ _ ha hb) over_pot
    · exact hI.pot a b ha hb
  · rw [mg_put hI.sq hi hj]
    split
    · rename_i he
      obtain ⟨rfl, rfl⟩ := he
      exact tighter_most (hI.bnd _ _ ha hb) (by simp only [tover]; omega)
    · exact hI.bnd a b ha hb
  · rw [mg_put hI.sq hi hj]
    split
    · rename_i he
      obtain ⟨rfl, rfl⟩ := he
      rw [h.row b hb, d0]
      exact tighter_self' _
    · exact h.row b hb
  · rw [mg_put hI.sq hi hj]
    split
    · rename_i he
      obtain ⟨rfl, rfl⟩ := he
      rw [h.col a ha, d0]
      exact tighter_self _
    · exact h.col a ha
theorem FInv.zero {n : Nat} {p : Nat → Int} {B : Int} {m0 : TM} {k : Nat} (hB : 0 ≤ B) (h0 : TInv n p B m0) : FInv n p B m0 k m0 := ⟨h0.mono (by omega), fun _ _ => rfl, fun _ _ => rfl⟩
theorem fwJ_inv {n : Nat} {p : Nat → Int} {B : Int} {m0 m : TM} {k i : Nat} (hB : 0 ≤ B) (h0 : TInv n p B m0) (h : FInv n p B m0 k m) (hk : k < n) (hi : i < n) : ∀ j : Nat, j ≤ n → FInv n p B m0 k (fwJ m k i j)
  | 0, _ => h
  | j + 1, hj => (fwJ_inv hB h0 h hk hi j (by omega)).step hB h0 hk hi (by omega)
theorem fwI_inv {n : Nat} {p : Nat → Int} {B : Int} {m0 : TM} {k : Nat} (hB : 0 ≤ B) (h0 : TInv n p B m0) (hk : k < n) : ∀ i : Nat, i ≤ n → FInv n p B m0 k (fwI n m0 k i)
  | 0, _ => FInv.zero hB h0
  | i + 1, hi => fwJ_inv hB h0 (fwI_inv hB h0 hk i (by omega)) hk (by omega) n (Nat.le_refl n)
theorem fwK_inv {n : Nat} {p : Nat → Int} {m0 : TM} (h0 : TInv n p 10000 m0) : ∀ k : Nat, k ≤ n → TInv n p (10000 * 2 ^ k) (fwK n m0 k)
  | 0, _ => h0.mono (by omega)
  | k + 1, hk => by
    have ih := fwK_inv h0 k (by omega)
    have := (fwI_inv (k := k) (Int.mul_nonneg (by omega) (Int.le_of_lt (Int.pow_pos (by omega)))) ih (by omega) n (Nat.le_refl n)).inv
    refine this.mono ?_
    rw [Int.pow_succ]; omega
theorem pow8 {k : Nat} (hk : k ≤ 8) : (10000 : Int) * 2 ^ k ≤ 2560000 := by
  have : k = 0 ∨ k = 1 ∨ k = 2 ∨ k = 3 ∨ k = 4 ∨ k = 5 ∨ k = 6 ∨ k = 7 ∨ k = 8 := by omega
  rcases this with rfl | rfl | rfl | rfl | rfl | rfl | rfl | rfl | rfl <;> decide
/-- The table of round k. -/
def tK (c : Core) (k : Nat) : TM := fwK c.layers.toNat (tB c.layers.toNat c.bounds c.bounds.length) k
theorem tK_inv {c : Core} {p : Nat → Int} (hv : validate c = 0) (hp : Pot c p) {k : Nat} (hk : k ≤ c.layers.toNat) : TInv c.layers.toNat p 2560000 (tK c k) :=
  (fwK_inv (tB_inv hv hp c.bounds.length) k hk).mono (pow8 (k := k) (by have := validate_ok hv; omega))
theorem tR_inv {c : Core} {p : Nat → Int} (hv : validate c = 0) (hp : Pot c p) {k i j : Nat} (hk : k < c.layers.toNat) (hi : i < c.layers.toNat) (hj : j ≤ c.layers.toNat) : TInv c.layers.toNat p 5120000 (fwJ (fwI c.layers.toNat (tK c k) k i) k i j) := by
  have h0 := tK_inv hv hp (k := k) (Nat.le_of_lt hk)
  exact (fwJ_inv (B := 2560000) (by omega) h0 (fwI_inv (by omega) h0 hk i (Nat.le_of_lt hi)) hk hi j hj).inv
theorem fwAt_of {m : TM} {k i j : Nat} {r0 r1 r2 r3 : List Tight} {t1 t2 t3 : Tight} (h0 : m[i]? = some r0) (h1 : m[i]? = some r1) (q1 : r1[j]? = some t1) (h2 : m[i]? = some r2) (q2 : r2[k]? = some t2) (h3 : m[k]? = some r3) (q3 : r3[j]? = some t3) :
    fwAt m k i j = m.set i (r0.set j (tighter t1 (tover t2 t3))) := by
  unfold fwAt
  rw [put_of h0, mg_of h1 q1, mg_of h2 q2, mg_of h3 q3]
end Go.Core

namespace Go.Core
open Go.Tb Go.Proofs
set_option linter.unusedVariables false
set_option linter.unusedSimpArgs false
theorem c36 : callable Try.prog 36 = true := by kernel_rfl
theorem c68 : callable Try.prog 68 = true := by kernel_rfl
theorem c72 : callable Try.prog 72 = true := by kernel_rfl
theorem c91 : callable Try.prog 91 = true := by kernel_rfl
theorem c92 : callable Try.prog 92 = true := by kernel_rfl
theorem k24 : tyK Try.prog 24 = some (true, 2) := by kernel_rfl
theorem k76 : tyK Try.prog 76 = some (false, 1) := by kernel_rfl
theorem s69 : tyS Try.prog 69 = some (76, 1, 24, [.slice none 0 0]) := by kernel_rfl
theorem s76 : tyS Try.prog 76 = some (75, 2, 16, [.bool false, .int .i64 0]) := by kernel_rfl
set_option maxRecDepth 20000 in
theorem core_clashes {c : Core} {A_c_bounds : Option Addr} {c_c_bounds : Nat} {w : World} (h_c_bounds : Sl w A_c_bounds c_c_bounds 3 (c.bounds.map encB)) (hv : validate c = 0) : Calls Try.prog 68 #[.agg #[.int .i64 c.layers, .slice A_c_bounds c.bounds.length c_c_bounds]] w (Ret w (.bool (clashes c))) := by
  refine calls_of_cw (args := [.agg #[.int .i64 c.layers, .slice A_c_bounds c.bounds.length c_c_bounds]]) Try.func68 rfl rfl rfl rfl ?_
  have H := Hp.start w
  have R0 := H.ext
  refine CW.seq fun K1 hK1 => ?_
  refine CW.region ?_
  refine LW.go rfl rfl (OW.box rfl fun b1 w1 N1 => ?_)
  replace H : Hp w w1 [.blk b1 24 [.int .i64 c.layers, .slice A_c_bounds c.bounds.length c_c_bounds]] := H.new N1 N1.blk
  replace R0 := H.ext
  refine LW.pure rfl rfl (RV.assign rfl) ?_
  refine LW.nil (hK1 _ _ ?_)
  refine CW.seq fun K2 hK2 => ?_
  refine CW.region ?_
  refine LW.pure rfl rfl (RV.loadA [.int .i64 c.layers, .slice A_c_bounds c.bounds.length c_c_bounds] k24 rfl (H.blk 0 rfl).cells rfl rfl) ?_
  refine LW.go rfl rfl (OW.call c72 rfl (core_relax (c := c) (h_c_bounds.ext R0) (by assumption)) ?_)
  rintro _ w2 ⟨A1_0, c1_0, A1_1, c1_1, rfl, E1⟩
  refine ⟨_, rfl, ?_⟩
  replace H : Hp w w2 [.own A1_0 c1_0 3 1 (List.map encI (((relax c).1))), .own A1_1 c1_1 3 1 (List.map encI (((relax c).2.1))), .blk b1 24 [.int .i64 c.layers, .slice A_c_bounds c.bounds.length c_c_bounds]] := H.append E1
  replace R0 := H.ext
  refine LW.pure rfl rfl (RV.move rfl) ?_
  refine LW.pure rfl rfl (RV.extract rfl rfl) ?_
  refine LW.pure rfl rfl (RV.extract rfl rfl) ?_
  refine LW.pure rfl rfl (RV.extract rfl rfl) ?_
  refine LW.pure rfl rfl (RV.assign rfl) ?_
  refine LW.pure rfl rfl (RV.assign rfl) ?_
  refine LW.pure rfl rfl (RV.assign rfl) ?_
  refine LW.nil (hK2 _ _ ?_)
  refine CW.seq fun K3 hK3 => ?_
  refine CW.region ?_
  refine LW.pure rfl rfl (RV.move rfl) ?_
  refine LW.pure rfl rfl (RV.geq rfl rfl) ?_
  refine LW.pure rfl rfl (RV.assign rfl) ?_
  refine LW.nil (hK3 _ _ ?_)
  refine CW.ret ?_
  refine ⟨_, (ResOK.one rfl), ?_⟩
  refine ⟨?_, R0⟩
  · simp [clashes]
set_option maxRecDepth 20000 in
theorem core_layers {c : Core} {A_c_bounds : Option Addr} {c_c_bounds : Nat} {l : List Int} {A_l : Option Addr} {c_l : Nat} {w : World} (h_c_bounds : Sl w A_c_bounds c_c_bounds 3 (c.bounds.map encB)) (h_l : Sl w A_l c_l 1 (l.map encI)) : Calls Try.prog 58 #[.agg #[.int .i64 c.layers, .slice A_c_bounds c.bounds.length c_c_bounds], .slice A_l l.length c_l] w (Ret w (.int .i64 (layersE c l))) := by
  refine calls_of_cw (args := [.agg #[.int .i64 c.layers, .slice A_c_bounds c.bounds.length c_c_bounds], .slice A_l l.length c_l]) Try.func58 rfl rfl rfl rfl ?_
  have H := Hp.start w
  have R0 := H.ext
  have hmx := h_l.max
  refine CW.seq fun K1 hK1 => ?_
  refine CW.region ?_
  refine LW.go rfl rfl (OW.box rfl fun b1 w1 N1 => ?_)
  replace H : Hp w w1 [.blk b1 24 [.int .i64 c.layers, .slice A_c_bounds c.bounds.length c_c_bounds]] := H.new N1 N1.blk
  replace R0 := H.ext
  refine LW.pure rfl rfl (RV.assign rfl) ?_
  refine LW.nil (hK1 _ _ ?_)
  refine CW.seq fun K2 hK2 => ?_
  refine CW.seq fun K3 hK3 => ?_
  refine CW.region ?_
  refine LW.pure rfl rfl (RV.loadA [.int .i64 c.layers, .slice A_c_bounds c.bounds.length c_c_bounds] k24 rfl (H.blk 0 rfl).cells rfl rfl) ?_
  refine LW.go rfl rfl (OW.call c36 rfl (core_Validate (c := c) (h_c_bounds.ext R0)) ?_)
  rintro _ w2 ⟨rfl, E1⟩
  refine ⟨_, rfl, ?_⟩
  replace H := H.grow E1
  replace R0 := H.ext
  refine LW.pure rfl rfl (RV.assign rfl) ?_
  refine LW.nil (hK3 _ _ ?_)
  refine CW.seq fun K4 hK4 => ?_
  refine CW.region ?_
  refine LW.pure rfl rfl (RV.move rfl) ?_
  refine LW.pure rfl rfl (RV.nei rfl rfl) ?_
  refine LW.nil (hK4 _ _ ?_)
  refine CW.cond rfl (fun h1 => ?_) (fun h1 => ?_)
  ·
    have h1 := (Bool.not_eq_true' _).mp h1
    have h1 := of_decide_eq_false h1
    refine CW.seq fun K5 hK5 => ?_
    refine CW.region ?_
    refine LW.pure rfl rfl (RV.move rfl) ?_
    refine LW.pure rfl rfl (RV.assign rfl) ?_
    refine LW.nil (hK5 _ _ ?_)
    refine CW.ret ?_
    refine ⟨_, (ResOK.one rfl), ?_⟩
    refine ⟨?_, R0⟩
    · simp [layersE, h1]
  ·
    have h1 := (Bool.not_eq_false' _).mp h1
    have h1 := of_decide_eq_true h1
    have hvo := validate_ok (c := c) (by simpa using h1)
    refine CW.skip (hK2 _ _ ?_)
    refine CW.seq fun K6 hK6 => ?_
    refine CW.seq fun K7 hK7 => ?_
    refine CW.region ?_
    refine LW.pure rfl rfl (RV.move rfl) ?_
    refine LW.pure rfl rfl (RV.len s43 rfl) ?_
    refine LW.pure rfl rfl (RV.move rfl) ?_
    refine LW.nil (hK7 _ _ ?_)
    refine CW.block ?_
    refine CW.loop (fun meas ρ wl1 => ∃ (i : Nat), meas = l.length - i ∧ ρ = [(2, .pointer (some (⟨b1, 0, none⟩))), (13, .slice A_l l.length c_l), (14, .int .i64 (((l.length : Nat) : Int))), (15, .int .i64 (↑i))] ∧ Hp w wl1 [.blk b1 24 [.int .i64 c.layers, .slice A_c_bounds c.bounds.length c_c_bounds]] ∧ (i ≤ l.length ∧ ((l.take i).all (fun n => within n 0 (c.layers - 1)) = true))) (l.length - 0) ⟨_, ?_, 0, rfl, rfl, ?_, ?_⟩ ?_
    · exact ⟨rfl, rfl, rfl, look_int rfl (by first | rfl | omega | (simp; omega)), trivial⟩
    · exact H
    · simp
    rintro _ _ wl1 ⟨i, rfl, rfl, H, hI1⟩
    have R0 := H.ext
    refine CW.seq fun K8 hK8 => ?_
    refine CW.region ?_
    refine LW.pure rfl rfl (RV.lss rfl rfl) ?_
    refine LW.nil (hK8 _ _ ?_)
    refine CW.seq fun K9 hK9 => ?_
    refine CW.cond rfl (fun h2 => ?_) (fun h2 => ?_)
    ·
      have h2 := of_decide_eq_true h2
      refine CW.skip (hK9 _ _ ?_)
      refine CW.seq fun K10 hK10 => ?_
      refine CW.block ?_
      refine CW.seq fun K11 hK11 => ?_
      refine CW.region ?_
      have hb1 : 0 ≤ ((↑i) : Int) ∧ ((↑i) : Int) < ((l.length : Nat) : Int) := by omega
      obtain ⟨x1, hx1⟩ := ex_at (l := l) (j := i) (by first | omega | (simp; omega))
      refine LW.pure rfl rfl (RV.indexAddr s43 rfl rfl hb1 (h_l.addr hb1)) ?_
      refine LW.pure rfl rfl (RV.load1 k3 rfl ((h_l.at_ hx1).ext R0) rfl) ?_
      refine LW.pure rfl rfl (RV.assign rfl) ?_
      refine LW.nil (hK11 _ _ ?_)
      refine CW.seq fun K12 hK12 => ?_
      refine CW.region ?_
      refine LW.pure rfl rfl (RV.move rfl) ?_
      refine LW.pure rfl rfl (RV.fieldAddr f24_0 rfl) ?_
      refine LW.pure rfl rfl (RV.load1 k3 rfl ((H.blk 0 rfl).cells.off 0) rfl) ?_
      refine LW.pure rfl rfl (RV.sub rfl rfl (by omega)) ?_
      refine LW.go rfl rfl (OW.call c70 rfl (core_within (n := x1) (lo := 0) (hi := c.layers - 1)) ?_)
      rintro _ w3 ⟨rfl, E2⟩
      refine ⟨_, rfl, ?_⟩
      replace H := H.grow E2
      replace R0 := H.ext
      refine LW.pure rfl rfl (RV.not rfl) ?_
      refine LW.nil (hK12 _ _ ?_)
      refine CW.cond rfl (fun h3 => ?_) (fun h3 => ?_)
      ·
        have h3 := (Bool.not_eq_true' _).mp h3
        refine CW.seq fun K13 hK13 => ?_
        refine CW.region ?_
        refine LW.pure rfl rfl (RV.assign rfl) ?_
        refine LW.nil (hK13 _ _ ?_)
        refine CW.ret ?_
        refine ⟨_, (ResOK.one rfl), ?_⟩
        refine ⟨?_, R0⟩
        · simp [layersE, h1, all_false_at (p := fun n => within n 0 (c.layers - 1)) hx1 h3]
      ·
        have h3 := (Bool.not_eq_false' _).mp h3
        refine CW.skip (hK10 _ _ ?_)
        refine CW.region ?_
        refine LW.pure rfl rfl (RV.add rfl rfl (by omega)) ?_
        refine LW.pure rfl rfl (RV.move rfl) ?_
        refine LW.nil ?_
        refine ⟨_, ?_, _, ?_, i + 1, rfl, rfl, ?_, ?_⟩
        · omega
        · exact ⟨rfl, rfl, rfl, look_int rfl (by first | rfl | omega | (simp; omega)), trivial⟩
        · exact H
        · exact ⟨by omega, all_take_succ hx1 hI1.2 h3⟩
    ·
      have h2 := of_decide_eq_false h2
      refine CW.exit (hK6 _ _ ?_)
      refine CW.seq fun K14 hK14 => ?_
      refine CW.region ?_
      refine LW.pure rfl rfl (RV.assign rfl) ?_
      refine LW.nil (hK14 _ _ ?_)
      refine CW.ret ?_
      refine ⟨_, (ResOK.one rfl), ?_⟩
      refine ⟨?_, R0⟩
      · simp only [layersE, h1, all_of_take h2 hI1.2]; simp
set_option maxRecDepth 20000 in
theorem core_table {c : Core} {A_c_bounds : Option Addr} {c_c_bounds : Nat} {p : Nat → Int} {w : World} (h_c_bounds : Sl w A_c_bounds c_c_bounds 3 (c.bounds.map encB)) (hv : validate c = 0) (hp : Pot c p) : Calls Try.prog 81 #[.agg #[.int .i64 c.layers, .slice A_c_bounds c.bounds.length c_c_bounds]] w (fun e w' => ∃ (A0 : Option Addr) (c0 : Nat) (hs0 : List (Option Addr × Nat)), e = .returned (.slice A0 ((table c).length) c0) ∧ Hp w w' [.tab A0 c0 76 hs0 75 2 (encM encT ((table c)))]) := by
  refine calls_of_cw (args := [.agg #[.int .i64 c.layers, .slice A_c_bounds c.bounds.length c_c_bounds]]) Try.func81 rfl rfl rfl rfl ?_
  have H := Hp.start w
  have R0 := H.ext
  have hvo := validate_ok hv
  have hrp : (List.replicate (Int.toNat c.layers) (⟨false, 0⟩ : Tight)).length = Int.toNat c.layers := by simp
  refine CW.seq fun K1 hK1 => ?_
  refine CW.region ?_
  refine LW.go rfl rfl (OW.box rfl fun b1 w1 N1 => ?_)
  replace H : Hp w w1 [.blk b1 24 [.int .i64 c.layers, .slice A_c_bounds c.bounds.length c_c_bounds]] := H.new N1 N1.blk
  replace R0 := H.ext
  refine LW.pure rfl rfl (RV.assign rfl) ?_
  refine LW.nil (hK1 _ _ ?_)
  refine CW.seq fun K2 hK2 => ?_
  refine CW.region ?_
  refine LW.pure rfl rfl (RV.fieldAddr f24_0 rfl) ?_
  refine LW.pure rfl rfl (RV.load1 k3 rfl ((H.blk 0 rfl).cells.off 0) rfl) ?_
  refine LW.go rfl rfl (OW.makeL (enc := (fun (_ : Unit) => [Value.slice none 0 0])) () s69 rfl rfl rfl rfl rfl (by omega) (by omega) (by omega) fun b2 w2 N2 => ?_)
  replace H : Hp w w2 [.own (some ⟨b2, 0, none⟩) (Int.toNat c.layers) 76 1 (List.map (fun (_ : Unit) => [Value.slice none 0 0]) ((List.replicate (Int.toNat c.layers) ()))), .blk b1 24 [.int .i64 c.layers, .slice A_c_bounds c.bounds.length c_c_bounds]] := H.made' (enc := (fun (_ : Unit) => [Value.slice none 0 0])) (l := (List.replicate (Int.toNat c.layers) ())) N2 N2.blk (fun _ => rfl) (by simp) (by first | decide | omega | simp)
  replace R0 := H.ext
  replace H : Hp w w2 [.tab (some ⟨b2, 0, none⟩) (Int.toNat c.layers) 76 (List.replicate (Int.toNat c.layers) (none, 0)) 75 2 (encM encT (List.replicate (Int.toNat c.layers) ([] : List Tight))), .blk b1 24 [.int .i64 c.layers, .slice A_c_bounds c.bounds.length c_c_bounds]] := H.asTab encT 0 75 2 rfl
  replace R0 := H.ext
  refine LW.pure rfl rfl (RV.assign rfl) ?_
  refine LW.nil (hK2 _ _ ?_)
  refine CW.seq fun K3 hK3 => ?_
  refine CW.seq fun K4 hK4 => ?_
  refine CW.region ?_
  refine LW.pure rfl rfl (RV.move rfl) ?_
  refine LW.pure rfl rfl (RV.len s69 rfl) ?_
  refine LW.pure rfl rfl (RV.move rfl) ?_
  refine LW.nil (hK4 _ _ ?_)
  refine CW.block ?_
  refine CW.loop (fun meas ρ wl1 => ∃ (i : Nat) (hsL1_3 : List (Option Addr × Nat)), meas = c.layers.toNat - i ∧ ρ = [(1, .pointer (some (⟨b1, 0, none⟩))), (2, .slice none 0 0), (3, .slice (some ⟨b2, 0, none⟩) (Int.toNat c.layers) (Int.toNat c.layers)), (14, .int .i64 (((Int.toNat c.layers : Nat) : Int))), (15, .int .i64 (↑i))] ∧ Hp w wl1 [.tab (some ⟨b2, 0, none⟩) (Int.toNat c.layers) 76 hsL1_3 75 2 (encM encT (tI c.layers.toNat i)), .blk b1 24 [.int .i64 c.layers, .slice A_c_bounds c.bounds.length c_c_bounds]] ∧ (i ≤ c.layers.toNat)) (c.layers.toNat - 0) ⟨_, ?_, 0, (List.replicate (Int.toNat c.layers) (none, 0)), rfl, rfl, ?_, ?_⟩ ?_
  · exact ⟨rfl, rfl, look_slice rfl (by first | rfl | omega | (simp; done)), rfl, look_int rfl (by first | rfl | omega | (simp; omega)), trivial⟩
  · exact H
  · omega
  rintro _ _ wl1 ⟨i, hsL1_3, rfl, rfl, H, hI1⟩
  have R0 := H.ext
  have htl := tI_len c.layers.toNat i
  refine CW.seq fun K5 hK5 => ?_
  refine CW.region ?_
  refine LW.pure rfl rfl (RV.lss rfl rfl) ?_
  refine LW.nil (hK5 _ _ ?_)
  refine CW.seq fun K6 hK6 => ?_
  refine CW.cond rfl (fun h1 => ?_) (fun h1 => ?_)
  ·
    have h1 := of_decide_eq_true h1
    refine CW.skip (hK6 _ _ ?_)
    refine CW.seq fun K7 hK7 => ?_
    refine CW.block ?_
    refine CW.seq fun K8 hK8 => ?_
    refine CW.region ?_
    refine LW.pure rfl rfl (RV.move rfl) ?_
    refine LW.pure rfl rfl (RV.assign rfl) ?_
    refine LW.nil (hK8 _ _ ?_)
    refine CW.seq fun K9 hK9 => ?_
    refine CW.region ?_
    refine LW.pure rfl rfl (RV.move rfl) ?_
    refine LW.pure rfl rfl (RV.move rfl) ?_
    refine LW.pure rfl rfl (RV.fieldAddr f24_0 rfl) ?_
    refine LW.pure rfl rfl (RV.load1 k3 rfl ((H.blk 1 rfl).cells.off 0) rfl) ?_
    refine LW.go rfl rfl (OW.makeL (enc := encT) (⟨false, 0⟩ : Tight) s76 rfl rfl rfl rfl rfl (by omega) (by omega) (by omega) fun b3 w3 N3 => ?_)
    replace H : Hp w w3 [.own (some ⟨b3, 0, none⟩) (Int.toNat c.layers) 75 2 (List.map encT ((List.replicate (Int.toNat c.layers) (⟨false, 0⟩ : Tight)))), .tab (some ⟨b2, 0, none⟩) (Int.toNat c.layers) 76 hsL1_3 75 2 (encM encT (tI c.layers.toNat i)), .blk b1 24 [.int .i64 c.layers, .slice A_c_bounds c.bounds.length c_c_bounds]] := H.made' (enc := encT) (l := (List.replicate (Int.toNat c.layers) (⟨false, 0⟩ : Tight))) N3 N3.blk (fun _ => rfl) (by simp) (by first | decide | omega | simp)
    replace R0 := H.ext
    have hb1 : 0 ≤ ((↑i) : Int) ∧ ((↑i) : Int) < ((Int.toNat c.layers : Nat) : Int) := by omega
    obtain ⟨x1, hx1⟩ := ex_at (l := tI c.layers.toNat i) (j := i) (by first | omega | (simp; omega))
    obtain ⟨B1, e1, hh1⟩ := (H.tab 1 rfl).hd hx1
    refine LW.pure rfl rfl (RV.indexAddr s69 rfl rfl hb1 ⟨_, rfl⟩) ?_
    refine LW.go rfl rfl (OW.storeO (enc := encH) (vs := [.slice (some ⟨b3, 0, none⟩) (Int.toNat c.layers) (Int.toNat c.layers)]) 0 ((some ⟨b3, 0, none⟩, Int.toNat c.layers), List.map encT ((List.replicate (Int.toNat c.layers) (⟨false, 0⟩ : Tight)))) k76 rfl rfl (H.tab 1 rfl).outer (fun _ => rfl) rfl ((H.tab 1 rfl).zipAt hx1 hh1) rfl rfl (by decide) rfl (by simp [encH, over]) fun w4 M1 O1 => ?_)
    replace H : Hp w w4 [.tab (some ⟨b2, 0, none⟩) (Int.toNat c.layers) 76 ((hsL1_3.set i (some ⟨b3, 0, none⟩, Int.toNat c.layers))) 75 2 (encM encT (((tI c.layers.toNat i).set i ((List.replicate (Int.toNat c.layers) (⟨false, 0⟩ : Tight)))))), .blk b1 24 [.int .i64 c.layers, .slice A_c_bounds c.bounds.length c_c_bounds]] := H.tabSet 1 0 (by decide) rfl rfl (lt_of_at hx1) M1 O1
    replace R0 := H.ext
    refine LW.nil (hK9 _ _ ?_)
    refine CW.region ?_
    refine LW.pure rfl rfl (RV.move rfl) ?_
    refine LW.pure rfl rfl (RV.move rfl) ?_
    have hb2 : 0 ≤ ((↑i) : Int) ∧ ((↑i) : Int) < ((Int.toNat c.layers : Nat) : Int) := by omega
    have kx1 : (((tI c.layers.toNat i).set i ((List.replicate (Int.toNat c.layers) (⟨false, 0⟩ : Tight)))))[i]? = some ((List.replicate (Int.toNat c.layers) (⟨false, 0⟩ : Tight))) := List.getElem?_set_self (by omega)
    obtain ⟨B2, e2, hh2⟩ := (H.tab 0 rfl).hd kx1
    refine LW.pure rfl rfl (RV.indexAddr s69 rfl rfl hb2 ⟨_, rfl⟩) ?_
    refine LW.pure rfl rfl (RV.load1 k76 rfl ((H.tab 0 rfl).cell kx1 hh2) rfl) ?_
    refine LW.pure rfl rfl (RV.move rfl) ?_
    have hb3 : 0 ≤ ((↑i) : Int) ∧ ((↑i) : Int) < ((((List.replicate (Int.toNat c.layers) (⟨false, 0⟩ : Tight))).length : Nat) : Int) := by omega
    have kx2 : ((List.replicate (Int.toNat c.layers) (⟨false, 0⟩ : Tight)))[i]? = some ((⟨false, 0⟩ : Tight)) := by simp [List.getElem?_replicate]; omega
    refine LW.pure rfl rfl (RV.indexAddr s76 rfl rfl hb3 (((H.tab 0 rfl).rowO kx1 hh2).sl.addr_ kx2)) ?_
    refine LW.pure rfl rfl (RV.fieldAddr f75_0 rfl) ?_
    refine LW.go rfl rfl (OW.storeO (enc := encT) (vs := [.bool true]) 0 ({ (⟨false, 0⟩ : Tight) with known := true }) k4 rfl rfl ((H.tab 0 rfl).rowO kx1 hh2) (fun _ => rfl) rfl kx2 rfl rfl (by decide) rfl rfl fun w5 M2 O2 => ?_)
    replace H : Hp w w5 [.tab (some ⟨b2, 0, none⟩) (Int.toNat c.layers) 76 ((hsL1_3.set i (some ⟨b3, 0, none⟩, Int.toNat c.layers))) 75 2 (encM encT (((((tI c.layers.toNat i).set i ((List.replicate (Int.toNat c.layers) (⟨false, 0⟩ : Tight))))).set i (((List.replicate (Int.toNat c.layers) (⟨false, 0⟩ : Tight))).set i ({ (⟨false, 0⟩ : Tight) with known := true }))))), .blk b1 24 [.int .i64 c.layers, .slice A_c_bounds c.bounds.length c_c_bounds]] := H.tabRow 0 rfl hh2 kx1 (by simp) M2 O2
    replace R0 := H.ext
    have hr1 : (((((tI c.layers.toNat i).set i ((List.replicate (Int.toNat c.layers) (⟨false, 0⟩ : Tight))))).set i (((List.replicate (Int.toNat c.layers) (⟨false, 0⟩ : Tight))).set i ({ (⟨false, 0⟩ : Tight) with known := true }))))[i]? = some (((List.replicate (Int.toNat c.layers) (⟨false, 0⟩ : Tight))).set i ({ (⟨false, 0⟩ : Tight) with known := true })) := List.getElem?_set_self (lt_of_at kx1)
    refine LW.nil (hK7 _ _ ?_)
    refine CW.region ?_
    refine LW.pure rfl rfl (RV.add rfl rfl (by omega)) ?_
    refine LW.pure rfl rfl (RV.move rfl) ?_
    refine LW.nil ?_
    refine ⟨_, ?_, _, ?_, i + 1, ((hsL1_3.set i (some ⟨b3, 0, none⟩, Int.toNat c.layers))), rfl, rfl, ?_, ?_⟩
    · omega
    · exact ⟨rfl, rfl, look_slice rfl (by first | rfl | omega | (simp; done)), rfl, look_int rfl (by first | rfl | omega | (simp; omega)), trivial⟩
    · simp only [List.set_set] at H; exact H
    · omega
  ·
    have h1 := of_decide_eq_false h1
    refine CW.exit (hK3 _ _ ?_)
    refine CW.seq fun K10 hK10 => ?_
    refine CW.seq fun K11 hK11 => ?_
    refine CW.region ?_
    refine LW.pure rfl rfl (RV.fieldAddr f24_1 rfl) ?_
    refine LW.pure rfl rfl (RV.load1 k22 rfl ((H.blk 1 rfl).cells.off 1) rfl) ?_
    refine LW.pure rfl rfl (RV.len s22 rfl) ?_
    refine LW.pure rfl rfl (RV.move rfl) ?_
    refine LW.nil (hK11 _ _ ?_)
    refine CW.block ?_
    refine CW.loop (fun meas ρ wl2 => ∃ (j : Nat) (hsL2_3 : List (Option Addr × Nat)), meas = c.bounds.length - j ∧ ρ = [(1, .pointer (some (⟨b1, 0, none⟩))), (2, .slice none 0 0), (3, .slice (some ⟨b2, 0, none⟩) (Int.toNat c.layers) (Int.toNat c.layers)), (33, .slice A_c_bounds c.bounds.length c_c_bounds), (34, .int .i64 (((c.bounds.length : Nat) : Int))), (35, .int .i64 (↑j))] ∧ Hp w wl2 [.tab (some ⟨b2, 0, none⟩) (Int.toNat c.layers) 76 hsL2_3 75 2 (encM encT (tB c.layers.toNat c.bounds j)), .blk b1 24 [.int .i64 c.layers, .slice A_c_bounds c.bounds.length c_c_bounds]] ∧ (j ≤ c.bounds.length)) (c.bounds.length - 0) ⟨_, ?_, 0, hsL1_3, rfl, rfl, ?_, ?_⟩ ?_
    · exact ⟨rfl, rfl, look_slice rfl (by first | rfl | omega | (simp; done)), rfl, rfl, look_int rfl (by first | rfl | omega | (simp; omega)), trivial⟩
    · have e : i = c.layers.toNat := (by omega)
      subst e; exact H
    · omega
    rintro _ _ wl2 ⟨j, hsL2_3, rfl, rfl, H, hI2⟩
    have R0 := H.ext
    have hT := tB_inv hv hp j
    have hTl := hT.sq.len
    refine CW.seq fun K12 hK12 => ?_
    refine CW.region ?_
    refine LW.pure rfl rfl (RV.lss rfl rfl) ?_
    refine LW.nil (hK12 _ _ ?_)
    refine CW.seq fun K13 hK13 => ?_
    refine CW.cond rfl (fun h2 => ?_) (fun h2 => ?_)
    ·
      have h2 := of_decide_eq_true h2
      refine CW.skip (hK13 _ _ ?_)
      refine CW.seq fun K14 hK14 => ?_
      refine CW.block ?_
      refine CW.seq fun K15 hK15 => ?_
      refine CW.region ?_
      have hb4 : 0 ≤ ((↑j) : Int) ∧ ((↑j) : Int) < ((c.bounds.length : Nat) : Int) := by omega
      obtain ⟨x2, hx2⟩ := ex_at (l := c.bounds) (j := j) (by first | omega | (simp; omega))
      have hr := bound_ok hv hx2
      refine LW.pure rfl rfl (RV.indexAddr s22 rfl rfl hb4 (h_c_bounds.addr hb4)) ?_
      refine LW.pure rfl rfl (RV.loadA [.int .i64 x2.a, .int .i64 x2.b, .int .i64 x2.most] k26 rfl ((h_c_bounds.at_ hx2).ext R0) rfl rfl) ?_
      refine LW.go rfl rfl (OW.alloc z26 fun b4 w6 N4 => ?_)
      replace H : Hp w w6 [.blk b4 26 [.int .i64 0, .int .i64 0, .int .i64 0], .tab (some ⟨b2, 0, none⟩) (Int.toNat c.layers) 76 hsL2_3 75 2 (encM encT (tB c.layers.toNat c.bounds j)), .blk b1 24 [.int .i64 c.layers, .slice A_c_bounds c.bounds.length c_c_bounds]] := H.new N4 N4.blk
      replace R0 := H.ext
      refine LW.go rfl rfl (OW.store k26 rfl rfl (H.blk 0 rfl) (off := 0) (vs := [.int .i64 x2.a, .int .i64 x2.b, .int .i64 x2.most]) rfl rfl rfl rfl rfl fun w7 S1 => ?_)
      replace H : Hp w w7 [.blk b4 26 [.int .i64 x2.a, .int .i64 x2.b, .int .i64 x2.most], .tab (some ⟨b2, 0, none⟩) (Int.toNat c.layers) 76 hsL2_3 75 2 (encM encT (tB c.layers.toNat c.bounds j)), .blk b1 24 [.int .i64 c.layers, .slice A_c_bounds c.bounds.length c_c_bounds]] := H.stored 0 rfl S1
      replace R0 := H.ext
      refine LW.nil (hK15 _ _ ?_)
      refine CW.draw [21] (fun _ => True) (.cons 0 1 (.cons 1 1 (.cons 2 1 (.cons 3 1 (.cons 4 1 (.cons 5 1 (.cons 6 1 (.cons 7 1 (.cons 8 1 (.cons 9 1 (.cons 10 1 (.cons 11 1 (.cons 12 1 (.cons 13 1 (.cons 14 1 (.cons 15 1 (.cons 16 1 (.cons 17 1 (.cons 18 1 (.cons 19 0 (.cons 20 1 (.cons 21 0 .nil)))))))))))))))))))))) mixed (by kernel_rfl) fun w8 E1 => ?_
      replace H := H.grow E1
      replace R0 := H.ext
      refine DW.fix rfl rfl rfl (fun _ EQ => RV.move rfl) ?_
      refine DW.fix rfl rfl rfl (fun _ EQ => RV.fieldAddr f26_0 rfl) ?_
      refine DW.fix rfl rfl rfl (fun _ EQ => RV.load1 k3 rfl (((H.grow EQ).blk 0 rfl).cells.off 0) rfl) ?_
      have hb5 : 0 ≤ ((x2.a) : Int) ∧ ((x2.a) : Int) < ((Int.toNat c.layers : Nat) : Int) := by omega
      obtain ⟨x3, hx3⟩ := ex_at (l := tB c.layers.toNat c.bounds j) (j := Int.toNat x2.a) (by first | omega | (simp; omega))
      try have hlx3 := hT.sq.rowAt hx3
      obtain ⟨B3, e3, hh3⟩ := (H.tab 1 rfl).hd hx3
      refine DW.fix rfl rfl rfl (fun _ EQ => RV.indexAddr s69 rfl rfl hb5 ⟨_, rfl⟩) ?_
      refine DW.fix rfl rfl rfl (fun _ EQ => RV.load1 k76 rfl (((H.grow EQ).tab 1 rfl).cell hx3 hh3) rfl) ?_
      refine DW.fix rfl rfl rfl (fun _ EQ => RV.fieldAddr f26_1 rfl) ?_
      refine DW.fix rfl rfl rfl (fun _ EQ => RV.load1 k3 rfl (((H.grow EQ).blk 0 rfl).cells.off 1) rfl) ?_
      refine DW.fix rfl rfl rfl (fun _ EQ => RV.move rfl) ?_
      refine DW.fix rfl rfl rfl (fun _ EQ => RV.fieldAddr f26_0 rfl) ?_
      refine DW.fix rfl rfl rfl (fun _ EQ => RV.load1 k3 rfl (((H.grow EQ).blk 0 rfl).cells.off 0) rfl) ?_
      have hb6 : 0 ≤ ((x2.a) : Int) ∧ ((x2.a) : Int) < ((Int.toNat c.layers : Nat) : Int) := by omega
      obtain ⟨x4, hx4⟩ := ex_at (l := tB c.layers.toNat c.bounds j) (j := Int.toNat x2.a) (by first | omega | (simp; omega))
      try have hlx4 := hT.sq.rowAt hx4
      obtain ⟨B4, e4, hh4⟩ := (H.tab 1 rfl).hd hx4
      refine DW.fix rfl rfl rfl (fun _ EQ => RV.indexAddr s69 rfl rfl hb6 ⟨_, rfl⟩) ?_
      refine DW.fix rfl rfl rfl (fun _ EQ => RV.load1 k76 rfl (((H.grow EQ).tab 1 rfl).cell hx4 hh4) rfl) ?_
      refine DW.fix rfl rfl rfl (fun _ EQ => RV.fieldAddr f26_1 rfl) ?_
      refine DW.fix rfl rfl rfl (fun _ EQ => RV.load1 k3 rfl (((H.grow EQ).blk 0 rfl).cells.off 1) rfl) ?_
      have hb7 : 0 ≤ ((x2.b) : Int) ∧ ((x2.b) : Int) < ((x4.length : Nat) : Int) := by omega
      obtain ⟨x5, hx5⟩ := ex_at (l := x4) (j := Int.toNat x2.b) (by first | omega | (simp; omega))
      try have hlx5 := hT.sq.rowAt hx5
      refine DW.fix rfl rfl rfl (fun _ EQ => RV.indexAddr s76 rfl rfl hb7 (((H.tab 1 rfl).rowO hx4 hh4).sl.addr_ hx5)) ?_
      refine DW.fix rfl rfl rfl (fun _ EQ => RV.loadA [.bool x5.known, .int .i64 x5.most] k75 rfl ((((H.grow EQ).tab 1 rfl).rowO hx4 hh4).sl.at_ hx5) rfl rfl) ?_
      refine DW.fix rfl rfl rfl (fun _ EQ => RV.fieldAddr f26_2 rfl) ?_
      refine DW.fix rfl rfl rfl (fun _ EQ => RV.load1 k3 rfl (((H.grow EQ).blk 0 rfl).cells.off 2) rfl) ?_
      refine DW.fix rfl rfl rfl (fun _ EQ => RV.build (vs := [.bool true, .int .i64 x2.most]) (cs := [.bool true, .int .i64 x2.most]) rfl (fun _ => by kernel_rfl)) ?_
      refine DW.sole rfl rfl rfl (OW.call c91 rfl (core_tighter (t := x5) (o := (⟨true, x2.most⟩ : Tight))) ?_)
      rintro _ w9 ⟨rfl, E2⟩
      refine ⟨_, rfl, fun _ => E2, ModX.ext E2, ?_⟩
      replace H := H.grow E2
      replace R0 := H.ext
      have hst := tB_succ (n := c.layers.toNat) hx2
      rw [put_of hx3, mg_of hx4 hx5] at hst
      have hb8 : 0 ≤ ((x2.b) : Int) ∧ ((x2.b) : Int) < ((x3.length : Nat) : Int) := by omega
      obtain ⟨x6, hx6⟩ := ex_at (l := x3) (j := Int.toNat x2.b) (by first | omega | (simp; omega))
      try have hlx6 := hT.sq.rowAt hx6
      refine DW.fix rfl rfl rfl (fun _ EQ => RV.indexAddr s76 rfl rfl hb8 (((H.tab 1 rfl).rowO hx3 hh3).sl.addr_ hx6)) ?_
      refine DW.sole rfl rfl rfl (OW.storeO (enc := encT) (vs := [.bool ((tighter x5 ((⟨true, x2.most⟩ : Tight))).known), .int .i64 ((tighter x5 ((⟨true, x2.most⟩ : Tight))).most)]) 0 (tighter x5 ((⟨true, x2.most⟩ : Tight))) k75 rfl rfl ((H.tab 1 rfl).rowO hx3 hh3) (fun _ => rfl) rfl hx6 rfl rfl (by decide) rfl rfl fun w10 M3 O3 => ?_)
      refine ⟨fun h => absurd h (by decide), M3.modx (fun _ _ => trivial), ?_⟩
      replace H : Hp w w10 [.blk b4 26 [.int .i64 x2.a, .int .i64 x2.b, .int .i64 x2.most], .tab (some ⟨b2, 0, none⟩) (Int.toNat c.layers) 76 hsL2_3 75 2 (encM encT (((tB c.layers.toNat c.bounds j).set (Int.toNat x2.a) (x3.set (Int.toNat x2.b) (tighter x5 ((⟨true, x2.most⟩ : Tight))))))), .blk b1 24 [.int .i64 c.layers, .slice A_c_bounds c.bounds.length c_c_bounds]] := H.tabRow 1 rfl hh3 hx3 (by simp) M3 O3
      replace R0 := H.ext
      have hr2 : (((tB c.layers.toNat c.bounds j).set (Int.toNat x2.a) (x3.set (Int.toNat x2.b) (tighter x5 ((⟨true, x2.most⟩ : Tight))))))[Int.toNat x2.a]? = some (x3.set (Int.toNat x2.b) (tighter x5 ((⟨true, x2.most⟩ : Tight)))) := List.getElem?_set_self (lt_of_at hx3)
      refine DW.nil (hK14 _ _ ?_)
      refine CW.region ?_
      refine LW.pure rfl rfl (RV.add rfl rfl (by omega)) ?_
      refine LW.pure rfl rfl (RV.move rfl) ?_
      refine LW.nil ?_
      replace H : Hp w w10 [.tab (some ⟨b2, 0, none⟩) (Int.toNat c.layers) 76 hsL2_3 75 2 (encM encT (((tB c.layers.toNat c.bounds j).set (Int.toNat x2.a) (x3.set (Int.toNat x2.b) (tighter x5 ((⟨true, x2.most⟩ : Tight))))))), .blk b1 24 [.int .i64 c.layers, .slice A_c_bounds c.bounds.length c_c_bounds]] := H.pick [1, 2] (by decide) rfl
      replace R0 := H.ext
      refine ⟨_, ?_, _, ?_, j + 1, hsL2_3, rfl, rfl, ?_, ?_⟩
      · omega
      · exact ⟨rfl, rfl, look_slice rfl (by first | rfl | omega | (simp; done)), rfl, rfl, look_int rfl (by first | rfl | omega | (simp; omega)), trivial⟩
      · rw [hst]; exact H
      · omega
    ·
      have h2 := of_decide_eq_false h2
      refine CW.exit (hK10 _ _ ?_)
      refine CW.seq fun K16 hK16 => ?_
      refine CW.seq fun K17 hK17 => ?_
      refine CW.region ?_
      refine LW.pure rfl rfl (RV.fieldAddr f24_0 rfl) ?_
      refine LW.pure rfl rfl (RV.load1 k3 rfl ((H.blk 1 rfl).cells.off 0) rfl) ?_
      refine LW.pure rfl rfl (RV.move rfl) ?_
      refine LW.nil (hK17 _ _ ?_)
      refine CW.block ?_
      refine CW.loop (fun meas ρ wl3 => ∃ (k : Nat) (hsL3_3 : List (Option Addr × Nat)), meas = c.layers.toNat - k ∧ ρ = [(1, .pointer (some (⟨b1, 0, none⟩))), (2, .slice none 0 0), (3, .slice (some ⟨b2, 0, none⟩) (Int.toNat c.layers) (Int.toNat c.layers)), (62, .int .i64 c.layers), (63, .int .i64 (↑k))] ∧ Hp w wl3 [.tab (some ⟨b2, 0, none⟩) (Int.toNat c.layers) 76 hsL3_3 75 2 (encM encT (tK c k)), .blk b1 24 [.int .i64 c.layers, .slice A_c_bounds c.bounds.length c_c_bounds]] ∧ (k ≤ c.layers.toNat)) (c.layers.toNat - 0) ⟨_, ?_, 0, hsL2_3, rfl, rfl, ?_, ?_⟩ ?_
      · exact ⟨rfl, rfl, look_slice rfl (by first | rfl | omega | (simp; done)), rfl, look_int rfl (by first | rfl | omega | (simp; omega)), trivial⟩
      · have e : j = c.bounds.length := (by omega)
        subst e; exact H
      · omega
      rintro _ _ wl3 ⟨k, hsL3_3, rfl, rfl, H, hI3⟩
      have R0 := H.ext
      refine CW.seq fun K18 hK18 => ?_
      refine CW.region ?_
      refine LW.pure rfl rfl (RV.lss rfl rfl) ?_
      refine LW.nil (hK18 _ _ ?_)
      refine CW.seq fun K19 hK19 => ?_
      refine CW.cond rfl (fun h3 => ?_) (fun h3 => ?_)
      ·
        have h3 := of_decide_eq_true h3
        refine CW.skip (hK19 _ _ ?_)
        refine CW.seq fun K20 hK20 => ?_
        refine CW.block ?_
        refine CW.seq fun K21 hK21 => ?_
        refine CW.region ?_
        refine LW.pure rfl rfl (RV.move rfl) ?_
        refine LW.pure rfl rfl (RV.assign rfl) ?_
        refine LW.nil (hK21 _ _ ?_)
        refine CW.seq fun K22 hK22 => ?_
        refine CW.region ?_
        refine LW.pure rfl rfl (RV.fieldAddr f24_0 rfl) ?_
        refine LW.pure rfl rfl (RV.load1 k3 rfl ((H.blk 1 rfl).cells.off 0) rfl) ?_
        refine LW.pure rfl rfl (RV.move rfl) ?_
        refine LW.nil (hK22 _ _ ?_)
        refine CW.block ?_
        refine CW.loop (fun meas ρ wl4 => ∃ (i2 : Nat) (hsL4_3 : List (Option Addr × Nat)), meas = c.layers.toNat - i2 ∧ ρ = [(1, .pointer (some (⟨b1, 0, none⟩))), (2, .slice none 0 0), (3, .slice (some ⟨b2, 0, none⟩) (Int.toNat c.layers) (Int.toNat c.layers)), (7, .int .i64 (↑k)), (62, .int .i64 c.layers), (63, .int .i64 (↑k)), (67, .int .i64 c.layers), (68, .int .i64 (↑i2))] ∧ Hp w wl4 [.tab (some ⟨b2, 0, none⟩) (Int.toNat c.layers) 76 hsL4_3 75 2 (encM encT (fwI c.layers.toNat (tK c k) k i2)), .blk b1 24 [.int .i64 c.layers, .slice A_c_bounds c.bounds.length c_c_bounds]] ∧ (i2 ≤ c.layers.toNat)) (c.layers.toNat - 0) ⟨_, ?_, 0, hsL3_3, rfl, rfl, ?_, ?_⟩ ?_
        · exact ⟨rfl, rfl, look_slice rfl (by first | rfl | omega | (simp; done)), rfl, rfl, rfl, rfl, look_int rfl (by first | rfl | omega | (simp; omega)), trivial⟩
        · exact H
        · omega
        rintro _ _ wl4 ⟨i2, hsL4_3, rfl, rfl, H, hI4⟩
        have R0 := H.ext
        refine CW.seq fun K23 hK23 => ?_
        refine CW.region ?_
        refine LW.pure rfl rfl (RV.lss rfl rfl) ?_
        refine LW.nil (hK23 _ _ ?_)
        refine CW.seq fun K24 hK24 => ?_
        refine CW.cond rfl (fun h4 => ?_) (fun h4 => ?_)
        ·
          have h4 := of_decide_eq_true h4
          refine CW.skip (hK24 _ _ ?_)
          refine CW.seq fun K25 hK25 => ?_
          refine CW.block ?_
          refine CW.seq fun K26 hK26 => ?_
          refine CW.region ?_
          refine LW.pure rfl rfl (RV.move rfl) ?_
          refine LW.pure rfl rfl (RV.assign rfl) ?_
          refine LW.nil (hK26 _ _ ?_)
          refine CW.seq fun K27 hK27 => ?_
          refine CW.region ?_
          refine LW.pure rfl rfl (RV.fieldAddr f24_0 rfl) ?_
          refine LW.pure rfl rfl (RV.load1 k3 rfl ((H.blk 1 rfl).cells.off 0) rfl) ?_
          refine LW.pure rfl rfl (RV.move rfl) ?_
          refine LW.nil (hK27 _ _ ?_)
          refine CW.block ?_
          refine CW.loop (fun meas ρ wl5 => ∃ (j2 : Nat) (hsL5_3 : List (Option Addr × Nat)), meas = c.layers.toNat - j2 ∧ ρ = [(1, .pointer (some (⟨b1, 0, none⟩))), (2, .slice none 0 0), (3, .slice (some ⟨b2, 0, none⟩) (Int.toNat c.layers) (Int.toNat c.layers)), (7, .int .i64 (↑k)), (8, .int .i64 (↑i2)), (62, .int .i64 c.layers), (63, .int .i64 (↑k)), (67, .int .i64 c.layers), (68, .int .i64 (↑i2)), (72, .int .i64 c.layers), (73, .int .i64 (↑j2))] ∧ Hp w wl5 [.tab (some ⟨b2, 0, none⟩) (Int.toNat c.layers) 76 hsL5_3 75 2 (encM encT (fwJ (fwI c.layers.toNat (tK c k) k i2) k i2 j2)), .blk b1 24 [.int .i64 c.layers, .slice A_c_bounds c.bounds.length c_c_bounds]] ∧ (j2 ≤ c.layers.toNat)) (c.layers.toNat - 0) ⟨_, ?_, 0, hsL4_3, rfl, rfl, ?_, ?_⟩ ?_
          · exact ⟨rfl, rfl, look_slice rfl (by first | rfl | omega | (simp; done)), rfl, rfl, rfl, rfl, rfl, rfl, rfl, look_int rfl (by first | rfl | omega | (simp; omega)), trivial⟩
          · exact H
          · omega
          rintro _ _ wl5 ⟨j2, hsL5_3, rfl, rfl, H, hI5⟩
          have R0 := H.ext
          have hT := tR_inv hv hp (k := k) (i := i2) (j := j2) (by omega) (by omega) (by omega)
          have hTl := hT.sq.len
          refine CW.seq fun K28 hK28 => ?_
          refine CW.region ?_
          refine LW.pure rfl rfl (RV.lss rfl rfl) ?_
          refine LW.nil (hK28 _ _ ?_)
          refine CW.seq fun K29 hK29 => ?_
          refine CW.cond rfl (fun h5 => ?_) (fun h5 => ?_)
          ·
            have h5 := of_decide_eq_true h5
            refine CW.skip (hK29 _ _ ?_)
            refine CW.seq fun K30 hK30 => ?_
            refine CW.block ?_
            refine CW.seq fun K31 hK31 => ?_
            refine CW.region ?_
            refine LW.pure rfl rfl (RV.move rfl) ?_
            refine LW.pure rfl rfl (RV.assign rfl) ?_
            refine LW.nil (hK31 _ _ ?_)
            refine CW.draw [29] (fun _ => True) (.cons 0 1 (.cons 1 1 (.cons 2 1 (.cons 3 1 (.cons 4 1 (.cons 5 1 (.cons 6 1 (.cons 7 1 (.cons 8 1 (.cons 9 1 (.cons 10 1 (.cons 11 1 (.cons 12 1 (.cons 13 1 (.cons 14 1 (.cons 15 1 (.cons 16 1 (.cons 17 1 (.cons 18 1 (.cons 19 1 (.cons 20 1 (.cons 21 1 (.cons 22 1 (.cons 23 1 (.cons 24 1 (.cons 25 1 (.cons 26 0 (.cons 27 0 (.cons 28 1 (.cons 29 0 .nil)))))))))))))))))))))))))))))) mixed (by kernel_rfl) fun w11 E3 => ?_
            replace H := H.grow E3
            replace R0 := H.ext
            refine DW.fix rfl rfl rfl (fun _ EQ => RV.move rfl) ?_
            refine DW.fix rfl rfl rfl (fun _ EQ => RV.move rfl) ?_
            have hb9 : 0 ≤ ((↑i2) : Int) ∧ ((↑i2) : Int) < ((Int.toNat c.layers : Nat) : Int) := by omega
            obtain ⟨x7, hx7⟩ := ex_at (l := fwJ (fwI c.layers.toNat (tK c k) k i2) k i2 j2) (j := i2) (by first | omega | (simp; omega))
            try have hlx7 := hT.sq.rowAt hx7
            obtain ⟨B5, e5, hh5⟩ := (H.tab 0 rfl).hd hx7
            refine DW.fix rfl rfl rfl (fun _ EQ => RV.indexAddr s69 rfl rfl hb9 ⟨_, rfl⟩) ?_
            refine DW.fix rfl rfl rfl (fun _ EQ => RV.load1 k76 rfl (((H.grow EQ).tab 0 rfl).cell hx7 hh5) rfl) ?_
            refine DW.fix rfl rfl rfl (fun _ EQ => RV.move rfl) ?_
            refine DW.fix rfl rfl rfl (fun _ EQ => RV.move rfl) ?_
            refine DW.fix rfl rfl rfl (fun _ EQ => RV.move rfl) ?_
            have hb10 : 0 ≤ ((↑i2) : Int) ∧ ((↑i2) : Int) < ((Int.toNat c.layers : Nat) : Int) := by omega
            obtain ⟨x8, hx8⟩ := ex_at (l := fwJ (fwI c.layers.toNat (tK c k) k i2) k i2 j2) (j := i2) (by first | omega | (simp; omega))
            try have hlx8 := hT.sq.rowAt hx8
            obtain ⟨B6, e6, hh6⟩ := (H.tab 0 rfl).hd hx8
            refine DW.fix rfl rfl rfl (fun _ EQ => RV.indexAddr s69 rfl rfl hb10 ⟨_, rfl⟩) ?_
            refine DW.fix rfl rfl rfl (fun _ EQ => RV.load1 k76 rfl (((H.grow EQ).tab 0 rfl).cell hx8 hh6) rfl) ?_
            refine DW.fix rfl rfl rfl (fun _ EQ => RV.move rfl) ?_
            have hb11 : 0 ≤ ((↑j2) : Int) ∧ ((↑j2) : Int) < ((x8.length : Nat) : Int) := by omega
            obtain ⟨x9, hx9⟩ := ex_at (l := x8) (j := j2) (by first | omega | (simp; omega))
            try have hlx9 := hT.sq.rowAt hx9
            refine DW.fix rfl rfl rfl (fun _ EQ => RV.indexAddr s76 rfl rfl hb11 (((H.tab 0 rfl).rowO hx8 hh6).sl.addr_ hx9)) ?_
            refine DW.fix rfl rfl rfl (fun _ EQ => RV.loadA [.bool x9.known, .int .i64 x9.most] k75 rfl ((((H.grow EQ).tab 0 rfl).rowO hx8 hh6).sl.at_ hx9) rfl rfl) ?_
            refine DW.fix rfl rfl rfl (fun _ EQ => RV.move rfl) ?_
            refine DW.fix rfl rfl rfl (fun _ EQ => RV.move rfl) ?_
            have hb12 : 0 ≤ ((↑i2) : Int) ∧ ((↑i2) : Int) < ((Int.toNat c.layers : Nat) : Int) := by omega
            obtain ⟨x10, hx10⟩ := ex_at (l := fwJ (fwI c.layers.toNat (tK c k) k i2) k i2 j2) (j := i2) (by first | omega | (simp; omega))
            try have hlx10 := hT.sq.rowAt hx10
            obtain ⟨B7, e7, hh7⟩ := (H.tab 0 rfl).hd hx10
            refine DW.fix rfl rfl rfl (fun _ EQ => RV.indexAddr s69 rfl rfl hb12 ⟨_, rfl⟩) ?_
            refine DW.fix rfl rfl rfl (fun _ EQ => RV.load1 k76 rfl (((H.grow EQ).tab 0 rfl).cell hx10 hh7) rfl) ?_
            refine DW.fix rfl rfl rfl (fun _ EQ => RV.move rfl) ?_
            have hb13 : 0 ≤ ((↑k) : Int) ∧ ((↑k) : Int) < ((x10.length : Nat) : Int) := by omega
            obtain ⟨x11, hx11⟩ := ex_at (l := x10) (j := k) (by first | omega | (simp; omega))
            try have hlx11 := hT.sq.rowAt hx11
            refine DW.fix rfl rfl rfl (fun _ EQ => RV.indexAddr s76 rfl rfl hb13 (((H.tab 0 rfl).rowO hx10 hh7).sl.addr_ hx11)) ?_
            refine DW.fix rfl rfl rfl (fun _ EQ => RV.loadA [.bool x11.known, .int .i64 x11.most] k75 rfl ((((H.grow EQ).tab 0 rfl).rowO hx10 hh7).sl.at_ hx11) rfl rfl) ?_
            refine DW.fix rfl rfl rfl (fun _ EQ => RV.move rfl) ?_
            refine DW.fix rfl rfl rfl (fun _ EQ => RV.move rfl) ?_
            have hb14 : 0 ≤ ((↑k) : Int) ∧ ((↑k) : Int) < ((Int.toNat c.layers : Nat) : Int) := by omega
            obtain ⟨x12, hx12⟩ := ex_at (l := fwJ (fwI c.layers.toNat (tK c k) k i2) k i2 j2) (j := k) (by first | omega | (simp; omega))
            try have hlx12 := hT.sq.rowAt hx12
            obtain ⟨B8, e8, hh8⟩ := (H.tab 0 rfl).hd hx12
            refine DW.fix rfl rfl rfl (fun _ EQ => RV.indexAddr s69 rfl rfl hb14 ⟨_, rfl⟩) ?_
            refine DW.fix rfl rfl rfl (fun _ EQ => RV.load1 k76 rfl (((H.grow EQ).tab 0 rfl).cell hx12 hh8) rfl) ?_
            refine DW.fix rfl rfl rfl (fun _ EQ => RV.move rfl) ?_
            have hb15 : 0 ≤ ((↑j2) : Int) ∧ ((↑j2) : Int) < ((x12.length : Nat) : Int) := by omega
            obtain ⟨x13, hx13⟩ := ex_at (l := x12) (j := j2) (by first | omega | (simp; omega))
            have hbA := hT.bnd i2 k (by omega) (by omega)
            rw [mg_of hx10 hx11] at hbA
            have hbB := hT.bnd k j2 (by omega) (by omega)
            rw [mg_of hx12 hx13] at hbB
            refine DW.fix rfl rfl rfl (fun _ EQ => RV.indexAddr s76 rfl rfl hb15 (((H.tab 0 rfl).rowO hx12 hh8).sl.addr_ hx13)) ?_
            refine DW.fix rfl rfl rfl (fun _ EQ => RV.loadA [.bool x13.known, .int .i64 x13.most] k75 rfl ((((H.grow EQ).tab 0 rfl).rowO hx12 hh8).sl.at_ hx13) rfl rfl) ?_
            refine DW.sole rfl rfl rfl (OW.call c92 rfl (core_over (t := x11) (o := x13) (by omega)) ?_)
            rintro _ w12 ⟨rfl, E4⟩
            refine ⟨_, rfl, fun _ => E4, ModX.ext E4, ?_⟩
            replace H := H.grow E4
            replace R0 := H.ext
            refine DW.sole rfl rfl rfl (OW.call c91 rfl (core_tighter (t := x9) (o := tover x11 x13)) ?_)
            rintro _ w13 ⟨rfl, E5⟩
            refine ⟨_, rfl, fun _ => E5, ModX.ext E5, ?_⟩
            replace H := H.grow E5
            replace R0 := H.ext
            have hst : fwJ (fwI c.layers.toNat (tK c k) k i2) k i2 (j2 + 1) = _ := fwAt_of hx7 hx8 hx9 hx10 hx11 hx12 hx13
            have hb16 : 0 ≤ ((↑j2) : Int) ∧ ((↑j2) : Int) < ((x7.length : Nat) : Int) := by omega
            obtain ⟨x14, hx14⟩ := ex_at (l := x7) (j := j2) (by first | omega | (simp; omega))
            try have hlx14 := hT.sq.rowAt hx14
            refine DW.fix rfl rfl rfl (fun _ EQ => RV.indexAddr s76 rfl rfl hb16 (((H.tab 0 rfl).rowO hx7 hh5).sl.addr_ hx14)) ?_
            refine DW.sole rfl rfl rfl (OW.storeO (enc := encT) (vs := [.bool ((tighter x9 (tover x11 x13)).known), .int .i64 ((tighter x9 (tover x11 x13)).most)]) 0 (tighter x9 (tover x11 x13)) k75 rfl rfl ((H.tab 0 rfl).rowO hx7 hh5) (fun _ => rfl) rfl hx14 rfl rfl (by decide) rfl rfl fun w14 M4 O4 => ?_)
            refine ⟨fun h => absurd h (by decide), M4.modx (fun _ _ => trivial), ?_⟩
            replace H : Hp w w14 [.tab (some ⟨b2, 0, none⟩) (Int.toNat c.layers) 76 hsL5_3 75 2 (encM encT (((fwJ (fwI c.layers.toNat (tK c k) k i2) k i2 j2).set i2 (x7.set j2 (tighter x9 (tover x11 x13)))))), .blk b1 24 [.int .i64 c.layers, .slice A_c_bounds c.bounds.length c_c_bounds]] := H.tabRow 0 rfl hh5 hx7 (by simp) M4 O4
            replace R0 := H.ext
            have hr3 : (((fwJ (fwI c.layers.toNat (tK c k) k i2) k i2 j2).set i2 (x7.set j2 (tighter x9 (tover x11 x13)))))[i2]? = some (x7.set j2 (tighter x9 (tover x11 x13))) := List.getElem?_set_self (lt_of_at hx7)
            refine DW.nil (hK30 _ _ ?_)
            refine CW.region ?_
            refine LW.pure rfl rfl (RV.add rfl rfl (by omega)) ?_
            refine LW.pure rfl rfl (RV.move rfl) ?_
            refine LW.nil ?_
            refine ⟨_, ?_, _, ?_, j2 + 1, hsL5_3, rfl, rfl, ?_, ?_⟩
            · omega
            · exact ⟨rfl, rfl, look_slice rfl (by first | rfl | omega | (simp; done)), rfl, rfl, rfl, rfl, rfl, rfl, rfl, look_int rfl (by first | rfl | omega | (simp; omega)), trivial⟩
            · rw [hst]; exact H
            · omega
          ·
            have h5 := of_decide_eq_false h5
            refine CW.exit (hK25 _ _ ?_)
            refine CW.region ?_
            refine LW.pure rfl rfl (RV.add rfl rfl (by omega)) ?_
            refine LW.pure rfl rfl (RV.move rfl) ?_
            refine LW.nil ?_
            refine ⟨_, ?_, _, ?_, i2 + 1, hsL5_3, rfl, rfl, ?_, ?_⟩
            · omega
            · exact ⟨rfl, rfl, look_slice rfl (by first | rfl | omega | (simp; done)), rfl, rfl, rfl, rfl, look_int rfl (by first | rfl | omega | (simp; omega)), trivial⟩
            · have e : j2 = c.layers.toNat := (by omega)
              subst e; exact H
            · omega
        ·
          have h4 := of_decide_eq_false h4
          refine CW.exit (hK20 _ _ ?_)
          refine CW.region ?_
          refine LW.pure rfl rfl (RV.add rfl rfl (by omega)) ?_
          refine LW.pure rfl rfl (RV.move rfl) ?_
          refine LW.nil ?_
          refine ⟨_, ?_, _, ?_, k + 1, hsL4_3, rfl, rfl, ?_, ?_⟩
          · omega
          · exact ⟨rfl, rfl, look_slice rfl (by first | rfl | omega | (simp; done)), rfl, look_int rfl (by first | rfl | omega | (simp; omega)), trivial⟩
          · have e : i2 = c.layers.toNat := (by omega)
            subst e; exact H
          · omega
      ·
        have h3 := of_decide_eq_false h3
        refine CW.exit (hK16 _ _ ?_)
        refine CW.seq fun K32 hK32 => ?_
        refine CW.region ?_
        refine LW.pure rfl rfl (RV.move rfl) ?_
        refine LW.pure rfl rfl (RV.assign rfl) ?_
        refine LW.nil (hK32 _ _ ?_)
        refine CW.ret ?_
        refine ⟨_, (ResOK.one rfl), ?_⟩
        replace H : Hp w wl3 [.tab (some ⟨b2, 0, none⟩) (Int.toNat c.layers) 76 hsL3_3 75 2 (encM encT (tK c k))] := H.pick [0] (by decide) rfl
        replace R0 := H.ext
        refine ⟨(some ⟨b2, 0, none⟩), (Int.toNat c.layers), hsL3_3, ?_, ?_⟩
        · have e : k = c.layers.toNat := by omega
          subst e; have hq := (tK_inv hv hp (k := c.layers.toNat) (Nat.le_refl _)).sq.len; simp [show table c = tK c c.layers.toNat from rfl, hq]
        · have e : k = c.layers.toNat := by omega
          subst e; exact H
end Go.Core

set_option linter.unusedVariables false
set_option linter.unusedSimpArgs false
namespace Go.Core
open Go.Tb
theorem relaxTo_quiet {bs : List Bound} {s : RS} (hb : ∀ x ∈ bs, 0 ≤ x.b) : ∀ j : Nat, (relaxTo bs s j).2.2 < 0 → relaxTo bs s j = s ∧ ∀ (i : Nat) (x : Bound), i < j → bs[i]? = some x → ¬ (gi s.1 x.a + x.most < gi s.1 x.b)
  | 0, _ => ⟨rfl, fun i x h => by omega⟩
  | j + 1, h => by
    cases hx : bs[j]? with
    | none =>
      simp only [relaxTo, hx] at h ⊢
      obtain ⟨h1, h2⟩ := relaxTo_quiet hb j h
      refine ⟨h1, fun i x hi hxi => ?_⟩
      by_cases hij : i = j
      · subst hij; rw [hx] at hxi; cases hxi
      · exact h2 i x (by omega) hxi
    | some y =>
      have hy := hb y (List.mem_of_getElem? hx)
      rw [relaxTo_succ hx] at h ⊢
      unfold relaxB at h ⊢
      split at h
      · simp at h; omega
      · rename_i hc
        obtain ⟨h1, h2⟩ := relaxTo_quiet hb j h
        rw [h1] at hc
        rw [if_neg (by rw [h1]; exact hc)]
        refine ⟨h1, fun i x hi hxi => ?_⟩
        by_cases hij : i = j
        · subst hij; rw [hx] at hxi; cases hxi; exact hc
        · exact h2 i x (by omega) hxi
theorem relax_quiet {c : Core} (hv : validate c = 0) (h : clashes c = false) : ∀ x ∈ c.bounds, gi (relax c).1 x.b - gi (relax c).1 x.a ≤ x.most := by
  have hvo := validate_ok hv
  have hb : ∀ x ∈ c.bounds, 0 ≤ x.b := fun x hx => (right_ok (hvo.2.2.2 x hx)).2.2.1
  obtain ⟨m, hm⟩ : ∃ m, c.layers.toNat = m + 1 := ⟨c.layers.toNat - 1, by omega⟩
  have hr : relax c = relaxTo c.bounds ((relaxN c m).1, (relaxN c m).2.1, -1) c.bounds.length := by unfold relax; rw [hm]; rfl
  have hl : (relax c).2.2 < 0 := by unfold clashes at h; have := of_decide_eq_false h; omega
  rw [hr] at hl
  obtain ⟨h1, h2⟩ := relaxTo_quiet hb _ hl
  intro x hx
  obtain ⟨i, hi⟩ := List.getElem?_of_mem hx
  have := h2 i x (lt_of_at hi) hi
  rw [hr, h1]
  omega
def pot (c : Core) (i : Nat) : Int := (relax c).1.getD i 0
theorem pot_of {c : Core} (hv : validate c = 0) (h : clashes c = false) : Pot c (pot c) := fun x hx => relax_quiet hv h x hx
theorem tables_ok {c : Core} (hv : validate c = 0) (h : (tables c).2 = 0) : clashes c = false ∧ (tables c).1 = table c ∧ TInv c.layers.toNat (pot c) 2560000 (tables c).1 := by
  unfold tables at *
  cases hc : clashes c
  · simp [hc, table]
    exact tK_inv hv (pot_of hv hc) (Nat.le_refl _)
  · simp [hc] at h
theorem tables_no {c : Core} (h : ¬ (tables c).2 = 0) : clashes c = true ∧ (tables c).2 = 10 := by
  unfold tables at *
  cases hc : clashes c <;> simp [hc] at h ⊢
theorem layers_ok {c : Core} {l : List Int} (h : layersE c l = 0) : validate c = 0 ∧ ∀ n ∈ l, 0 ≤ n ∧ n < c.layers := by
  unfold layersE at h
  split at h
  · rename_i hv
    split at h
    · rename_i ha
      refine ⟨hv, fun n hn => ?_⟩
      have := within_iff.1 (List.all_eq_true.1 ha n hn)
      omega
    · omega
  · rename_i hv; exact absurd h hv
theorem layers_ok2 {c : Core} {a b : Int} (h : layersE c [a, b] = 0) : validate c = 0 ∧ 0 ≤ a ∧ a < c.layers ∧ 0 ≤ b ∧ b < c.layers := by
  obtain ⟨hv, hl⟩ := layers_ok h
  have h1 := hl a (by simp)
  have h2 := hl b (by simp)
  exact ⟨hv, h1.1, h1.2, h2.1, h2.2⟩
def tightest (c : Core) (a b : Int) : Int × Bool × Int :=
  if layersE c [a, b] = 0 then
    if clashes c = true then (0, false, 10)
    else if (mg (table c) a.toNat b.toNat).known = true then ((mg (table c) a.toNat b.toNat).most, true, 0) else (0, false, 0)
  else (0, false, layersE c [a, b])
def followsM (m : TM) (x : Bound) : Bool := (mg m x.a.toNat x.b.toNat).known && decide ((mg m x.a.toNat x.b.toNat).most ≤ x.most)
def follows (c : Core) (x : Bound) : Bool × Int :=
  if layersE c [x.a, x.b] = 0 then
    if right x c.layers = true then
      if clashes c = true then (false, 10) else (followsM (table c) x, 0)
    else (false, 1)
  else (false, layersE c [x.a, x.b])
def fixedM (m : TM) (a b : Int) : Bool := (mg m a.toNat b.toNat).known && ((mg m b.toNat a.toNat).known && decide ((mg m a.toNat b.toNat).most = -(mg m b.toNat a.toNat).most))
def fixed (c : Core) (a b : Int) : Int × Bool × Int :=
  if layersE c [a, b] = 0 then
    if clashes c = true then (0, false, 10)
    else if fixedM (table c) a b = true then ((mg (table c) a.toNat b.toNat).most, true, 0) else (0, false, 0)
  else (0, false, layersE c [a, b])
end Go.Core

namespace Go.Core
open Go.Tb Go.Proofs
set_option linter.unusedVariables false
set_option linter.unusedSimpArgs false
theorem c58 : callable Try.prog 58 = true := by kernel_rfl
theorem c60 : callable Try.prog 60 = true := by kernel_rfl
theorem c81 : callable Try.prog 81 = true := by kernel_rfl
set_option maxRecDepth 20000 in
theorem core_tables {c : Core} {A_c_bounds : Option Addr} {c_c_bounds : Nat} {w : World} (h_c_bounds : Sl w A_c_bounds c_c_bounds 3 (c.bounds.map encB)) (hv : validate c = 0) : Calls Try.prog 60 #[.agg #[.int .i64 c.layers, .slice A_c_bounds c.bounds.length c_c_bounds]] w (fun e w' => ∃ (A0 : Option Addr) (c0 : Nat) (hs0 : List (Option Addr × Nat)), e = .returned (.tuple #[.slice A0 (((tables c).1).length) c0, .int .i64 ((tables c).2)]) ∧ Hp w w' [.tab A0 c0 76 hs0 75 2 (encM encT (((tables c).1)))]) := by
  refine calls_of_cw (args := [.agg #[.int .i64 c.layers, .slice A_c_bounds c.bounds.length c_c_bounds]]) Try.func60 rfl rfl rfl rfl ?_
  have H := Hp.start w
  have R0 := H.ext
  refine CW.seq fun K1 hK1 => ?_
  refine CW.region ?_
  refine LW.go rfl rfl (OW.box rfl fun b1 w1 N1 => ?_)
  replace H : Hp w w1 [.blk b1 24 [.int .i64 c.layers, .slice A_c_bounds c.bounds.length c_c_bounds]] := H.new N1 N1.blk
  replace R0 := H.ext
  refine LW.pure rfl rfl (RV.assign rfl) ?_
  refine LW.pure rfl rfl (RV.assign rfl) ?_
  refine LW.nil (hK1 _ _ ?_)
  refine CW.seq fun K2 hK2 => ?_
  refine CW.seq fun K3 hK3 => ?_
  refine CW.region ?_
  refine LW.pure rfl rfl (RV.loadA [.int .i64 c.layers, .slice A_c_bounds c.bounds.length c_c_bounds] k24 rfl (H.blk 0 rfl).cells rfl rfl) ?_
  refine LW.go rfl rfl (OW.call c68 rfl (core_clashes (c := c) (h_c_bounds.ext R0) (hv)) ?_)
  rintro _ w2 ⟨rfl, E1⟩
  refine ⟨_, rfl, ?_⟩
  replace H := H.grow E1
  replace R0 := H.ext
  refine LW.nil (hK3 _ _ ?_)
  refine CW.cond rfl (fun h1 => ?_) (fun h1 => ?_)
  ·
    refine CW.seq fun K4 hK4 => ?_
    refine CW.region ?_
    refine LW.pure rfl rfl (RV.assign rfl) ?_
    refine LW.pure rfl rfl (RV.assign rfl) ?_
    refine LW.nil (hK4 _ _ ?_)
    refine CW.ret ?_
    refine ⟨_, (ResOK.two rfl rfl), ?_⟩
    replace H : Hp w w2 [.tab none 0 76 ([]) 75 2 (encM encT (([] : List (List Tight)))), .blk b1 24 [.int .i64 c.layers, .slice A_c_bounds c.bounds.length c_c_bounds]] := H.nilTab encT 76 75 2
    replace R0 := H.ext
    replace H : Hp w w2 [.tab none 0 76 ([]) 75 2 (encM encT (([] : List (List Tight))))] := H.pick [0] (by decide) rfl
    replace R0 := H.ext
    refine ⟨none, 0, ([]), ?_, ?_⟩
    · simp [tables, h1]
    · have e : (tables c).1 = [] := by simp [tables, h1]
      rw [e]; exact H
  ·
    refine CW.skip (hK2 _ _ ?_)
    refine CW.seq fun K5 hK5 => ?_
    refine CW.region ?_
    refine LW.pure rfl rfl (RV.loadA [.int .i64 c.layers, .slice A_c_bounds c.bounds.length c_c_bounds] k24 rfl (H.blk 0 rfl).cells rfl rfl) ?_
    refine LW.go rfl rfl (OW.call c81 rfl (core_table (c := c) (h_c_bounds.ext R0) (hv) (pot_of hv h1)) ?_)
    rintro _ w3 ⟨A2_0, c2_0, hs2_0, rfl, E2⟩
    refine ⟨_, rfl, ?_⟩
    replace H : Hp w w3 [.tab A2_0 c2_0 76 hs2_0 75 2 (encM encT ((table c))), .blk b1 24 [.int .i64 c.layers, .slice A_c_bounds c.bounds.length c_c_bounds]] := H.append E2
    replace R0 := H.ext
    refine LW.pure rfl rfl (RV.assign rfl) ?_
    refine LW.pure rfl rfl (RV.assign rfl) ?_
    refine LW.nil (hK5 _ _ ?_)
    refine CW.ret ?_
    refine ⟨_, (ResOK.two rfl rfl), ?_⟩
    replace H : Hp w w3 [.tab A2_0 c2_0 76 hs2_0 75 2 (encM encT ((table c)))] := H.pick [0] (by decide) rfl
    replace R0 := H.ext
    refine ⟨A2_0, c2_0, hs2_0, ?_, ?_⟩
    · simp [tables, h1]
    · have e : (tables c).1 = table c := by simp [tables, h1]
      rw [e]; exact H
set_option maxRecDepth 20000 in
theorem core_Tightest {c : Core} {A_c_bounds : Option Addr} {c_c_bounds : Nat} {a : Int} {b : Int} {w : World} (h_c_bounds : Sl w A_c_bounds c_c_bounds 3 (c.bounds.map encB)) : Calls Try.prog 21 #[.agg #[.int .i64 c.layers, .slice A_c_bounds c.bounds.length c_c_bounds], .int .i64 a, .int .i64 b] w (Ret w (.tuple #[.int .i64 ((tightest c a b).1), .bool ((tightest c a b).2.1), .int .i64 ((tightest c a b).2.2)])) := by
  refine calls_of_cw (args := [.agg #[.int .i64 c.layers, .slice A_c_bounds c.bounds.length c_c_bounds], .int .i64 a, .int .i64 b]) Try.func21 rfl rfl rfl rfl ?_
  have H := Hp.start w
  have R0 := H.ext
  refine CW.seq fun K1 hK1 => ?_
  refine CW.region ?_
  refine LW.go rfl rfl (OW.box rfl fun b1 w1 N1 => ?_)
  replace H : Hp w w1 [.blk b1 24 [.int .i64 c.layers, .slice A_c_bounds c.bounds.length c_c_bounds]] := H.new N1 N1.blk
  replace R0 := H.ext
  refine LW.pure rfl rfl (RV.assign rfl) ?_
  refine LW.pure rfl rfl (RV.assign rfl) ?_
  refine LW.pure rfl rfl (RV.assign rfl) ?_
  refine LW.nil (hK1 _ _ ?_)
  refine CW.seq fun K2 hK2 => ?_
  refine CW.seq fun K3 hK3 => ?_
  refine CW.region ?_
  refine LW.pure rfl rfl (RV.loadA [.int .i64 c.layers, .slice A_c_bounds c.bounds.length c_c_bounds] k24 rfl (H.blk 0 rfl).cells rfl rfl) ?_
  refine LW.pure rfl rfl (RV.move rfl) ?_
  refine LW.pure rfl rfl (RV.move rfl) ?_
  refine LW.go rfl rfl (OW.buildSlice (e := 3) (vs := [.int .i64 a, .int .i64 b]) (cs := [.int .i64 a, .int .i64 b]) rfl (fun _ => by kernel_rfl) fun b2 w2 N2 => ?_)
  replace H : Hp w w2 [.own (some ⟨b2, 0, none⟩) 2 3 1 (List.map encI (([a, b] : List Int))), .blk b1 24 [.int .i64 c.layers, .slice A_c_bounds c.bounds.length c_c_bounds]] := H.made' (enc := encI) (l := ([a, b] : List Int)) N2 N2.blk (fun _ => rfl) (by simp) (by first | decide | omega | simp)
  replace R0 := H.ext
  refine LW.go rfl rfl (OW.call c58 rfl (core_layers (c := c) (l := ([a, b] : List Int)) (h_c_bounds.ext R0) (H.own 0 rfl).sl) ?_)
  rintro _ w3 ⟨rfl, E1⟩
  refine ⟨_, rfl, ?_⟩
  replace H := H.grow E1
  replace R0 := H.ext
  refine LW.pure rfl rfl (RV.assign rfl) ?_
  refine LW.nil (hK3 _ _ ?_)
  refine CW.seq fun K4 hK4 => ?_
  refine CW.region ?_
  refine LW.pure rfl rfl (RV.move rfl) ?_
  refine LW.pure rfl rfl (RV.nei rfl rfl) ?_
  refine LW.nil (hK4 _ _ ?_)
  refine CW.cond rfl (fun h1 => ?_) (fun h1 => ?_)
  ·
    have h1 := (Bool.not_eq_true' _).mp h1
    have h1 := of_decide_eq_false h1
    refine CW.seq fun K5 hK5 => ?_
    refine CW.region ?_
    refine LW.pure rfl rfl (RV.move rfl) ?_
    refine LW.pure rfl rfl (RV.assign rfl) ?_
    refine LW.pure rfl rfl (RV.assign rfl) ?_
    refine LW.pure rfl rfl (RV.assign rfl) ?_
    refine LW.nil (hK5 _ _ ?_)
    refine CW.ret ?_
    refine ⟨_, (ResOK.three rfl rfl rfl), ?_⟩
    refine ⟨?_, R0⟩
    · simp [tightest, h1]
  ·
    have h1 := (Bool.not_eq_false' _).mp h1
    have h1 := of_decide_eq_true h1
    have h1e := layers_ok2 h1
    have hvv := validate_ok h1e.1
    refine CW.skip (hK2 _ _ ?_)
    refine CW.seq fun K6 hK6 => ?_
    refine CW.region ?_
    refine LW.pure rfl rfl (RV.loadA [.int .i64 c.layers, .slice A_c_bounds c.bounds.length c_c_bounds] k24 rfl (H.blk 1 rfl).cells rfl rfl) ?_
    refine LW.go rfl rfl (OW.call c60 rfl (core_tables (c := c) (h_c_bounds.ext R0) (h1e.1)) ?_)
    rintro _ w4 ⟨A2_0, c2_0, hs2_0, rfl, E2⟩
    refine ⟨_, rfl, ?_⟩
    replace H : Hp w w4 [.tab A2_0 c2_0 76 hs2_0 75 2 (encM encT (((tables c).1))), .own (some ⟨b2, 0, none⟩) 2 3 1 (List.map encI (([a, b] : List Int))), .blk b1 24 [.int .i64 c.layers, .slice A_c_bounds c.bounds.length c_c_bounds]] := H.append E2
    replace R0 := H.ext
    refine LW.pure rfl rfl (RV.move rfl) ?_
    refine LW.pure rfl rfl (RV.extract rfl rfl) ?_
    refine LW.pure rfl rfl (RV.extract rfl rfl) ?_
    refine LW.pure rfl rfl (RV.assign rfl) ?_
    refine LW.pure rfl rfl (RV.assign rfl) ?_
    refine LW.nil (hK6 _ _ ?_)
    refine CW.seq fun K7 hK7 => ?_
    refine CW.seq fun K8 hK8 => ?_
    refine CW.region ?_
    refine LW.pure rfl rfl (RV.move rfl) ?_
    refine LW.pure rfl rfl (RV.nei rfl rfl) ?_
    refine LW.pure rfl rfl (RV.move rfl) ?_
    cases h2 : !(decide (((tables c).2) = 0))
    ·
      have h2 := (Bool.not_eq_false' _).mp h2
      have h2 := of_decide_eq_true h2
      obtain ⟨hcl, hte, hT⟩ := tables_ok h1e.1 h2
      have hTl := hT.sq.len
      refine LW.pureY rfl rfl rfl rfl (RV.move rfl) ?_
      refine LW.pureY rfl rfl rfl rfl (RV.move rfl) ?_
      have hb1 : 0 ≤ ((a) : Int) ∧ ((a) : Int) < ((((tables c).1).length : Nat) : Int) := by omega
      obtain ⟨x1, hx1⟩ := ex_at (l := ((tables c).1)) (j := Int.toNat a) (by first | omega | (simp; omega))
      have hlx1 := hT.sq.rowAt hx1
      obtain ⟨B1, e1, hh1⟩ := (H.tab 0 rfl).hd hx1
      refine LW.pureY rfl rfl rfl rfl (RV.indexAddr s69 rfl rfl hb1 ((H.tab 0 rfl).addr_ hx1)) ?_
      refine LW.pureY rfl rfl rfl rfl (RV.load1 k76 rfl ((H.tab 0 rfl).cell hx1 hh1) rfl) ?_
      refine LW.pureY rfl rfl rfl rfl (RV.move rfl) ?_
      have hb2 : 0 ≤ ((b) : Int) ∧ ((b) : Int) < ((x1.length : Nat) : Int) := by omega
      obtain ⟨x2, hx2⟩ := ex_at (l := x1) (j := Int.toNat b) (by first | omega | (simp; omega))
      have hmx2 := mg_of hx1 hx2
      refine LW.pureY rfl rfl rfl rfl (RV.indexAddr s76 rfl rfl hb2 (((H.tab 0 rfl).rowO hx1 hh1).sl.addr_ hx2)) ?_
      refine LW.pureY rfl rfl rfl rfl (RV.fieldAddr f75_0 rfl) ?_
      refine LW.pureY rfl rfl rfl rfl (RV.load1 k4 rfl ((((H.tab 0 rfl).rowO hx1 hh1).sl.at_ hx2).off 0) rfl) ?_
      refine LW.pureY rfl rfl rfl rfl (RV.not rfl) ?_
      refine LW.pure rfl rfl (RV.pickF rfl rfl) ?_
      refine LW.nil (hK8 _ _ ?_)
      refine CW.cond rfl (fun h3 => ?_) (fun h3 => ?_)
      ·
        have h3 := (Bool.not_eq_true' _).mp h3
        refine CW.seq fun K9 hK9 => ?_
        refine CW.region ?_
        refine LW.pure rfl rfl (RV.move rfl) ?_
        refine LW.pure rfl rfl (RV.assign rfl) ?_
        refine LW.pure rfl rfl (RV.assign rfl) ?_
        refine LW.pure rfl rfl (RV.assign rfl) ?_
        refine LW.nil (hK9 _ _ ?_)
        refine CW.ret ?_
        refine ⟨_, (ResOK.three rfl rfl rfl), ?_⟩
        refine ⟨?_, R0⟩
        · simp [tightest, h1, hcl, ← hte, hmx2, h3, h2]
      ·
        have h3 := (Bool.not_eq_false' _).mp h3
        refine CW.skip (hK7 _ _ ?_)
        refine CW.seq fun K10 hK10 => ?_
        refine CW.region ?_
        refine LW.pure rfl rfl (RV.move rfl) ?_
        refine LW.pure rfl rfl (RV.move rfl) ?_
        have hb3 : 0 ≤ ((a) : Int) ∧ ((a) : Int) < ((((tables c).1).length : Nat) : Int) := by omega
        have kx1 : (((tables c).1))[Int.toNat a]? = some x1 := hx1
        obtain ⟨B2, e2, hh2⟩ := (H.tab 0 rfl).hd kx1
        refine LW.pure rfl rfl (RV.indexAddr s69 rfl rfl hb3 ((H.tab 0 rfl).addr_ kx1)) ?_
        refine LW.pure rfl rfl (RV.load1 k76 rfl ((H.tab 0 rfl).cell kx1 hh2) rfl) ?_
        refine LW.pure rfl rfl (RV.move rfl) ?_
        have hb4 : 0 ≤ ((b) : Int) ∧ ((b) : Int) < ((x1.length : Nat) : Int) := by omega
        have kx2 : x1[Int.toNat b]? = some x2 := hx2
        refine LW.pure rfl rfl (RV.indexAddr s76 rfl rfl hb4 (((H.tab 0 rfl).rowO kx1 hh2).sl.addr_ kx2)) ?_
        refine LW.pure rfl rfl (RV.fieldAddr f75_1 rfl) ?_
        refine LW.pure rfl rfl (RV.load1 k3 rfl ((((H.tab 0 rfl).rowO kx1 hh2).sl.at_ kx2).off 1) rfl) ?_
        refine LW.pure rfl rfl (RV.assign rfl) ?_
        refine LW.pure rfl rfl (RV.assign rfl) ?_
        refine LW.pure rfl rfl (RV.assign rfl) ?_
        refine LW.nil (hK10 _ _ ?_)
        refine CW.ret ?_
        refine ⟨_, (ResOK.three rfl rfl rfl), ?_⟩
        refine ⟨?_, R0⟩
        · simp [tightest, h1, hcl, ← hte, hmx2, h3]
    ·
      have h2 := (Bool.not_eq_true' _).mp h2
      have h2 := of_decide_eq_false h2
      obtain ⟨hcl, hce⟩ := tables_no h2
      refine LW.no rfl rfl rfl rfl rfl ?_
      refine LW.no rfl rfl rfl rfl rfl ?_
      refine LW.no rfl rfl rfl rfl rfl ?_
      refine LW.no rfl rfl rfl rfl rfl ?_
      refine LW.no rfl rfl rfl rfl rfl ?_
      refine LW.no rfl rfl rfl rfl rfl ?_
      refine LW.no rfl rfl rfl rfl rfl ?_
      refine LW.no rfl rfl rfl rfl rfl ?_
      refine LW.no rfl rfl rfl rfl rfl ?_
      refine LW.pure rfl rfl (RV.pickT rfl rfl) ?_
      refine LW.nil (hK8 _ _ ?_)
      refine CW.cond rfl (fun _ => ?_) (fun h => by cases h)
      refine CW.seq fun K11 hK11 => ?_
      refine CW.region ?_
      refine LW.pure rfl rfl (RV.move rfl) ?_
      refine LW.pure rfl rfl (RV.assign rfl) ?_
      refine LW.pure rfl rfl (RV.assign rfl) ?_
      refine LW.pure rfl rfl (RV.assign rfl) ?_
      refine LW.nil (hK11 _ _ ?_)
      refine CW.ret ?_
      refine ⟨_, (ResOK.three rfl rfl rfl), ?_⟩
      refine ⟨?_, R0⟩
      · simp [tightest, h1, hcl, hce]
end Go.Core

namespace Go.Core
open Go.Tb
abbrev WS := List Int × List Bool
structure WInv (n : Nat) (B : Int) (s : WS) : Prop where
  l1 : s.1.length = n
  l2 : s.2.length = n
  bnd : ∀ d ∈ s.1, -B ≤ d ∧ d ≤ B
theorem WInv.at_ {n : Nat} {B : Int} {s : WS} (h : WInv n B s) {j : Nat} {d : Int} (hd : s.1[j]? = some d) : -B ≤ d ∧ d ≤ B := h.bnd d (List.mem_of_getElem? hd)
theorem WInv.mono {n : Nat} {B B' : Int} {s : WS} (h : WInv n B s) (hB : B ≤ B') : WInv n B' s := ⟨h.l1, h.l2, fun d hd => by have := h.bnd d hd; omega⟩
theorem WInv.gi {n : Nat} {B : Int} {s : WS} (h : WInv n B s) (i : Int) (hB : 0 ≤ B) : -B ≤ Core.gi s.1 i ∧ Core.gi s.1 i ≤ B := by
  unfold Core.gi List.getD
  cases hd : s.1[i.toNat]? with
  | none => simp; omega
  | some d => simpa using h.at_ hd
end Go.Core

namespace Go.Core
open Go.Tb
/-- The bounds es lead from a to v. -/
inductive Path (c : Core) : Nat → List Bound → Nat → Prop
  | nil (a : Nat) : Path c a [] a
  | cons {x : Bound} {es : List Bound} {v : Nat} (hx : x ∈ c.bounds) (h : Path c x.b.toNat es v) : Path c x.a.toNat (x :: es) v
def wt : List Bound → Int
  | [] => 0
  | x :: r => x.most + wt r
theorem wt_append (a b : List Bound) : wt (a ++ b) = wt a + wt b := by
  induction a with
  | nil => simp [wt]
  | cons x r ih => simp only [List.cons_append, wt, ih]; omega
theorem Path.append {c : Core} {a u v : Nat} {e f : List Bound} (h : Path c a e u) (k : Path c u f v) : Path c a (e ++ f) v := by
  induction h with
  | nil => exact k
  | cons hx _ ih => exact .cons hx (ih k)
theorem Path.split {c : Core} : ∀ {a v : Nat} (e : List Bound) {f : List Bound}, Path c a (e ++ f) v → ∃ u, Path c a e u ∧ Path c u f v
  | a, _, [], _, h => ⟨a, .nil a, h⟩
  | _, _, x :: r, f, h => by
    cases h with
    | cons hx h =>
      obtain ⟨u, h1, h2⟩ := Path.split r h
      exact ⟨u, .cons hx h1, h2⟩
theorem Path.single {c : Core} {x : Bound} (hx : x ∈ c.bounds) : Path c x.a.toNat [x] x.b.toNat := .cons hx (.nil _)
/-- All ends of the bounds are layers. -/
def Lay (c : Core) (n : Nat) : Prop := ∀ x ∈ c.bounds, x.a.toNat < n ∧ x.b.toNat < n
theorem lay_of {c : Core} (hv : validate c = 0) : Lay c c.layers.toNat := fun x hx => by
  obtain ⟨j, hj⟩ := List.getElem?_of_mem hx
  have := bound_ok hv hj
  omega
theorem Path.lt {c : Core} {n : Nat} (hl : Lay c n) {a v : Nat} {e : List Bound} (h : Path c a e v) (ha : a < n) : v < n := by
  induction h with
  | nil => exact ha
  | cons hx _ ih => exact ih (hl _ hx).2
theorem Path.pot {c : Core} {p : Nat → Int} (hp : Pot c p) {a v : Nat} {e : List Bound} (h : Path c a e v) : p v - p a ≤ wt e := by
  induction h with
  | nil => simp [wt]
  | cons hx _ ih => have := hp _ hx; simp only [wt]; omega
/-- The layers along a path, without its last one. -/
def at_ (e : List Bound) : List Nat := e.map fun x => x.a.toNat
theorem Path.find {c : Core} {u : Nat} : ∀ {a v : Nat} {e : List Bound}, Path c a e v → u ∈ at_ e → ∃ e1 e2, e = e1 ++ e2 ∧ Path c a e1 u ∧ Path c u e2 v ∧ e2 ≠ []
  | _, _, _, .nil a, h => by simp [at_] at h
  | _, _, _, @Path.cons _ x es v hx k, h => by
    simp only [at_, List.map_cons, List.mem_cons] at h
    by_cases hu : u = x.a.toNat
    · subst hu
      exact ⟨[], x :: es, rfl, .nil _, .cons hx k, by simp⟩
    · rcases h with h | h
      · exact absurd h hu
      · obtain ⟨e1, e2, he, h1, h2, h3⟩ := Path.find k h
        exact ⟨x :: e1, e2, by rw [he]; rfl, .cons hx h1, h2, h3⟩
end Go.Core

set_option linter.unusedVariables false
set_option linter.unusedSimpArgs false
namespace Go.Core
open Go.Tb
theorem Path.last {c : Core} {a v : Nat} {e : List Bound} (h : Path c a e v) : (e = [] ∧ v = a) ∨ ∃ e' x, e = e' ++ [x] ∧ x ∈ c.bounds ∧ Path c a e' x.a.toNat ∧ x.b.toNat = v := by
  induction h with
  | nil => exact .inl ⟨rfl, rfl⟩
  | @cons x es v hx k ih =>
    rcases ih with ⟨rfl, rfl⟩ | ⟨e', y, rfl, hy, h1, h2⟩
    · exact .inr ⟨[], x, rfl, hx, .nil _, rfl⟩
    · exact .inr ⟨x :: e', y, rfl, hy, .cons hx h1, h2⟩
def kn (s : WS) (v : Nat) : Bool := s.2.getD v false
theorem set_getD {α : Type} {l : List α} {i j : Nat} {x d : α} : (l.set i x).getD j d = if j = i ∧ i < l.length then x else l.getD j d := by
  simp only [List.getD, List.getElem?_set]
  by_cases h : i = j
  · subst h
    by_cases hi : i < l.length
    · simp [hi]
    · simp [hi, List.getElem?_eq_none (Nat.le_of_not_lt hi)]
  · simp [h, Ne.symm h]
end Go.Core

namespace Go.Core
open Go.Tb
def ds (s : RS) (v : Nat) : Int := s.1.getD v 0
theorem gi_ds (s : RS) (i : Int) : gi s.1 i = ds s i.toNat := rfl
theorem relaxB_ds {s : RS} {k : Nat} {x : Bound} {n : Nat} (hl : s.1.length = n) (hb : x.b.toNat < n) (v : Nat) : ds (relaxB s k x) v = if v = x.b.toNat ∧ ds s x.a.toNat + x.most < ds s x.b.toNat then ds s x.a.toNat + x.most else ds s v := by
  unfold relaxB
  rw [gi_ds, gi_ds]
  by_cases hc : ds s x.a.toNat + x.most < ds s x.b.toNat
  · rw [if_pos hc]
    simp only [hc, and_true]
    show (s.1.set x.b.toNat _).getD v 0 = _
    rw [set_getD]
    simp [hl, hb, ds]
  · rw [if_neg hc]; simp [hc]
end Go.Core

namespace Go.Core
open Go.Tb
theorem tighter_spec (t o : Tight) : (t.known = true → (tighter t o).known = true ∧ (tighter t o).most ≤ t.most) ∧ (o.known = true → (tighter t o).known = true ∧ (tighter t o).most ≤ o.most) ∧
    ((tighter t o).known = true → (t.known = true ∧ (tighter t o).most = t.most) ∨ (o.known = true ∧ (tighter t o).most = o.most)) := by
  unfold tighter
  cases t with
  | mk k m =>
    cases o with
    | mk k' m' =>
      cases k <;> cases k' <;> simp
      by_cases h : m' < m <;> simp [h] <;> omega
theorem fwJ_cell {n : Nat} {p : Nat → Int} {B : Int} {m0 m : TM} {k i : Nat} (hB : 0 ≤ B) (h0 : TInv n p B m0) (h : FInv n p B m0 k m) (hk : k < n) (hi : i < n) : ∀ j : Nat, j ≤ n → ∀ a b : Nat, a < n → b < n →
    mg (fwJ m k i j) a b = if a = i ∧ b < j then tighter (mg m a b) (tover (mg m0 a k) (mg m0 k b)) else mg m a b
  | 0, _, a, b, _, _ => by simp [fwJ]
  | j + 1, hj, a, b, ha, hb => by
    have ih := fwJ_cell hB h0 h hk hi j (by omega)
    have hF := fwJ_inv hB h0 h hk hi j (by omega)
    simp only [fwJ, fwAt]
    rw [mg_put hF.inv.sq hi (by omega), hF.col i hi, hF.row j (by omega), ih i j hi (by omega), ih a b ha hb]
    by_cases h1 : a = i
    · subst h1
      by_cases h2 : b = j
      · subst h2; simp
      · by_cases h3 : b < j
        · simp [h2, h3, show b < j + 1 by omega]
        · simp [h2, h3, show ¬ b < j + 1 by omega]
    · simp [h1]
theorem fwI_cell {n : Nat} {p : Nat → Int} {B : Int} {m0 : TM} {k : Nat} (hB : 0 ≤ B) (h0 : TInv n p B m0) (hk : k < n) : ∀ i : Nat, i ≤ n → ∀ a b : Nat, a < n → b < n →
    mg (fwI n m0 k i) a b = if a < i then tighter (mg m0 a b) (tover (mg m0 a k) (mg m0 k b)) else mg m0 a b
  | 0, _, a, b, _, _ => by simp [fwI]
  | i + 1, hi, a, b, ha, hb => by
    have ih := fwI_cell hB h0 hk i (by omega) a b ha hb
    simp only [fwI]
    rw [fwJ_cell hB h0 (fwI_inv hB h0 hk i (by omega)) hk (by omega) n (Nat.le_refl n) a b ha hb, ih]
    by_cases h1 : a = i
    · subst h1; simp [hb]
    · by_cases h2 : a < i
      · simp [h1, h2, show a < i + 1 by omega]
      · simp [h1, h2, show ¬ a < i + 1 by omega]
/-- The layers inside a path. -/
def mids : List Bound → List Nat
  | [] => []
  | _ :: r => at_ r
structure TS (c : Core) (n K : Nat) (m : TM) : Prop where
  real : ∀ i j : Nat, i < n → j < n → (mg m i j).known = true → ∃ e, Path c i e j ∧ wt e = (mg m i j).most
  low : ∀ (i j : Nat) (e : List Bound), i < n → Path c i e j → (∀ u ∈ mids e, u < K) → (mg m i j).known = true ∧ (mg m i j).most ≤ wt e
theorem tB_spec {c : Core} {p : Nat → Int} (hv : validate c = 0) (hp : Pot c p) : ∀ j : Nat,
    (∀ a b : Nat, a < c.layers.toNat → b < c.layers.toNat → (mg (tB c.layers.toNat c.bounds j) a b).known = true → ∃ e, Path c a e b ∧ wt e = (mg (tB c.layers.toNat c.bounds j) a b).most) ∧
    (∀ (i : Nat) (x : Bound), i < j → c.bounds[i]? = some x → (mg (tB c.layers.toNat c.bounds j) x.a.toNat x.b.toNat).known = true ∧ (mg (tB c.layers.toNat c.bounds j) x.a.toNat x.b.toNat).most ≤ x.most)
  | 0 => by
    refine ⟨fun a b ha hb hk => ?_, fun i x hi => by omega⟩
    simp only [tB] at *
    rw [tI_mg ha hb] at *
    by_cases h : a = b
    · subst h; exact ⟨[], .nil _, by simp [wt]⟩
    · simp [h] at hk
  | j + 1 => by
    obtain ⟨i1, i2⟩ := tB_spec hv hp j
    have hI := tB_inv hv hp j
    have hl := lay_of hv
    cases hx : c.bounds[j]? with
    | none =>
      simp only [tB, hx]
      refine ⟨i1, fun i x hi hix => ?_⟩
      by_cases hij : i = j
      · subst hij; rw [hx] at hix; cases hix
      · exact i2 i x (by omega) hix
    | some y =>
      have hym := List.mem_of_getElem? hx
      have hy := hl y hym
      rw [tB_succ hx]
      obtain ⟨t1, t2, t3⟩ := tighter_spec (mg (tB c.layers.toNat c.bounds j) y.a.toNat y.b.toNat) ⟨true, y.most⟩
      refine ⟨fun a b ha hb hk => ?_, fun i x hi hix => ?_⟩
      · rw [mg_put hI.sq hy.1 hy.2] at *
        split at hk
        · rename_i he
          rw [if_pos he]
          obtain ⟨rfl, rfl⟩ := he
          rcases t3 hk with ⟨q1, q2⟩ | ⟨q1, q2⟩
          · obtain ⟨e, he, hw⟩ := i1 _ _ ha hb q1
            exact ⟨e, he, by rw [hw, q2]⟩
          · exact ⟨[y], Path.single hym, by rw [q2]; simp [wt]⟩
        · rename_i he
          rw [if_neg he]
          exact i1 a b ha hb hk
      · rw [mg_put hI.sq hy.1 hy.2]
        by_cases he : x.a.toNat = y.a.toNat ∧ x.b.toNat = y.b.toNat
        · rw [if_pos he]
          by_cases hij : i = j
          · subst hij; rw [hx] at hix; cases hix
            exact t2 rfl
          · obtain ⟨k1, k2⟩ := i2 i x (by omega) hix
            rw [he.1, he.2] at k1 k2
            obtain ⟨k3, k4⟩ := t1 k1
            exact ⟨k3, by omega⟩
        · rw [if_neg he]
          by_cases hij : i = j
          · subst hij; rw [hx] at hix; cases hix
            exact absurd ⟨rfl, rfl⟩ he
          · exact i2 i x (by omega) hix
theorem TS.base {c : Core} {p : Nat → Int} (hv : validate c = 0) (hp : Pot c p) : TS c c.layers.toNat 0 (tB c.layers.toNat c.bounds c.bounds.length) := by
  obtain ⟨h1, h2⟩ := tB_spec hv hp c.bounds.length
  refine ⟨h1, fun i j e hi he hm => ?_⟩
  cases he with
  | nil =>
    have := (tB_inv hv hp c.bounds.length).diag i hi
    rw [this]; simp [wt]
  | @cons x r _ hx k =>
    cases r with
    | nil =>
      obtain rfl : j = x.b.toNat := by
        rcases k.last with ⟨_, h⟩ | ⟨e', y, h, _⟩
        · exact h
        · simp at h
      obtain ⟨q, hq⟩ := List.getElem?_of_mem hx
      have := h2 q x (lt_of_at hq) hq
      simp only [wt]
      exact ⟨this.1, by omega⟩
    | cons y s =>
      have := hm y.a.toNat (by simp [mids, at_])
      omega
theorem Path.find1 {c : Core} {u : Nat} : ∀ {a v : Nat} {e : List Bound}, Path c a e v → u ∈ at_ e → ∃ e1 e2, e = e1 ++ e2 ∧ Path c a e1 u ∧ Path c u e2 v ∧ u ∉ at_ e1
  | _, _, _, .nil a, h => by simp [at_] at h
  | _, _, _, @Path.cons _ x es v hx k, h => by
    simp only [at_, List.map_cons, List.mem_cons] at h
    by_cases hu : u = x.a.toNat
    · subst hu
      exact ⟨[], x :: es, rfl, .nil _, .cons hx k, by simp [at_]⟩
    · rcases h with h | h
      · exact absurd h hu
      · obtain ⟨e1, e2, he, h1, h2, h3⟩ := Path.find1 k h
        exact ⟨x :: e1, e2, by rw [he]; rfl, .cons hx h1, h2, by simp only [at_, List.map_cons, List.mem_cons]; rintro (h | h); exact hu h; exact h3 h⟩
theorem at_app (a b : List Bound) : at_ (a ++ b) = at_ a ++ at_ b := by simp [at_]
theorem mids_sub {e : List Bound} : ∀ u ∈ mids e, u ∈ at_ e := by
  intro u hu
  cases e with
  | nil => exact hu
  | cons x r => simp only [at_, List.map_cons, List.mem_cons]; exact .inr hu
/-- From K on, within K. -/
theorem TS.fromK {c : Core} {n K : Nat} {m : TM} {p : Nat → Int} (hp : Pot c p) (h : TS c n K m) (hK : K < n) : ∀ (l : Nat) (e : List Bound) (j : Nat), e.length ≤ l → Path c K e j → (∀ u ∈ mids e, u < K + 1) → (mg m K j).known = true ∧ (mg m K j).most ≤ wt e
  | 0, e, j, hlen, he, hm => by
    have : e = [] := List.eq_nil_of_length_eq_zero (by omega)
    subst this
    exact h.low K j [] hK he (by simp [mids])
  | l + 1, e, j, hlen, he, hm => by
    by_cases hin : K ∈ mids e
    · cases e with
      | nil => simp [mids] at hin
      | cons x r =>
        cases he with
        | cons hx k =>
          obtain ⟨s1, s2, hs, p1, p2, _⟩ := Path.find1 k hin
          have hc : Path c x.a.toNat (x :: s1) x.a.toNat := .cons hx p1
          have hw := hc.pot hp
          have hlen2 : s2.length ≤ l := by have : r.length = (s1 ++ s2).length := by rw [hs]
                                           simp at this hlen; omega
          obtain ⟨q1, q2⟩ := TS.fromK hp h hK l s2 j hlen2 p2 (fun u hu => hm u (by show u ∈ at_ r; rw [hs, at_app]; exact List.mem_append_right _ (mids_sub u hu)))
          refine ⟨q1, ?_⟩
          have hw2 : wt (x :: r) = wt (x :: s1) + wt s2 := by rw [hs, ← List.cons_append, wt_append]
          omega
    · exact h.low K j e hK he (fun u hu => by
        have h1 := hm u hu
        have h2 : u ≠ K := fun e' => hin (e' ▸ hu)
        omega)
theorem TS.step {c : Core} {n K : Nat} {m : TM} {p : Nat → Int} {B : Int} (hl : Lay c n) (hp : Pot c p) (hB : 0 ≤ B) (h0 : TInv n p B m) (h : TS c n K m) (hK : K < n) : TS c n (K + 1) (fwI n m K n) := by
  have cell : ∀ a b : Nat, a < n → b < n → mg (fwI n m K n) a b = tighter (mg m a b) (tover (mg m a K) (mg m K b)) := fun a b ha hb => by rw [fwI_cell hB h0 hK n (Nat.le_refl n) a b ha hb, if_pos ha]
  refine ⟨fun i j hi hj hk => ?_, fun i j e hi he hm => ?_⟩
  · rw [cell i j hi hj] at *
    rcases (tighter_spec _ _).2.2 hk with ⟨q1, q2⟩ | ⟨q1, q2⟩
    · obtain ⟨e, he, hw⟩ := h.real i j hi hj q1
      exact ⟨e, he, by rw [hw, q2]⟩
    · simp only [tover, Bool.and_eq_true] at q1
      obtain ⟨e1, he1, hw1⟩ := h.real i K hi hK q1.1
      obtain ⟨e2, he2, hw2⟩ := h.real K j hK hj q1.2
      exact ⟨e1 ++ e2, he1.append he2, by rw [wt_append, hw1, hw2, q2]; rfl⟩
  · have hj := he.lt hl hi
    rw [cell i j hi hj]
    by_cases hin : K ∈ mids e
    · cases e with
      | nil => simp [mids] at hin
      | cons x r =>
        cases he with
        | cons hx k =>
          obtain ⟨s1, s2, hs, p1, p2, hno⟩ := Path.find1 k hin
          have c1 : Path c x.a.toNat (x :: s1) K := .cons hx p1
          obtain ⟨q1, q2⟩ := h.low _ K (x :: s1) hi c1 (fun u hu => by
            have h1 := hm u (by show u ∈ at_ r; rw [hs, at_app]; exact List.mem_append_left _ hu)
            have h2 : u ≠ K := fun e' => hno (e' ▸ hu)
            omega)
          obtain ⟨q3, q4⟩ := TS.fromK hp h hK _ s2 j (Nat.le_refl _) p2 (fun u hu => hm u (by show u ∈ at_ r; rw [hs, at_app]; exact List.mem_append_right _ (mids_sub u hu)))
          have hw2 : wt (x :: r) = wt (x :: s1) + wt s2 := by rw [hs, ← List.cons_append, wt_append]
          obtain ⟨r1, r2⟩ := (tighter_spec (mg m x.a.toNat j) (tover (mg m x.a.toNat K) (mg m K j))).2.1 (by simp [tover, q1, q3])
          refine ⟨r1, ?_⟩
          simp only [tover] at r2 ⊢
          omega
    · obtain ⟨q1, q2⟩ := h.low i j e hi he (fun u hu => by
        have h1 := hm u hu
        have h2 : u ≠ K := fun e' => hin (e' ▸ hu)
        omega)
      obtain ⟨r1, r2⟩ := (tighter_spec (mg m i j) (tover (mg m i K) (mg m K j))).1 q1
      exact ⟨r1, by omega⟩
end Go.Core

namespace Go.Core
open Go.Tb
/-- Two layers. -/
structure Two where
  a : Int
  b : Int
end Go.Core

set_option linter.unusedVariables false
namespace Go.D3
open Go.Tb Go.Core
def slices_Repeat_int (a0 : List Int) (a1 : Int) : Option (List Int) :=
  match a0 with
  | [v] => gd (1 ≤ a1 ∧ a1 ≤ 8) <| some (List.replicate a1.toNat v)
  | _ => none
end Go.D3

set_option linter.unusedVariables false
set_option linter.unusedSimpArgs false
namespace Go.D3
open Go.Tb Go.Proofs Go.RowKit Go.Core
theorem slices_Repeat_int_ok {a0 : List Int} {a1 : Int} {A_a0 : Option Addr} {c_a0 : Nat} {w : World} {res : List Int} (h_a0 : Sl w A_a0 c_a0 1 (a0.map encN)) (F : slices_Repeat_int a0 a1 = some res) : Calls Try.prog 87 #[.slice A_a0 a0.length c_a0, .int .i64 a1] w (fun e w' => ∃ (A0 : Option Addr) (c0 : Nat), e = .returned (.slice A0 res.length c0) ∧ Hp w w' [.own A0 c0 3 1 (List.map encN res)]) := by
  unfold slices_Repeat_int at F
  split at F
  · rename_i v
    obtain ⟨hc, F⟩ := gd_some F
    cases F
    exact Go.Core.slices_Repeat (x := [v]) h_a0 rfl hc
  · cases F
end Go.D3

set_option linter.unusedVariables false
namespace Go.D3
open Go.Tb Go.Core
def encBound (x : Bound) : List Value := [.int .i64 x.a, .int .i64 x.b, .int .i64 x.most]
def law03_Long (a0 : Core) : Option Bool :=
  some (decide ((100 : Int) < ((a0.bounds.length : Int))))
def core_within (a0 : Int) (a1 : Int) (a2 : Int) : Option Bool :=
  if a1 ≤ a0 then
    some (decide (a0 ≤ a2))
  else
    some false
def core_right (a0 : Bound) (a1 : Int) : Option Bool :=
  gd (InR (a1 - 1)) <|
  bnd (core_within a0.a ((0 : Int)) (a1 - 1)) fun r1 =>
  if r1 = true then
    gd (InR (a1 - 1)) <|
    bnd (core_within a0.b ((0 : Int)) (a1 - 1)) fun r2 =>
    if r2 = true then
      if a0.a = a0.b then
        some false
      else
        bnd (core_within a0.most ((-10000 : Int)) ((10000 : Int))) fun r3 =>
        some r3
    else
      some false
  else
    some false
def core_Validate_k1 : Option Int :=
  some ((0 : Int))
def core_Validate_B1 (a0 : Core) (rec1 : Int → Option Int) (t16_1 : Int) : Option Int :=
  if t16_1 < ((a0.bounds.length : Int)) then
    ix a0.bounds t16_1 fun x1 =>
    bnd (core_right x1 a0.layers) fun r1 =>
    if r1 = true then
      gd (InR (t16_1 + 1)) <|
      rec1 ((t16_1 + 1))
    else
      some ((1 : Int))
  else
    core_Validate_k1
def core_Validate_L1 (a0 : Core) : Nat → Int → Option Int
  | 0, _ => none
  | n_ + 1, t16_1 => core_Validate_B1 a0 (core_Validate_L1 a0 n_) t16_1
theorem core_Validate_L1_s {a0 : Core} {m_ : Nat} {t16_1 : Int} {res : Int} (h : core_Validate_L1 a0 m_ t16_1 = some res) : ∃ k, m_ = k + 1 ∧ core_Validate_B1 a0 (core_Validate_L1 a0 k) t16_1 = some res := by
  cases m_ with
  | zero => cases h
  | succ k => exact ⟨k, rfl, h⟩
def core_Validate (a0 : Core) : Option Int :=
  bnd (core_within a0.layers ((1 : Int)) ((8 : Int))) fun r2 =>
  if r2 = true then
    if (20 : Int) < ((a0.bounds.length : Int)) then
      some ((3 : Int))
    else
      core_Validate_L1 a0 FU (((0 : Int)))
  else
    some ((1 : Int))
def core_layers_k1 : Option Int :=
  some ((0 : Int))
def core_layers_B1 (a0 : Core) (a1 : List Int) (rec1 : Int → Option Int) (t15_1 : Int) : Option Int :=
  if t15_1 < ((a1.length : Int)) then
    ix a1 t15_1 fun x1 =>
    gd (InR (a0.layers - 1)) <|
    bnd (core_within x1 ((0 : Int)) (a0.layers - 1)) fun r1 =>
    if r1 = true then
      gd (InR (t15_1 + 1)) <|
      rec1 ((t15_1 + 1))
    else
      some ((4 : Int))
  else
    core_layers_k1
def core_layers_L1 (a0 : Core) (a1 : List Int) : Nat → Int → Option Int
  | 0, _ => none
  | n_ + 1, t15_1 => core_layers_B1 a0 a1 (core_layers_L1 a0 a1 n_) t15_1
theorem core_layers_L1_s {a0 : Core} {a1 : List Int} {m_ : Nat} {t15_1 : Int} {res : Int} (h : core_layers_L1 a0 a1 m_ t15_1 = some res) : ∃ k, m_ = k + 1 ∧ core_layers_B1 a0 a1 (core_layers_L1 a0 a1 k) t15_1 = some res := by
  cases m_ with
  | zero => cases h
  | succ k => exact ⟨k, rfl, h⟩
def core_layers (a0 : Core) (a1 : List Int) : Option Int :=
  bnd (core_Validate a0) fun r2 =>
  if r2 = 0 then
    core_layers_L1 a0 a1 FU (((0 : Int)))
  else
    some r2
def core_relax_k1 (t4_1 : Int) (l1 : List Int) (l2 : List Int) : Option ((List Int) × (List Int) × Int) :=
  some (l1, l2, t4_1)
def core_relax_k2 (t16_1 : Int) (rec1 : Int → Int → (List Int) → (List Int) → Option ((List Int) × (List Int) × Int)) (t4_2 : Int) (l3 : List Int) (l4 : List Int) : Option ((List Int) × (List Int) × Int) :=
  gd (InR (t16_1 + 1)) <|
  rec1 t4_2 ((t16_1 + 1)) l3 l4
def core_relax_k3 (t21_1 : Int) (rec2 : Int → Int → (List Int) → (List Int) → Option ((List Int) × (List Int) × Int)) (t4_3 : Int) (l5 : List Int) (l6 : List Int) : Option ((List Int) × (List Int) × Int) :=
  gd (InR (t21_1 + 1)) <|
  rec2 t4_3 ((t21_1 + 1)) l5 l6
def core_relax_B1 (a0 : Core) (t16_1 : Int) (rec1 : Int → Int → (List Int) → (List Int) → Option ((List Int) × (List Int) × Int)) (rec2 : Int → Int → (List Int) → (List Int) → Option ((List Int) × (List Int) × Int)) (t4_4 : Int) (t21_1 : Int) (l7 : List Int) (l8 : List Int) : Option ((List Int) × (List Int) × Int) :=
  if t21_1 < ((a0.bounds.length : Int)) then
    ix a0.bounds t21_1 fun x1 =>
    ix l7 x1.a fun x2 =>
    gd (InR (x2 + x1.most)) <|
    ix l7 x1.b fun x3 =>
    if (x2 + x1.most) < x3 then
      ix l7 x1.a fun x4 =>
      gd (InR (x4 + x1.most)) <|
      ix l7 x1.b fun x5 =>
      ix l8 x1.b fun x6 =>
      core_relax_k3 t21_1 rec2 x1.b (((l7.set (Int.toNat x1.b) (x4 + x1.most)))) (((l8.set (Int.toNat x1.b) t21_1)))
    else
      core_relax_k3 t21_1 rec2 t4_4 l7 l8
  else
    core_relax_k2 t16_1 rec1 t4_4 l7 l8
def core_relax_L1 (a0 : Core) (t16_1 : Int) (rec1 : Int → Int → (List Int) → (List Int) → Option ((List Int) × (List Int) × Int)) : Nat → Int → Int → (List Int) → (List Int) → Option ((List Int) × (List Int) × Int)
  | 0, _, _, _, _ => none
  | n_ + 1, t4_4, t21_1, l7, l8 => core_relax_B1 a0 t16_1 rec1 (core_relax_L1 a0 t16_1 rec1 n_) t4_4 t21_1 l7 l8
theorem core_relax_L1_s {a0 : Core} {t16_1 : Int} {rec1 : Int → Int → (List Int) → (List Int) → Option ((List Int) × (List Int) × Int)} {m_ : Nat} {t4_4 : Int} {t21_1 : Int} {l7 : List Int} {l8 : List Int} {res : (List Int) × (List Int) × Int} (h : core_relax_L1 a0 t16_1 rec1 m_ t4_4 t21_1 l7 l8 = some res) : ∃ k, m_ = k + 1 ∧ core_relax_B1 a0 t16_1 rec1 (core_relax_L1 a0 t16_1 rec1 k) t4_4 t21_1 l7 l8 = some res := by
  cases m_ with
  | zero => cases h
  | succ k => exact ⟨k, rfl, h⟩
def core_relax_B2 (a0 : Core) (rec1 : Int → Int → (List Int) → (List Int) → Option ((List Int) × (List Int) × Int)) (t4_5 : Int) (t16_1 : Int) (l9 : List Int) (l10 : List Int) : Option ((List Int) × (List Int) × Int) :=
  if t16_1 < a0.layers then
    core_relax_L1 a0 t16_1 rec1 FU (((-1 : Int))) (((0 : Int))) l9 l10
  else
    core_relax_k1 t4_5 l9 l10
def core_relax_L2 (a0 : Core) : Nat → Int → Int → (List Int) → (List Int) → Option ((List Int) × (List Int) × Int)
  | 0, _, _, _, _ => none
  | n_ + 1, t4_5, t16_1, l9, l10 => core_relax_B2 a0 (core_relax_L2 a0 n_) t4_5 t16_1 l9 l10
theorem core_relax_L2_s {a0 : Core} {m_ : Nat} {t4_5 : Int} {t16_1 : Int} {l9 : List Int} {l10 : List Int} {res : (List Int) × (List Int) × Int} (h : core_relax_L2 a0 m_ t4_5 t16_1 l9 l10 = some res) : ∃ k, m_ = k + 1 ∧ core_relax_B2 a0 (core_relax_L2 a0 k) t4_5 t16_1 l9 l10 = some res := by
  cases m_ with
  | zero => cases h
  | succ k => exact ⟨k, rfl, h⟩
def core_relax (a0 : Core) : Option ((List Int) × (List Int) × Int) :=
  gd (0 ≤ a0.layers ∧ a0.layers ≤ 1000000) <|
  bnd (slices_Repeat_int (([-1] : List Int)) a0.layers) fun r1 =>
  core_relax_L2 a0 FU (((0 : Int))) (((0 : Int))) (((List.replicate (Int.toNat a0.layers) (0 : Int)))) r1
end Go.D3
