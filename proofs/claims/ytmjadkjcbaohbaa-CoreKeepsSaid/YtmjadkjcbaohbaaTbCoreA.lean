/- Lemmas and walks that the proof of this claim uses: TbCoreA. -/
import Derived.Test.YtmjadkjcbaohbaaTbCoreSpec
import Derived.Test.YtmjadkjcbaohbaaProg
import Derived.KernelRfl
namespace Go.Core
open Go.Tb Go.Proofs
set_option linter.unusedVariables false
set_option linter.unusedSimpArgs false

theorem c59 : callable Try.prog 59 = true := by kernel_rfl
theorem c62 : callable Try.prog 62 = true := by kernel_rfl
theorem c63 : callable Try.prog 63 = true := by kernel_rfl
theorem c70 : callable Try.prog 70 = true := by kernel_rfl
theorem f24_0 : tyF Try.prog 24 0 = some 0 := by kernel_rfl
theorem f24_1 : tyF Try.prog 24 1 = some 1 := by kernel_rfl
theorem f26_0 : tyF Try.prog 26 0 = some 0 := by kernel_rfl
theorem f26_1 : tyF Try.prog 26 1 = some 1 := by kernel_rfl
theorem f26_2 : tyF Try.prog 26 2 = some 2 := by kernel_rfl
theorem f75_0 : tyF Try.prog 75 0 = some 0 := by kernel_rfl
theorem f75_1 : tyF Try.prog 75 1 = some 1 := by kernel_rfl
theorem k22 : tyK Try.prog 22 = some (false, 1) := by kernel_rfl
theorem k26 : tyK Try.prog 26 = some (true, 3) := by kernel_rfl
theorem k3 : tyK Try.prog 3 = some (false, 1) := by kernel_rfl
theorem k4 : tyK Try.prog 4 = some (false, 1) := by kernel_rfl
theorem k75 : tyK Try.prog 75 = some (true, 2) := by kernel_rfl
theorem mixed : Try.prog.follows .mixedOrders = true := by kernel_rfl
theorem s22 : tyS Try.prog 22 = some (26, 3, 24, [.int .i64 0, .int .i64 0, .int .i64 0]) := by kernel_rfl
theorem z26 : tyZ Try.prog 26 = some (.agg #[.int .i64 0, .int .i64 0, .int .i64 0]) := by kernel_rfl
theorem z75 : tyZ Try.prog 75 = some (.agg #[.bool false, .int .i64 0]) := by kernel_rfl

def tover (t o : Tight) : Tight := ⟨t.known && o.known, t.most + o.most⟩
def tighter (t o : Tight) : Tight := if !t.known || (o.known && decide (o.most < t.most)) then o else t

set_option maxRecDepth 20000 in
theorem core_within {n : Int} {lo : Int} {hi : Int} {w : World}  : Calls Try.prog 70 #[.int .i64 n, .int .i64 lo, .int .i64 hi] w (Ret w (.bool (within n lo hi))) := by
  refine calls_of_cw (args := [.int .i64 n, .int .i64 lo, .int .i64 hi]) Try.func70 rfl rfl rfl rfl ?_
  have H := Hp.start w
  have R0 := H.ext
  refine CW.seq fun K1 hK1 => ?_
  refine CW.region ?_
  refine LW.pure rfl rfl (RV.assign rfl) ?_
  refine LW.nil (hK1 _ _ ?_)
  refine CW.seq fun K2 hK2 => ?_
  refine CW.region ?_
  refine LW.pure rfl rfl (RV.move rfl) ?_
  refine LW.pure rfl rfl (RV.move rfl) ?_
  refine LW.pure rfl rfl (RV.geq rfl rfl) ?_
  refine LW.pure rfl rfl (RV.move rfl) ?_
  cases h1 : decide (lo ≤ n)
  ·
    have h1 := of_decide_eq_false h1
    refine LW.no rfl rfl rfl rfl rfl ?_
    refine LW.no rfl rfl rfl rfl rfl ?_
    refine LW.no rfl rfl rfl rfl rfl ?_
    refine LW.pure rfl rfl (RV.pickF rfl rfl) ?_
    refine LW.pure rfl rfl (RV.assign rfl) ?_
    refine LW.nil (hK2 _ _ ?_)
    refine CW.ret ?_
    refine ⟨_, (ResOK.one rfl), ?_⟩
    refine ⟨?_, R0⟩
    · simp [within, h1]
  ·
    have h1 := of_decide_eq_true h1
    refine LW.pureY rfl rfl rfl rfl (RV.move rfl) ?_
    refine LW.pureY rfl rfl rfl rfl (RV.move rfl) ?_
    refine LW.pureY rfl rfl rfl rfl (RV.leq rfl rfl) ?_
    refine LW.pure rfl rfl (RV.pickT rfl rfl) ?_
    refine LW.pure rfl rfl (RV.assign rfl) ?_
    refine LW.nil (hK2 _ _ ?_)
    refine CW.ret ?_
    refine ⟨_, (ResOK.one rfl), ?_⟩
    refine ⟨?_, R0⟩
    · simp [within, h1]

set_option maxRecDepth 20000 in
theorem ref_within {n : Int} {lo : Int} {hi : Int} {w : World}  : Calls Try.prog 62 #[.int .i64 n, .int .i64 lo, .int .i64 hi] w (Ret w (.bool (within n lo hi))) := by
  refine calls_of_cw (args := [.int .i64 n, .int .i64 lo, .int .i64 hi]) Try.func62 rfl rfl rfl rfl ?_
  have H := Hp.start w
  have R0 := H.ext
  refine CW.seq fun K1 hK1 => ?_
  refine CW.region ?_
  refine LW.pure rfl rfl (RV.assign rfl) ?_
  refine LW.nil (hK1 _ _ ?_)
  refine CW.seq fun K2 hK2 => ?_
  refine CW.region ?_
  refine LW.pure rfl rfl (RV.move rfl) ?_
  refine LW.pure rfl rfl (RV.move rfl) ?_
  refine LW.pure rfl rfl (RV.geq rfl rfl) ?_
  refine LW.pure rfl rfl (RV.move rfl) ?_
  cases h1 : decide (lo ≤ n)
  ·
    have h1 := of_decide_eq_false h1
    refine LW.no rfl rfl rfl rfl rfl ?_
    refine LW.no rfl rfl rfl rfl rfl ?_
    refine LW.no rfl rfl rfl rfl rfl ?_
    refine LW.pure rfl rfl (RV.pickF rfl rfl) ?_
    refine LW.pure rfl rfl (RV.assign rfl) ?_
    refine LW.nil (hK2 _ _ ?_)
    refine CW.ret ?_
    refine ⟨_, (ResOK.one rfl), ?_⟩
    refine ⟨?_, R0⟩
    · simp [within, h1]
  ·
    have h1 := of_decide_eq_true h1
    refine LW.pureY rfl rfl rfl rfl (RV.move rfl) ?_
    refine LW.pureY rfl rfl rfl rfl (RV.move rfl) ?_
    refine LW.pureY rfl rfl rfl rfl (RV.leq rfl rfl) ?_
    refine LW.pure rfl rfl (RV.pickT rfl rfl) ?_
    refine LW.pure rfl rfl (RV.assign rfl) ?_
    refine LW.nil (hK2 _ _ ?_)
    refine CW.ret ?_
    refine ⟨_, (ResOK.one rfl), ?_⟩
    refine ⟨?_, R0⟩
    · simp [within, h1]

set_option maxRecDepth 20000 in
theorem core_right {x : Bound} {layers : Int} {w : World} (hl : 1 ≤ layers ∧ layers ≤ 8) : Calls Try.prog 59 #[.agg #[.int .i64 x.a, .int .i64 x.b, .int .i64 x.most], .int .i64 layers] w (Ret w (.bool (right x layers))) := by
  refine calls_of_cw (args := [.agg #[.int .i64 x.a, .int .i64 x.b, .int .i64 x.most], .int .i64 layers]) Try.func59 rfl rfl rfl rfl ?_
  have H := Hp.start w
  have R0 := H.ext
  refine CW.seq fun K1 hK1 => ?_
  refine CW.region ?_
  refine LW.go rfl rfl (OW.box rfl fun b1 w1 N1 => ?_)
  replace H : Hp w w1 [.blk b1 26 [.int .i64 x.a, .int .i64 x.b, .int .i64 x.most]] := H.new N1 N1.blk
  replace R0 := H.ext
  refine LW.pure rfl rfl (RV.assign rfl) ?_
  refine LW.nil (hK1 _ _ ?_)
  refine CW.seq fun K2 hK2 => ?_
  refine CW.region ?_
  refine LW.pure rfl rfl (RV.fieldAddr f26_0 rfl) ?_
  refine LW.pure rfl rfl (RV.load1 k3 rfl ((H.blk 0 rfl).cells.off 0) rfl) ?_
  refine LW.pure rfl rfl (RV.move rfl) ?_
  refine LW.pure rfl rfl (RV.sub rfl rfl (by omega)) ?_
  refine LW.go rfl rfl (OW.call c70 rfl (core_within (n := x.a) (lo := 0) (hi := layers - 1)) ?_)
  rintro _ w2 ⟨rfl, E1⟩
  refine ⟨_, rfl, ?_⟩
  replace H := H.grow E1
  replace R0 := H.ext
  refine LW.pure rfl rfl (RV.move rfl) ?_
  cases h1 : within x.a 0 (layers - 1)
  ·
    refine LW.no rfl rfl rfl rfl rfl ?_
    refine LW.no rfl rfl rfl rfl rfl ?_
    refine LW.no rfl rfl rfl rfl rfl ?_
    refine LW.no rfl rfl rfl rfl rfl ?_
    refine LW.no rfl rfl rfl rfl rfl ?_
    refine LW.pure rfl rfl (RV.pickF rfl rfl) ?_
    refine LW.pure rfl rfl (RV.move rfl) ?_
    refine LW.no rfl rfl rfl rfl rfl ?_
    refine LW.no rfl rfl rfl rfl rfl ?_
    refine LW.no rfl rfl rfl rfl rfl ?_
    refine LW.no rfl rfl rfl rfl rfl ?_
    refine LW.no rfl rfl rfl rfl rfl ?_
    refine LW.pure rfl rfl (RV.pickF rfl rfl) ?_
    refine LW.pure rfl rfl (RV.move rfl) ?_
    refine LW.no rfl rfl rfl rfl rfl ?_
    refine LW.no rfl rfl rfl rfl rfl ?_
    refine LW.no rfl rfl rfl rfl rfl ?_
    refine LW.pure rfl rfl (RV.pickF rfl rfl) ?_
    refine LW.pure rfl rfl (RV.assign rfl) ?_
    refine LW.nil (hK2 _ _ ?_)
    refine CW.ret ?_
    refine ⟨_, (ResOK.one rfl), ?_⟩
    refine ⟨?_, R0⟩
    · simp [right, h1]
  ·
    refine LW.pureY rfl rfl rfl rfl (RV.fieldAddr f26_1 rfl) ?_
    refine LW.pureY rfl rfl rfl rfl (RV.load1 k3 rfl ((H.blk 0 rfl).cells.off 1) rfl) ?_
    refine LW.pureY rfl rfl rfl rfl (RV.move rfl) ?_
    refine LW.pureY rfl rfl rfl rfl (RV.sub rfl rfl (by omega)) ?_
    refine LW.yes rfl rfl rfl rfl (OW.call c70 rfl (core_within (n := x.b) (lo := 0) (hi := layers - 1)) ?_)
    rintro _ w3 ⟨rfl, E2⟩
    refine ⟨_, rfl, ?_⟩
    replace H := H.grow E2
    replace R0 := H.ext
    refine LW.pure rfl rfl (RV.pickT rfl rfl) ?_
    refine LW.pure rfl rfl (RV.move rfl) ?_
    cases h2 : within x.b 0 (layers - 1)
    ·
      refine LW.no rfl rfl rfl rfl rfl ?_
      refine LW.no rfl rfl rfl rfl rfl ?_
      refine LW.no rfl rfl rfl rfl rfl ?_
      refine LW.no rfl rfl rfl rfl rfl ?_
      refine LW.no rfl rfl rfl rfl rfl ?_
      refine LW.pure rfl rfl (RV.pickF rfl rfl) ?_
      refine LW.pure rfl rfl (RV.move rfl) ?_
      refine LW.no rfl rfl rfl rfl rfl ?_
      refine LW.no rfl rfl rfl rfl rfl ?_
      refine LW.no rfl rfl rfl rfl rfl ?_
      refine LW.pure rfl rfl (RV.pickF rfl rfl) ?_
      refine LW.pure rfl rfl (RV.assign rfl) ?_
      refine LW.nil (hK2 _ _ ?_)
      refine CW.ret ?_
      refine ⟨_, (ResOK.one rfl), ?_⟩
      refine ⟨?_, R0⟩
      · simp [right, h1, h2]
    ·
      refine LW.pureY rfl rfl rfl rfl (RV.fieldAddr f26_0 rfl) ?_
      refine LW.pureY rfl rfl rfl rfl (RV.load1 k3 rfl ((H.blk 0 rfl).cells.off 0) rfl) ?_
      refine LW.pureY rfl rfl rfl rfl (RV.fieldAddr f26_1 rfl) ?_
      refine LW.pureY rfl rfl rfl rfl (RV.load1 k3 rfl ((H.blk 0 rfl).cells.off 1) rfl) ?_
      refine LW.pureY rfl rfl rfl rfl (RV.nei rfl rfl) ?_
      refine LW.pure rfl rfl (RV.pickT rfl rfl) ?_
      refine LW.pure rfl rfl (RV.move rfl) ?_
      cases h3 : !(decide (x.a = x.b))
      ·
        have h3 := (Bool.not_eq_false' _).mp h3
        have h3 := of_decide_eq_true h3
        refine LW.no rfl rfl rfl rfl rfl ?_
        refine LW.no rfl rfl rfl rfl rfl ?_
        refine LW.no rfl rfl rfl rfl rfl ?_
        refine LW.pure rfl rfl (RV.pickF rfl rfl) ?_
        refine LW.pure rfl rfl (RV.assign rfl) ?_
        refine LW.nil (hK2 _ _ ?_)
        refine CW.ret ?_
        refine ⟨_, (ResOK.one rfl), ?_⟩
        refine ⟨?_, R0⟩
        · simp [right, h1, h2, h3]
      ·
        have h3 := (Bool.not_eq_true' _).mp h3
        have h3 := of_decide_eq_false h3
        refine LW.pureY rfl rfl rfl rfl (RV.fieldAddr f26_2 rfl) ?_
        refine LW.pureY rfl rfl rfl rfl (RV.load1 k3 rfl ((H.blk 0 rfl).cells.off 2) rfl) ?_
        refine LW.yes rfl rfl rfl rfl (OW.call c70 rfl (core_within (n := x.most) (lo := -10000) (hi := 10000)) ?_)
        rintro _ w4 ⟨rfl, E3⟩
        refine ⟨_, rfl, ?_⟩
        replace H := H.grow E3
        replace R0 := H.ext
        refine LW.pure rfl rfl (RV.pickT rfl rfl) ?_
        refine LW.pure rfl rfl (RV.assign rfl) ?_
        refine LW.nil (hK2 _ _ ?_)
        refine CW.ret ?_
        refine ⟨_, (ResOK.one rfl), ?_⟩
        refine ⟨?_, R0⟩
        · simp [right, h1, h2, h3]

set_option maxRecDepth 20000 in
theorem ref_isBound {x : Bound} {layers : Int} {w : World} (hl : 1 ≤ layers ∧ layers ≤ 8) : Calls Try.prog 63 #[.agg #[.int .i64 x.a, .int .i64 x.b, .int .i64 x.most], .int .i64 layers] w (Ret w (.bool (right x layers))) := by
  refine calls_of_cw (args := [.agg #[.int .i64 x.a, .int .i64 x.b, .int .i64 x.most], .int .i64 layers]) Try.func63 rfl rfl rfl rfl ?_
  have H := Hp.start w
  have R0 := H.ext
  refine CW.seq fun K1 hK1 => ?_
  refine CW.region ?_
  refine LW.go rfl rfl (OW.box rfl fun b1 w1 N1 => ?_)
  replace H : Hp w w1 [.blk b1 26 [.int .i64 x.a, .int .i64 x.b, .int .i64 x.most]] := H.new N1 N1.blk
  replace R0 := H.ext
  refine LW.pure rfl rfl (RV.assign rfl) ?_
  refine LW.nil (hK1 _ _ ?_)
  refine CW.seq fun K2 hK2 => ?_
  refine CW.region ?_
  refine LW.pure rfl rfl (RV.fieldAddr f26_0 rfl) ?_
  refine LW.pure rfl rfl (RV.load1 k3 rfl ((H.blk 0 rfl).cells.off 0) rfl) ?_
  refine LW.pure rfl rfl (RV.move rfl) ?_
  refine LW.pure rfl rfl (RV.sub rfl rfl (by omega)) ?_
  refine LW.go rfl rfl (OW.call c62 rfl (ref_within (n := x.a) (lo := 0) (hi := layers - 1)) ?_)
  rintro _ w2 ⟨rfl, E1⟩
  refine ⟨_, rfl, ?_⟩
  replace H := H.grow E1
  replace R0 := H.ext
  refine LW.pure rfl rfl (RV.move rfl) ?_
  cases h1 : within x.a 0 (layers - 1)
  ·
    refine LW.no rfl rfl rfl rfl rfl ?_
    refine LW.no rfl rfl rfl rfl rfl ?_
    refine LW.no rfl rfl rfl rfl rfl ?_
    refine LW.no rfl rfl rfl rfl rfl ?_
    refine LW.no rfl rfl rfl rfl rfl ?_
    refine LW.pure rfl rfl (RV.pickF rfl rfl) ?_
    refine LW.pure rfl rfl (RV.move rfl) ?_
    refine LW.no rfl rfl rfl rfl rfl ?_
    refine LW.no rfl rfl rfl rfl rfl ?_
    refine LW.no rfl rfl rfl rfl rfl ?_
    refine LW.no rfl rfl rfl rfl rfl ?_
    refine LW.no rfl rfl rfl rfl rfl ?_
    refine LW.pure rfl rfl (RV.pickF rfl rfl) ?_
    refine LW.pure rfl rfl (RV.move rfl) ?_
    refine LW.no rfl rfl rfl rfl rfl ?_
    refine LW.no rfl rfl rfl rfl rfl ?_
    refine LW.no rfl rfl rfl rfl rfl ?_
    refine LW.pure rfl rfl (RV.pickF rfl rfl) ?_
    refine LW.pure rfl rfl (RV.assign rfl) ?_
    refine LW.nil (hK2 _ _ ?_)
    refine CW.ret ?_
    refine ⟨_, (ResOK.one rfl), ?_⟩
    refine ⟨?_, R0⟩
    · simp [right, h1]
  ·
    refine LW.pureY rfl rfl rfl rfl (RV.fieldAddr f26_1 rfl) ?_
    refine LW.pureY rfl rfl rfl rfl (RV.load1 k3 rfl ((H.blk 0 rfl).cells.off 1) rfl) ?_
    refine LW.pureY rfl rfl rfl rfl (RV.move rfl) ?_
    refine LW.pureY rfl rfl rfl rfl (RV.sub rfl rfl (by omega)) ?_
    refine LW.yes rfl rfl rfl rfl (OW.call c62 rfl (ref_within (n := x.b) (lo := 0) (hi := layers - 1)) ?_)
    rintro _ w3 ⟨rfl, E2⟩
    refine ⟨_, rfl, ?_⟩
    replace H := H.grow E2
    replace R0 := H.ext
    refine LW.pure rfl rfl (RV.pickT rfl rfl) ?_
    refine LW.pure rfl rfl (RV.move rfl) ?_
    cases h2 : within x.b 0 (layers - 1)
    ·
      refine LW.no rfl rfl rfl rfl rfl ?_
      refine LW.no rfl rfl rfl rfl rfl ?_
      refine LW.no rfl rfl rfl rfl rfl ?_
      refine LW.no rfl rfl rfl rfl rfl ?_
      refine LW.no rfl rfl rfl rfl rfl ?_
      refine LW.pure rfl rfl (RV.pickF rfl rfl) ?_
      refine LW.pure rfl rfl (RV.move rfl) ?_
      refine LW.no rfl rfl rfl rfl rfl ?_
      refine LW.no rfl rfl rfl rfl rfl ?_
      refine LW.no rfl rfl rfl rfl rfl ?_
      refine LW.pure rfl rfl (RV.pickF rfl rfl) ?_
      refine LW.pure rfl rfl (RV.assign rfl) ?_
      refine LW.nil (hK2 _ _ ?_)
      refine CW.ret ?_
      refine ⟨_, (ResOK.one rfl), ?_⟩
      refine ⟨?_, R0⟩
      · simp [right, h1, h2]
    ·
      refine LW.pureY rfl rfl rfl rfl (RV.fieldAddr f26_0 rfl) ?_
      refine LW.pureY rfl rfl rfl rfl (RV.load1 k3 rfl ((H.blk 0 rfl).cells.off 0) rfl) ?_
      refine LW.pureY rfl rfl rfl rfl (RV.fieldAddr f26_1 rfl) ?_
      refine LW.pureY rfl rfl rfl rfl (RV.load1 k3 rfl ((H.blk 0 rfl).cells.off 1) rfl) ?_
      refine LW.pureY rfl rfl rfl rfl (RV.nei rfl rfl) ?_
      refine LW.pure rfl rfl (RV.pickT rfl rfl) ?_
      refine LW.pure rfl rfl (RV.move rfl) ?_
      cases h3 : !(decide (x.a = x.b))
      ·
        have h3 := (Bool.not_eq_false' _).mp h3
        have h3 := of_decide_eq_true h3
        refine LW.no rfl rfl rfl rfl rfl ?_
        refine LW.no rfl rfl rfl rfl rfl ?_
        refine LW.no rfl rfl rfl rfl rfl ?_
        refine LW.pure rfl rfl (RV.pickF rfl rfl) ?_
        refine LW.pure rfl rfl (RV.assign rfl) ?_
        refine LW.nil (hK2 _ _ ?_)
        refine CW.ret ?_
        refine ⟨_, (ResOK.one rfl), ?_⟩
        refine ⟨?_, R0⟩
        · simp [right, h1, h2, h3]
      ·
        have h3 := (Bool.not_eq_true' _).mp h3
        have h3 := of_decide_eq_false h3
        refine LW.pureY rfl rfl rfl rfl (RV.fieldAddr f26_2 rfl) ?_
        refine LW.pureY rfl rfl rfl rfl (RV.load1 k3 rfl ((H.blk 0 rfl).cells.off 2) rfl) ?_
        refine LW.yes rfl rfl rfl rfl (OW.call c62 rfl (ref_within (n := x.most) (lo := -10000) (hi := 10000)) ?_)
        rintro _ w4 ⟨rfl, E3⟩
        refine ⟨_, rfl, ?_⟩
        replace H := H.grow E3
        replace R0 := H.ext
        refine LW.pure rfl rfl (RV.pickT rfl rfl) ?_
        refine LW.pure rfl rfl (RV.assign rfl) ?_
        refine LW.nil (hK2 _ _ ?_)
        refine CW.ret ?_
        refine ⟨_, (ResOK.one rfl), ?_⟩
        refine ⟨?_, R0⟩
        · simp [right, h1, h2, h3]

set_option maxRecDepth 20000 in
theorem core_Validate {c : Core} {A_c_bounds : Option Addr} {c_c_bounds : Nat} {w : World} (h_c_bounds : Sl w A_c_bounds c_c_bounds 3 (c.bounds.map encB)) : Calls Try.prog 36 #[.agg #[.int .i64 c.layers, .slice A_c_bounds c.bounds.length c_c_bounds]] w (Ret w (.int .i64 (validate c))) := by
  refine calls_of_cw (args := [.agg #[.int .i64 c.layers, .slice A_c_bounds c.bounds.length c_c_bounds]]) Try.func36 rfl rfl rfl rfl ?_
  have H := Hp.start w
  have R0 := H.ext
  refine CW.seq fun K1 hK1 => ?_
  refine CW.region ?_
  refine LW.go rfl rfl (OW.box rfl fun b1 w1 N1 => ?_)
  replace H : Hp w w1 [.blk b1 24 [.int .i64 c.layers, .slice A_c_bounds c.bounds.length c_c_bounds]] := H.new N1 N1.blk
  replace R0 := H.ext
  refine LW.pure rfl rfl (RV.assign rfl) ?_
  refine LW.nil (hK1 _ _ ?_)
  refine CW.seq fun K2 hK2 => ?_
  refine CW.seq fun K3 hK3 => ?_
  refine CW.region ?_
  refine LW.pure rfl rfl (RV.fieldAddr f24_0 rfl) ?_
  refine LW.pure rfl rfl (RV.load1 k3 rfl ((H.blk 0 rfl).cells.off 0) rfl) ?_
  refine LW.go rfl rfl (OW.call c70 rfl (core_within (n := c.layers) (lo := 1) (hi := 8)) ?_)
  rintro _ w2 ⟨rfl, E1⟩
  refine ⟨_, rfl, ?_⟩
  replace H := H.grow E1
  replace R0 := H.ext
  refine LW.pure rfl rfl (RV.not rfl) ?_
  refine LW.nil (hK3 _ _ ?_)
  refine CW.cond rfl (fun h1 => ?_) (fun h1 => ?_)
  ·
    have h1 := (Bool.not_eq_true' _).mp h1
    refine CW.seq fun K4 hK4 => ?_
    refine CW.region ?_
    refine LW.pure rfl rfl (RV.assign rfl) ?_
    refine LW.nil (hK4 _ _ ?_)
    refine CW.ret ?_
    refine ⟨_, (ResOK.one rfl), ?_⟩
    refine ⟨?_, R0⟩
    · simp [validate, h1]
  ·
    have h1 := (Bool.not_eq_false' _).mp h1
    have hly := within_iff.1 h1
    refine CW.skip (hK2 _ _ ?_)
    refine CW.seq fun K5 hK5 => ?_
    refine CW.seq fun K6 hK6 => ?_
    refine CW.region ?_
    refine LW.pure rfl rfl (RV.fieldAddr f24_1 rfl) ?_
    refine LW.pure rfl rfl (RV.load1 k22 rfl ((H.blk 0 rfl).cells.off 1) rfl) ?_
    refine LW.pure rfl rfl (RV.len s22 rfl) ?_
    refine LW.pure rfl rfl (RV.gtr rfl rfl) ?_
    refine LW.nil (hK6 _ _ ?_)
    refine CW.cond rfl (fun h2 => ?_) (fun h2 => ?_)
    ·
      have h2 := of_decide_eq_true h2
      refine CW.seq fun K7 hK7 => ?_
      refine CW.region ?_
      refine LW.pure rfl rfl (RV.assign rfl) ?_
      refine LW.nil (hK7 _ _ ?_)
      refine CW.ret ?_
      refine ⟨_, (ResOK.one rfl), ?_⟩
      refine ⟨?_, R0⟩
      · simp [validate, h1, h2]
    ·
      have h2 := of_decide_eq_false h2
      refine CW.skip (hK5 _ _ ?_)
      refine CW.seq fun K8 hK8 => ?_
      refine CW.seq fun K9 hK9 => ?_
      refine CW.region ?_
      refine LW.pure rfl rfl (RV.fieldAddr f24_1 rfl) ?_
      refine LW.pure rfl rfl (RV.load1 k22 rfl ((H.blk 0 rfl).cells.off 1) rfl) ?_
      refine LW.pure rfl rfl (RV.len s22 rfl) ?_
      refine LW.pure rfl rfl (RV.move rfl) ?_
      refine LW.nil (hK9 _ _ ?_)
      refine CW.block ?_
      refine CW.loop (fun meas ρ wl1 => ∃ (i : Nat), meas = c.bounds.length - i ∧ ρ = [(1, .pointer (some (⟨b1, 0, none⟩))), (14, .slice A_c_bounds c.bounds.length c_c_bounds), (15, .int .i64 (((c.bounds.length : Nat) : Int))), (16, .int .i64 (↑i))] ∧ Hp w wl1 [.blk b1 24 [.int .i64 c.layers, .slice A_c_bounds c.bounds.length c_c_bounds]] ∧ (i ≤ c.bounds.length ∧ ((c.bounds.take i).all (fun x => right x c.layers) = true))) (c.bounds.length - 0) ⟨_, ?_, 0, rfl, rfl, ?_, ?_⟩ ?_
      · exact ⟨rfl, rfl, rfl, look_int rfl (by first | rfl | omega | (simp; omega)), trivial⟩
      · exact H
      · simp
      rintro _ _ wl1 ⟨i, rfl, rfl, H, hI1⟩
      have R0 := H.ext
      refine CW.seq fun K10 hK10 => ?_
      refine CW.region ?_
      refine LW.pure rfl rfl (RV.lss rfl rfl) ?_
      refine LW.nil (hK10 _ _ ?_)
      refine CW.seq fun K11 hK11 => ?_
      refine CW.cond rfl (fun h3 => ?_) (fun h3 => ?_)
      ·
        have h3 := of_decide_eq_true h3
        refine CW.skip (hK11 _ _ ?_)
        refine CW.seq fun K12 hK12 => ?_
        refine CW.block ?_
        refine CW.seq fun K13 hK13 => ?_
        refine CW.region ?_
        have hb1 : 0 ≤ ((↑i) : Int) ∧ ((↑i) : Int) < ((c.bounds.length : Nat) : Int) := by omega
        obtain ⟨x1, hx1⟩ := ex_at (l := c.bounds) (j := i) (by first | omega | (simp; omega))
        refine LW.pure rfl rfl (RV.indexAddr s22 rfl rfl hb1 (h_c_bounds.addr hb1)) ?_
        refine LW.pure rfl rfl (RV.loadA [.int .i64 x1.a, .int .i64 x1.b, .int .i64 x1.most] k26 rfl ((h_c_bounds.at_ hx1).ext R0) rfl rfl) ?_
        refine LW.go rfl rfl (OW.alloc z26 fun b2 w3 N2 => ?_)
        replace H : Hp w w3 [.blk b2 26 [.int .i64 0, .int .i64 0, .int .i64 0], .blk b1 24 [.int .i64 c.layers, .slice A_c_bounds c.bounds.length c_c_bounds]] := H.new N2 N2.blk
        replace R0 := H.ext
        refine LW.go rfl rfl (OW.store k26 rfl rfl (H.blk 0 rfl) (off := 0) (vs := [.int .i64 x1.a, .int .i64 x1.b, .int .i64 x1.most]) rfl rfl rfl rfl rfl fun w4 S1 => ?_)
        replace H : Hp w w4 [.blk b2 26 [.int .i64 x1.a, .int .i64 x1.b, .int .i64 x1.most], .blk b1 24 [.int .i64 c.layers, .slice A_c_bounds c.bounds.length c_c_bounds]] := H.stored 0 rfl S1
        replace R0 := H.ext
        refine LW.nil (hK13 _ _ ?_)
        refine CW.seq fun K14 hK14 => ?_
        refine CW.region ?_
        refine LW.pure rfl rfl (RV.loadA [.int .i64 x1.a, .int .i64 x1.b, .int .i64 x1.most] k26 rfl (H.blk 0 rfl).cells rfl rfl) ?_
        refine LW.pure rfl rfl (RV.fieldAddr f24_0 rfl) ?_
        refine LW.pure rfl rfl (RV.load1 k3 rfl ((H.blk 1 rfl).cells.off 0) rfl) ?_
        refine LW.go rfl rfl (OW.call c59 rfl (core_right (x := x1) (layers := c.layers) (by assumption)) ?_)
        rintro _ w5 ⟨rfl, E2⟩
        refine ⟨_, rfl, ?_⟩
        replace H := H.grow E2
        replace R0 := H.ext
        refine LW.pure rfl rfl (RV.not rfl) ?_
        refine LW.nil (hK14 _ _ ?_)
        refine CW.cond rfl (fun h4 => ?_) (fun h4 => ?_)
        ·
          have h4 := (Bool.not_eq_true' _).mp h4
          refine CW.seq fun K15 hK15 => ?_
          refine CW.region ?_
          refine LW.pure rfl rfl (RV.assign rfl) ?_
          refine LW.nil (hK15 _ _ ?_)
          refine CW.ret ?_
          refine ⟨_, (ResOK.one rfl), ?_⟩
          refine ⟨?_, R0⟩
          · simp [validate, h1, h2, all_false_at (p := fun x => right x c.layers) hx1 h4]
        ·
          have h4 := (Bool.not_eq_false' _).mp h4
          refine CW.skip (hK12 _ _ ?_)
          refine CW.region ?_
          refine LW.pure rfl rfl (RV.add rfl rfl (by omega)) ?_
          refine LW.pure rfl rfl (RV.move rfl) ?_
          refine LW.nil ?_
          replace H : Hp w w5 [.blk b1 24 [.int .i64 c.layers, .slice A_c_bounds c.bounds.length c_c_bounds]] := H.pick [1] (by decide) rfl
          replace R0 := H.ext
          refine ⟨_, ?_, _, ?_, i + 1, rfl, rfl, ?_, ?_⟩
          · omega
          · exact ⟨rfl, rfl, rfl, look_int rfl (by first | rfl | omega | (simp; omega)), trivial⟩
          · exact H
          · exact ⟨by omega, all_take_succ hx1 hI1.2 h4⟩
      ·
        have h3 := of_decide_eq_false h3
        refine CW.exit (hK8 _ _ ?_)
        refine CW.seq fun K16 hK16 => ?_
        refine CW.region ?_
        refine LW.pure rfl rfl (RV.assign rfl) ?_
        refine LW.nil (hK16 _ _ ?_)
        refine CW.ret ?_
        refine ⟨_, (ResOK.one rfl), ?_⟩
        refine ⟨?_, R0⟩
        · simp only [validate, h1, h2, all_of_take h3 hI1.2]; simp

set_option maxRecDepth 20000 in
theorem ref_Validate {c : Core} {A_c_bounds : Option Addr} {c_c_bounds : Nat} {w : World} (h_c_bounds : Sl w A_c_bounds c_c_bounds 3 (c.bounds.map encB)) : Calls Try.prog 37 #[.agg #[.int .i64 c.layers, .slice A_c_bounds c.bounds.length c_c_bounds]] w (Ret w (.int .i64 (validate c))) := by
  refine calls_of_cw (args := [.agg #[.int .i64 c.layers, .slice A_c_bounds c.bounds.length c_c_bounds]]) Try.func37 rfl rfl rfl rfl ?_
  have H := Hp.start w
  have R0 := H.ext
  refine CW.seq fun K1 hK1 => ?_
  refine CW.region ?_
  refine LW.go rfl rfl (OW.box rfl fun b1 w1 N1 => ?_)
  replace H : Hp w w1 [.blk b1 24 [.int .i64 c.layers, .slice A_c_bounds c.bounds.length c_c_bounds]] := H.new N1 N1.blk
  replace R0 := H.ext
  refine LW.pure rfl rfl (RV.assign rfl) ?_
  refine LW.nil (hK1 _ _ ?_)
  refine CW.seq fun K2 hK2 => ?_
  refine CW.seq fun K3 hK3 => ?_
  refine CW.region ?_
  refine LW.pure rfl rfl (RV.fieldAddr f24_0 rfl) ?_
  refine LW.pure rfl rfl (RV.load1 k3 rfl ((H.blk 0 rfl).cells.off 0) rfl) ?_
  refine LW.go rfl rfl (OW.call c62 rfl (ref_within (n := c.layers) (lo := 1) (hi := 8)) ?_)
  rintro _ w2 ⟨rfl, E1⟩
  refine ⟨_, rfl, ?_⟩
  replace H := H.grow E1
  replace R0 := H.ext
  refine LW.pure rfl rfl (RV.not rfl) ?_
  refine LW.nil (hK3 _ _ ?_)
  refine CW.cond rfl (fun h1 => ?_) (fun h1 => ?_)
  ·
    have h1 := (Bool.not_eq_true' _).mp h1
    refine CW.seq fun K4 hK4 => ?_
    refine CW.region ?_
    refine LW.pure rfl rfl (RV.assign rfl) ?_
    refine LW.nil (hK4 _ _ ?_)
    refine CW.ret ?_
    refine ⟨_, (ResOK.one rfl), ?_⟩
    refine ⟨?_, R0⟩
    · simp [validate, h1]
  ·
    have h1 := (Bool.not_eq_false' _).mp h1
    have hly := within_iff.1 h1
    refine CW.skip (hK2 _ _ ?_)
    refine CW.seq fun K5 hK5 => ?_
    refine CW.seq fun K6 hK6 => ?_
    refine CW.region ?_
    refine LW.pure rfl rfl (RV.fieldAddr f24_1 rfl) ?_
    refine LW.pure rfl rfl (RV.load1 k22 rfl ((H.blk 0 rfl).cells.off 1) rfl) ?_
    refine LW.pure rfl rfl (RV.len s22 rfl) ?_
    refine LW.pure rfl rfl (RV.gtr rfl rfl) ?_
    refine LW.nil (hK6 _ _ ?_)
    refine CW.cond rfl (fun h2 => ?_) (fun h2 => ?_)
    ·
      have h2 := of_decide_eq_true h2
      refine CW.seq fun K7 hK7 => ?_
      refine CW.region ?_
      refine LW.pure rfl rfl (RV.assign rfl) ?_
      refine LW.nil (hK7 _ _ ?_)
      refine CW.ret ?_
      refine ⟨_, (ResOK.one rfl), ?_⟩
      refine ⟨?_, R0⟩
      · simp [validate, h1, h2]
    ·
      have h2 := of_decide_eq_false h2
      refine CW.skip (hK5 _ _ ?_)
      refine CW.seq fun K8 hK8 => ?_
      refine CW.seq fun K9 hK9 => ?_
      refine CW.region ?_
      refine LW.pure rfl rfl (RV.assign rfl) ?_
      refine LW.nil (hK9 _ _ ?_)
      refine CW.block ?_
      refine CW.loop (fun meas ρ wl1 => ∃ (i : Nat), meas = c.bounds.length - i ∧ ρ = [(1, .pointer (some (⟨b1, 0, none⟩))), (3, .int .i64 (↑i))] ∧ Hp w wl1 [.blk b1 24 [.int .i64 c.layers, .slice A_c_bounds c.bounds.length c_c_bounds]] ∧ (i ≤ c.bounds.length ∧ ((c.bounds.take i).all (fun x => right x c.layers) = true))) (c.bounds.length - 0) ⟨_, ?_, 0, rfl, rfl, ?_, ?_⟩ ?_
      · exact ⟨rfl, look_int rfl (by first | rfl | omega | (simp; omega)), trivial⟩
      · exact H
      · simp
      rintro _ _ wl1 ⟨i, rfl, rfl, H, hI1⟩
      have R0 := H.ext
      refine CW.seq fun K10 hK10 => ?_
      refine CW.seq fun K11 hK11 => ?_
      refine CW.region ?_
      refine LW.pure rfl rfl (RV.move rfl) ?_
      refine LW.pure rfl rfl (RV.fieldAddr f24_1 rfl) ?_
      refine LW.pure rfl rfl (RV.load1 k22 rfl ((H.blk 0 rfl).cells.off 1) rfl) ?_
      refine LW.pure rfl rfl (RV.len s22 rfl) ?_
      refine LW.pure rfl rfl (RV.lss rfl rfl) ?_
      refine LW.nil (hK11 _ _ ?_)
      refine CW.cond rfl (fun h3 => ?_) (fun h3 => ?_)
      ·
        have h3 := of_decide_eq_true h3
        refine CW.skip (hK10 _ _ ?_)
        refine CW.seq fun K12 hK12 => ?_
        refine CW.block ?_
        refine CW.seq fun K13 hK13 => ?_
        refine CW.draw [] (fun _ => True) (.cons 0 1 (.cons 1 1 (.cons 2 1 (.cons 3 1 (.cons 4 1 (.cons 5 1 (.cons 6 1 (.cons 7 0 (.cons 8 1 .nil))))))))) mixed (by kernel_rfl) fun w3 E2 => ?_
        replace H := H.grow E2
        replace R0 := H.ext
        refine DW.fix rfl rfl rfl (fun _ EQ => RV.fieldAddr f24_1 rfl) ?_
        refine DW.fix rfl rfl rfl (fun _ EQ => RV.load1 k22 rfl (((H.grow EQ).blk 0 rfl).cells.off 1) rfl) ?_
        refine DW.fix rfl rfl rfl (fun _ EQ => RV.move rfl) ?_
        have hb1 : 0 ≤ ((↑i) : Int) ∧ ((↑i) : Int) < ((c.bounds.length : Nat) : Int) := by omega
        obtain ⟨x1, hx1⟩ := ex_at (l := c.bounds) (j := i) (by first | omega | (simp; omega))
        refine DW.fix rfl rfl rfl (fun _ EQ => RV.indexAddr s22 rfl rfl hb1 (h_c_bounds.addr hb1)) ?_
        refine DW.fix rfl rfl rfl (fun _ EQ => RV.loadA [.int .i64 x1.a, .int .i64 x1.b, .int .i64 x1.most] k26 rfl ((h_c_bounds.at_ hx1).ext (R0.trans EQ)) rfl rfl) ?_
        refine DW.fix rfl rfl rfl (fun _ EQ => RV.fieldAddr f24_0 rfl) ?_
        refine DW.fix rfl rfl rfl (fun _ EQ => RV.load1 k3 rfl (((H.grow EQ).blk 0 rfl).cells.off 0) rfl) ?_
        refine DW.sole rfl rfl rfl (OW.call c63 rfl (ref_isBound (x := x1) (layers := c.layers) (by assumption)) ?_)
        rintro _ w4 ⟨rfl, E3⟩
        refine ⟨_, rfl, fun _ => E3, ModX.ext E3, ?_⟩
        replace H := H.grow E3
        replace R0 := H.ext
        refine DW.fix rfl rfl rfl (fun _ EQ => RV.not rfl) ?_
        refine DW.nil (hK13 _ _ ?_)
        refine CW.cond rfl (fun h4 => ?_) (fun h4 => ?_)
        ·
          have h4 := (Bool.not_eq_true' _).mp h4
          refine CW.seq fun K14 hK14 => ?_
          refine CW.region ?_
          refine LW.pure rfl rfl (RV.assign rfl) ?_
          refine LW.nil (hK14 _ _ ?_)
          refine CW.ret ?_
          refine ⟨_, (ResOK.one rfl), ?_⟩
          refine ⟨?_, R0⟩
          · simp [validate, h1, h2, all_false_at (p := fun x => right x c.layers) hx1 h4]
        ·
          have h4 := (Bool.not_eq_false' _).mp h4
          refine CW.skip (hK12 _ _ ?_)
          refine CW.region ?_
          refine LW.pure rfl rfl (RV.move rfl) ?_
          refine LW.pure rfl rfl (RV.add rfl rfl (by omega)) ?_
          refine LW.pure rfl rfl (RV.assign rfl) ?_
          refine LW.nil ?_
          refine ⟨_, ?_, _, ?_, i + 1, rfl, rfl, ?_, ?_⟩
          · omega
          · exact ⟨rfl, look_int rfl (by first | rfl | omega | (simp; omega)), trivial⟩
          · exact H
          · exact ⟨by omega, all_take_succ hx1 hI1.2 h4⟩
      ·
        have h3 := of_decide_eq_false h3
        refine CW.exit (hK8 _ _ ?_)
        refine CW.seq fun K15 hK15 => ?_
        refine CW.region ?_
        refine LW.pure rfl rfl (RV.assign rfl) ?_
        refine LW.nil (hK15 _ _ ?_)
        refine CW.ret ?_
        refine ⟨_, (ResOK.one rfl), ?_⟩
        refine ⟨?_, R0⟩
        · simp only [validate, h1, h2, all_of_take h3 hI1.2]; simp

set_option maxRecDepth 20000 in
theorem law_Long {c : Core} {A_c_bounds : Option Addr} {c_c_bounds : Nat} {w : World} (h_c_bounds : Sl w A_c_bounds c_c_bounds 3 (c.bounds.map encB)) : Calls Try.prog 17 #[.agg #[.int .i64 c.layers, .slice A_c_bounds c.bounds.length c_c_bounds]] w (Ret w (.bool (decide (100 < ((c.bounds.length : Nat) : Int))))) := by
  refine calls_of_cw (args := [.agg #[.int .i64 c.layers, .slice A_c_bounds c.bounds.length c_c_bounds]]) Try.func17 rfl rfl rfl rfl ?_
  have H := Hp.start w
  have R0 := H.ext
  refine CW.seq fun K1 hK1 => ?_
  refine CW.region ?_
  refine LW.go rfl rfl (OW.box rfl fun b1 w1 N1 => ?_)
  replace H : Hp w w1 [.blk b1 24 [.int .i64 c.layers, .slice A_c_bounds c.bounds.length c_c_bounds]] := H.new N1 N1.blk
  replace R0 := H.ext
  refine LW.pure rfl rfl (RV.assign rfl) ?_
  refine LW.nil (hK1 _ _ ?_)
  refine CW.seq fun K2 hK2 => ?_
  refine CW.region ?_
  refine LW.pure rfl rfl (RV.fieldAddr f24_1 rfl) ?_
  refine LW.pure rfl rfl (RV.load1 k22 rfl ((H.blk 0 rfl).cells.off 1) rfl) ?_
  refine LW.pure rfl rfl (RV.len s22 rfl) ?_
  refine LW.pure rfl rfl (RV.gtr rfl rfl) ?_
  refine LW.pure rfl rfl (RV.assign rfl) ?_
  refine LW.nil (hK2 _ _ ?_)
  refine CW.ret ?_
  refine ⟨_, (ResOK.one rfl), ?_⟩
  refine ⟨?_, R0⟩
  · simp []

set_option maxRecDepth 20000 in
theorem core_over {t : Tight} {o : Tight} {w : World} (hb : -4611686018427387904 ≤ t.most ∧ t.most ≤ 4611686018427387903 ∧ -4611686018427387904 ≤ o.most ∧ o.most ≤ 4611686018427387903) : Calls Try.prog 92 #[.agg #[.bool t.known, .int .i64 t.most], .agg #[.bool o.known, .int .i64 o.most]] w (Ret w (.agg #[.bool ((tover t o).known), .int .i64 ((tover t o).most)])) := by
  refine calls_of_cw (args := [.agg #[.bool t.known, .int .i64 t.most], .agg #[.bool o.known, .int .i64 o.most]]) Try.func92 rfl rfl rfl rfl ?_
  have H := Hp.start w
  have R0 := H.ext
  refine CW.seq fun K1 hK1 => ?_
  refine CW.region ?_
  refine LW.go rfl rfl (OW.box rfl fun b1 w1 N1 => ?_)
  replace H : Hp w w1 [.blk b1 75 [.bool t.known, .int .i64 t.most]] := H.new N1 N1.blk
  replace R0 := H.ext
  refine LW.go rfl rfl (OW.box rfl fun b2 w2 N2 => ?_)
  replace H : Hp w w2 [.blk b2 75 [.bool o.known, .int .i64 o.most], .blk b1 75 [.bool t.known, .int .i64 t.most]] := H.new N2 N2.blk
  replace R0 := H.ext
  refine LW.go rfl rfl (OW.alloc z75 fun b3 w3 N3 => ?_)
  replace H : Hp w w3 [.blk b3 75 [.bool false, .int .i64 0], .blk b2 75 [.bool o.known, .int .i64 o.most], .blk b1 75 [.bool t.known, .int .i64 t.most]] := H.new N3 N3.blk
  replace R0 := H.ext
  refine LW.nil (hK1 _ _ ?_)
  refine CW.seq fun K2 hK2 => ?_
  refine CW.region ?_
  refine LW.pure rfl rfl (RV.fieldAddr f75_0 rfl) ?_
  refine LW.pure rfl rfl (RV.load1 k4 rfl ((H.blk 2 rfl).cells.off 0) rfl) ?_
  refine LW.pure rfl rfl (RV.move rfl) ?_
  cases h1 : t.known
  ·
    refine LW.no rfl rfl rfl rfl rfl ?_
    refine LW.no rfl rfl rfl rfl rfl ?_
    refine LW.pure rfl rfl (RV.pickF rfl rfl) ?_
    refine LW.pure rfl rfl (RV.fieldAddr f75_1 rfl) ?_
    refine LW.pure rfl rfl (RV.load1 k3 rfl ((H.blk 2 rfl).cells.off 1) rfl) ?_
    refine LW.pure rfl rfl (RV.fieldAddr f75_1 rfl) ?_
    refine LW.pure rfl rfl (RV.load1 k3 rfl ((H.blk 1 rfl).cells.off 1) rfl) ?_
    refine LW.pure rfl rfl (RV.add rfl rfl (by omega)) ?_
    refine LW.pure rfl rfl (RV.build (vs := [.bool false, .int .i64 (t.most + o.most)]) (cs := [.bool false, .int .i64 (t.most + o.most)]) rfl (fun _ => by kernel_rfl)) ?_
    refine LW.go rfl rfl (OW.store k75 rfl rfl (H.blk 0 rfl) (off := 0) (vs := [.bool false, .int .i64 (t.most + o.most)]) rfl rfl rfl rfl rfl fun w4 S1 => ?_)
    replace H : Hp w w4 [.blk b3 75 [.bool false, .int .i64 (t.most + o.most)], .blk b2 75 [.bool o.known, .int .i64 o.most], .blk b1 75 [.bool t.known, .int .i64 t.most]] := H.stored 0 rfl S1
    replace R0 := H.ext
    refine LW.nil (hK2 _ _ ?_)
    refine CW.ret ?_
    refine ⟨_, (ResOK.cell1 ⟨_, rfl, run_loadVar_agg k75 (H.blk 0 rfl).cells (us := [.bool false, .int .i64 (t.most + o.most)]) rfl rfl⟩), ?_⟩
    refine ⟨?_, R0⟩
    · simp [tover, h1]
  ·
    refine LW.pureY rfl rfl rfl rfl (RV.fieldAddr f75_0 rfl) ?_
    refine LW.pureY rfl rfl rfl rfl (RV.load1 k4 rfl ((H.blk 1 rfl).cells.off 0) rfl) ?_
    refine LW.pure rfl rfl (RV.pickT rfl rfl) ?_
    refine LW.pure rfl rfl (RV.fieldAddr f75_1 rfl) ?_
    refine LW.pure rfl rfl (RV.load1 k3 rfl ((H.blk 2 rfl).cells.off 1) rfl) ?_
    refine LW.pure rfl rfl (RV.fieldAddr f75_1 rfl) ?_
    refine LW.pure rfl rfl (RV.load1 k3 rfl ((H.blk 1 rfl).cells.off 1) rfl) ?_
    refine LW.pure rfl rfl (RV.add rfl rfl (by omega)) ?_
    refine LW.pure rfl rfl (RV.build (vs := [.bool o.known, .int .i64 (t.most + o.most)]) (cs := [.bool o.known, .int .i64 (t.most + o.most)]) rfl (fun _ => by kernel_rfl)) ?_
    refine LW.go rfl rfl (OW.store k75 rfl rfl (H.blk 0 rfl) (off := 0) (vs := [.bool o.known, .int .i64 (t.most + o.most)]) rfl rfl rfl rfl rfl fun w5 S2 => ?_)
    replace H : Hp w w5 [.blk b3 75 [.bool o.known, .int .i64 (t.most + o.most)], .blk b2 75 [.bool o.known, .int .i64 o.most], .blk b1 75 [.bool t.known, .int .i64 t.most]] := H.stored 0 rfl S2
    replace R0 := H.ext
    refine LW.nil (hK2 _ _ ?_)
    refine CW.ret ?_
    refine ⟨_, (ResOK.cell1 ⟨_, rfl, run_loadVar_agg k75 (H.blk 0 rfl).cells (us := [.bool o.known, .int .i64 (t.most + o.most)]) rfl rfl⟩), ?_⟩
    refine ⟨?_, R0⟩
    · simp [tover, h1]

set_option maxRecDepth 20000 in
theorem core_tighter {t : Tight} {o : Tight} {w : World}  : Calls Try.prog 91 #[.agg #[.bool t.known, .int .i64 t.most], .agg #[.bool o.known, .int .i64 o.most]] w (Ret w (.agg #[.bool ((tighter t o).known), .int .i64 ((tighter t o).most)])) := by
  refine calls_of_cw (args := [.agg #[.bool t.known, .int .i64 t.most], .agg #[.bool o.known, .int .i64 o.most]]) Try.func91 rfl rfl rfl rfl ?_
  have H := Hp.start w
  have R0 := H.ext
  refine CW.seq fun K1 hK1 => ?_
  refine CW.region ?_
  refine LW.go rfl rfl (OW.box rfl fun b1 w1 N1 => ?_)
  replace H : Hp w w1 [.blk b1 75 [.bool t.known, .int .i64 t.most]] := H.new N1 N1.blk
  replace R0 := H.ext
  refine LW.go rfl rfl (OW.box rfl fun b2 w2 N2 => ?_)
  replace H : Hp w w2 [.blk b2 75 [.bool o.known, .int .i64 o.most], .blk b1 75 [.bool t.known, .int .i64 t.most]] := H.new N2 N2.blk
  replace R0 := H.ext
  refine LW.go rfl rfl (OW.alloc z75 fun b3 w3 N3 => ?_)
  replace H : Hp w w3 [.blk b3 75 [.bool false, .int .i64 0], .blk b2 75 [.bool o.known, .int .i64 o.most], .blk b1 75 [.bool t.known, .int .i64 t.most]] := H.new N3 N3.blk
  replace R0 := H.ext
  refine LW.nil (hK1 _ _ ?_)
  refine CW.seq fun K2 hK2 => ?_
  refine CW.seq fun K3 hK3 => ?_
  refine CW.region ?_
  refine LW.pure rfl rfl (RV.fieldAddr f75_0 rfl) ?_
  refine LW.pure rfl rfl (RV.load1 k4 rfl ((H.blk 2 rfl).cells.off 0) rfl) ?_
  refine LW.pure rfl rfl (RV.not rfl) ?_
  refine LW.pure rfl rfl (RV.move rfl) ?_
  cases h1 : !t.known
  ·
    have h1 := (Bool.not_eq_false' _).mp h1
    refine LW.pureY rfl rfl rfl rfl (RV.fieldAddr f75_0 rfl) ?_
    refine LW.pureY rfl rfl rfl rfl (RV.load1 k4 rfl ((H.blk 1 rfl).cells.off 0) rfl) ?_
    refine LW.pureY rfl rfl rfl rfl (RV.move rfl) ?_
    cases h2 : o.known
    ·
      refine LW.no rfl rfl rfl rfl rfl ?_
      refine LW.no rfl rfl rfl rfl rfl ?_
      refine LW.no rfl rfl rfl rfl rfl ?_
      refine LW.no rfl rfl rfl rfl rfl ?_
      refine LW.no rfl rfl rfl rfl rfl ?_
      refine LW.pureY rfl rfl rfl rfl (RV.pickF rfl rfl) ?_
      refine LW.pure rfl rfl (RV.pickF rfl rfl) ?_
      refine LW.nil (hK3 _ _ ?_)
      refine CW.cond rfl (fun h => by cases h) (fun _ => ?_)
      refine CW.skip (hK2 _ _ ?_)
      refine CW.seq fun K4 hK4 => ?_
      refine CW.region ?_
      refine LW.pure rfl rfl (RV.loadA [.bool t.known, .int .i64 t.most] k75 rfl (H.blk 2 rfl).cells rfl rfl) ?_
      refine LW.go rfl rfl (OW.store k75 rfl rfl (H.blk 0 rfl) (off := 0) (vs := [.bool t.known, .int .i64 t.most]) rfl rfl rfl rfl rfl fun w4 S1 => ?_)
      replace H : Hp w w4 [.blk b3 75 [.bool t.known, .int .i64 t.most], .blk b2 75 [.bool o.known, .int .i64 o.most], .blk b1 75 [.bool t.known, .int .i64 t.most]] := H.stored 0 rfl S1
      replace R0 := H.ext
      refine LW.nil (hK4 _ _ ?_)
      refine CW.ret ?_
      refine ⟨_, (ResOK.cell1 ⟨_, rfl, run_loadVar_agg k75 (H.blk 0 rfl).cells (us := [.bool t.known, .int .i64 t.most]) rfl rfl⟩), ?_⟩
      refine ⟨?_, R0⟩
      · simp [tighter, h1, h2]
    ·
      refine LW.pureY rfl rfl rfl rfl (RV.fieldAddr f75_1 rfl) ?_
      refine LW.pureY rfl rfl rfl rfl (RV.load1 k3 rfl ((H.blk 1 rfl).cells.off 1) rfl) ?_
      refine LW.pureY rfl rfl rfl rfl (RV.fieldAddr f75_1 rfl) ?_
      refine LW.pureY rfl rfl rfl rfl (RV.load1 k3 rfl ((H.blk 2 rfl).cells.off 1) rfl) ?_
      refine LW.pureY rfl rfl rfl rfl (RV.lss rfl rfl) ?_
      refine LW.pureY rfl rfl rfl rfl (RV.pickT rfl rfl) ?_
      refine LW.pure rfl rfl (RV.pickF rfl rfl) ?_
      refine LW.nil (hK3 _ _ ?_)
      refine CW.cond rfl (fun h3 => ?_) (fun h3 => ?_)
      ·
        have h3 := of_decide_eq_true h3
        refine CW.seq fun K5 hK5 => ?_
        refine CW.region ?_
        refine LW.pure rfl rfl (RV.loadA [.bool o.known, .int .i64 o.most] k75 rfl (H.blk 1 rfl).cells rfl rfl) ?_
        refine LW.go rfl rfl (OW.store k75 rfl rfl (H.blk 0 rfl) (off := 0) (vs := [.bool o.known, .int .i64 o.most]) rfl rfl rfl rfl rfl fun w5 S2 => ?_)
        replace H : Hp w w5 [.blk b3 75 [.bool o.known, .int .i64 o.most], .blk b2 75 [.bool o.known, .int .i64 o.most], .blk b1 75 [.bool t.known, .int .i64 t.most]] := H.stored 0 rfl S2
        replace R0 := H.ext
        refine LW.nil (hK5 _ _ ?_)
        refine CW.ret ?_
        refine ⟨_, (ResOK.cell1 ⟨_, rfl, run_loadVar_agg k75 (H.blk 0 rfl).cells (us := [.bool o.known, .int .i64 o.most]) rfl rfl⟩), ?_⟩
        refine ⟨?_, R0⟩
        · simp [tighter, h1, h2, h3]
      ·
        have h3 := of_decide_eq_false h3
        refine CW.skip (hK2 _ _ ?_)
        refine CW.seq fun K6 hK6 => ?_
        refine CW.region ?_
        refine LW.pure rfl rfl (RV.loadA [.bool t.known, .int .i64 t.most] k75 rfl (H.blk 2 rfl).cells rfl rfl) ?_
        refine LW.go rfl rfl (OW.store k75 rfl rfl (H.blk 0 rfl) (off := 0) (vs := [.bool t.known, .int .i64 t.most]) rfl rfl rfl rfl rfl fun w6 S3 => ?_)
        replace H : Hp w w6 [.blk b3 75 [.bool t.known, .int .i64 t.most], .blk b2 75 [.bool o.known, .int .i64 o.most], .blk b1 75 [.bool t.known, .int .i64 t.most]] := H.stored 0 rfl S3
        replace R0 := H.ext
        refine LW.nil (hK6 _ _ ?_)
        refine CW.ret ?_
        refine ⟨_, (ResOK.cell1 ⟨_, rfl, run_loadVar_agg k75 (H.blk 0 rfl).cells (us := [.bool t.known, .int .i64 t.most]) rfl rfl⟩), ?_⟩
        refine ⟨?_, R0⟩
        · simp [tighter, h1, h2, h3]
  ·
    have h1 := (Bool.not_eq_true' _).mp h1
    refine LW.no rfl rfl rfl rfl rfl ?_
    refine LW.no rfl rfl rfl rfl rfl ?_
    refine LW.no rfl rfl rfl rfl rfl ?_
    refine LW.noU rfl rfl rfl rfl ?_
    refine LW.noU rfl rfl rfl rfl ?_
    refine LW.noU rfl rfl rfl rfl ?_
    refine LW.noU rfl rfl rfl rfl ?_
    refine LW.noU rfl rfl rfl rfl ?_
    refine LW.no rfl rfl rfl rfl rfl ?_
    refine LW.pure rfl rfl (RV.pickT rfl rfl) ?_
    refine LW.nil (hK3 _ _ ?_)
    refine CW.cond rfl (fun _ => ?_) (fun h => by cases h)
    refine CW.seq fun K7 hK7 => ?_
    refine CW.region ?_
    refine LW.pure rfl rfl (RV.loadA [.bool o.known, .int .i64 o.most] k75 rfl (H.blk 1 rfl).cells rfl rfl) ?_
    refine LW.go rfl rfl (OW.store k75 rfl rfl (H.blk 0 rfl) (off := 0) (vs := [.bool o.known, .int .i64 o.most]) rfl rfl rfl rfl rfl fun w7 S4 => ?_)
    replace H : Hp w w7 [.blk b3 75 [.bool o.known, .int .i64 o.most], .blk b2 75 [.bool o.known, .int .i64 o.most], .blk b1 75 [.bool t.known, .int .i64 t.most]] := H.stored 0 rfl S4
    replace R0 := H.ext
    refine LW.nil (hK7 _ _ ?_)
    refine CW.ret ?_
    refine ⟨_, (ResOK.cell1 ⟨_, rfl, run_loadVar_agg k75 (H.blk 0 rfl).cells (us := [.bool o.known, .int .i64 o.most]) rfl rfl⟩), ?_⟩
    refine ⟨?_, R0⟩
    · simp [tighter, h1]

end Go.Core
