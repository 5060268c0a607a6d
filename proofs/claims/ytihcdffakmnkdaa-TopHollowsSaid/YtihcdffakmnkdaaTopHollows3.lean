/- Lemmas and walks that the proof of this claim uses: D4w1, D4w3, D4x0, D4x1. -/
import Derived.Test.YtihcdffakmnkdaaTopHollows2
set_option linter.unusedVariables false
set_option linter.unusedSimpArgs false
namespace Go.D4
open Go.Tb Go.Proofs Go.RowKit
theorem Tc92 : callable Try.prog 92 = true := by kernel_rfl
theorem Te92 (a0 : Int) (a1 : Int) (b0 : Int) (b1 : Int) (w : World) : (Op.equalIn 10000 92 (.agg #[.int .i64 a0, .int .i64 a1]) (.agg #[.int .i64 b0, .int .i64 b1])).run Try.prog w = .ok ((a0 == b0) && (a1 == b1)) w := by
  rw [run_equalIn_agg w 9999 92 _ _ (by kernel_rfl) (by kernel_rfl)]
  simp [Program.fieldsOf, Try.underlying92, Op.eqFields, go_sem]
  by_cases h0 : a0 = b0 <;> by_cases h1 : a1 = b1 <;> simp [h0, h1]
theorem Tf94_0 : tyF Try.prog 94 0 = some 0 := by kernel_rfl
theorem Tf94_1 : tyF Try.prog 94 1 = some 1 := by kernel_rfl
theorem Tf94_2 : tyF Try.prog 94 2 = some 2 := by kernel_rfl
theorem Tf94_3 : tyF Try.prog 94 3 = some 3 := by kernel_rfl
theorem Tk94 : tyK Try.prog 94 = some (true, 4) := by kernel_rfl
theorem Tm90 : tyM Try.prog 90 = some (92, 3) := by kernel_rfl
theorem Ts55 : tyS Try.prog 55 = some (94, 4, 32, [.int .i64 0, .int .i64 0, .int .i64 0, .int .i64 0]) := by kernel_rfl
theorem Tz94 : tyZ Try.prog 94 = some (.agg #[.int .i64 0, .int .i64 0, .int .i64 0, .int .i64 0]) := by kernel_rfl
theorem KO92 : KeyOK Try.prog 92 ekBlock eqBlock :=
  KeyOK.agg (d := ((Try.prog.underlying 92).getD .bool)) (fun x => #[.int .i64 x.column, .int .i64 x.row]) (by kernel_rfl) (fun _ => rfl) (fun w em x => by kernel_rfl) (fun w x y => Te92 _ _ _ _ w) (fun x y => by cases x; cases y; simp [eqBlock, and_assoc]) (fun x => by simp [Instr.sameBits])
set_option maxRecDepth 20000 in
set_option maxHeartbeats 1000000 in
theorem cut_isPass_ok {a0 : Bog} {a1 : Pass} {A_a0_worth : Option Addr} {c_a0_worth : Nat} {w : World} {res : Int} (h_a0_worth : Sl2 w A_a0_worth c_a0_worth 1 encN a0.worth) (F : cut_isPass a0 a1 = some res) : Calls Try.prog 92 #[.agg #[.slice A_a0_worth a0.worth.length c_a0_worth], .agg #[.int .i64 a1.column, .int .i64 a1.row, .int .i64 a1.to_, .int .i64 a1.amount]] w (Rt w (.int .i64 res)) := by
  refine calls_of_cw (args := [.agg #[.slice A_a0_worth a0.worth.length c_a0_worth], .agg #[.int .i64 a1.column, .int .i64 a1.row, .int .i64 a1.to_, .int .i64 a1.amount]]) Try.func92 rfl rfl rfl rfl ?_
  have H := Hp.start w
  have R0 := H.ext
  unfold cut_isPass at F
  refine CW.seq fun K1 hK1 => ?_
  refine CW.region ?_
  refine LW.go rfl rfl (OW.box rfl fun b1 w1 N1 => ?_)
  replace H := H.new N1 N1.blk
  replace R0 := H.ext
  refine LW.go rfl rfl (OW.box rfl fun b2 w2 N2 => ?_)
  replace H := H.new N2 N2.blk
  replace R0 := H.ext
  refine LW.pure rfl rfl (RV.assign rfl) ?_
  refine LW.nil (hK1 _ _ ?_)
  refine CW.seq fun K2 hK2 => ?_
  refine CW.region ?_
  refine LW.pure rfl rfl (RV.fieldAddr Tf24_0 rfl) ?_
  refine LW.pure rfl rfl (RV.load1 Tk22 rfl ((H.blk 1 rfl).cells.off 0) rfl) ?_
  refine LW.pure rfl rfl (RV.len Ts22 rfl) ?_
  refine LW.pure rfl rfl (RV.assign rfl) ?_
  refine LW.nil (hK2 _ _ ?_)
  refine CW.seq fun K3 hK3 => ?_
  refine CW.seqJ (fun ρ wl1 => (∃ (t40_1 : Bool), cut_isPass_k1 a1 t40_1 = some res ∧ ρ = [(3, .pointer (some (⟨b2, 0, none⟩))), (4, .int .i64 0), (40, .bool t40_1)] ∧ Hp w wl1 [.blk b2 94 [.int .i64 a1.column, .int .i64 a1.row, .int .i64 a1.to_, .int .i64 a1.amount]])) ?_ ?_
  ·
    rintro _ wl1 ⟨t40_1, F, rfl, H⟩
    have R0 := H.ext
    unfold cut_isPass_k1 at F
    by_cases hp1 : t40_1 = true
    ·
      replace F := ite_y hp1 F
      have hq1 : t40_1 = true := hp1
      refine CW.condT rfl hq1 ?_
      refine CW.seq fun K4 hK4 => ?_
      refine CW.region ?_
      refine LW.pure rfl rfl (RV.assign rfl) ?_
      refine LW.nil (hK4 _ _ ?_)
      refine CW.ret ?_
      obtain rfl := Option.some.inj F
      refine ⟨_, (ResOK.one rfl), ?_⟩
      refine ⟨(by first | rfl | simp), R0⟩
    ·
      replace F := ite_n hp1 F
      have hq1 : t40_1 = false := raw_f hp1
      refine CW.condF rfl hq1 ?_
      refine CW.skip (hK3 _ _ ?_)
      refine CW.seq fun K5 hK5 => ?_
      refine CW.seq fun K6 hK6 => ?_
      obtain ⟨r1, hr1, F⟩ := bnd_some F
      refine CW.region ?_
      refine LW.pure rfl rfl (RV.fieldAddr Tf94_3 rfl) ?_
      refine LW.pure rfl rfl (RV.load1 Tk3 rfl ((H.blk 0 rfl).cells.off 3) rfl) ?_
      refine LW.go rfl rfl (OW.call Tc67 rfl (cut_from_ok (a0 := a1.amount) (a1 := (1 : Int)) (a2 := (1000 : Int)) hr1) ?_)
      rintro _ w3 ⟨rfl, E1⟩
      refine ⟨_, rfl, ?_⟩
      replace H := H.grow E1
      replace R0 := H.ext
      refine LW.pure rfl rfl (RV.not rfl) ?_
      refine LW.nil (hK6 _ _ ?_)
      by_cases hp2 : r1 = true
      ·
        replace F := ite_y hp2 F
        have hq2 : r1 = true := hp2
        refine CW.condF rfl (not_f hq2) ?_
        refine CW.skip (hK5 _ _ ?_)
        refine CW.seq fun K7 hK7 => ?_
        refine CW.region ?_
        refine LW.pure rfl rfl (RV.assign rfl) ?_
        refine LW.nil (hK7 _ _ ?_)
        refine CW.ret ?_
        obtain rfl := Option.some.inj F
        refine ⟨_, (ResOK.one rfl), ?_⟩
        refine ⟨(by first | rfl | simp), R0⟩
      ·
        replace F := ite_n hp2 F
        have hq2 : r1 = false := raw_f hp2
        refine CW.condT rfl (not_t hq2) ?_
        refine CW.seq fun K8 hK8 => ?_
        refine CW.region ?_
        refine LW.pure rfl rfl (RV.assign rfl) ?_
        refine LW.nil (hK8 _ _ ?_)
        refine CW.ret ?_
        obtain rfl := Option.some.inj F
        refine ⟨_, (ResOK.one rfl), ?_⟩
        refine ⟨(by first | rfl | simp), R0⟩
  ·
    intro K9 hK9 jK18
    obtain ⟨hg1, F⟩ := gd_some F
    obtain ⟨r2, hr2, F⟩ := bnd_some F
    by_cases hp3 : r2 = true
    ·
      replace F := ite_y hp3 F
      have hq3 : r2 = true := hp3
      obtain ⟨r3, hr3, F⟩ := bnd_some F
      obtain ⟨hg2, F⟩ := gd_some F
      obtain ⟨r4, hr4, F⟩ := bnd_some F
      by_cases hp4 : r4 = true
      ·
        replace F := ite_y hp4 F
        have hq4 : r4 = true := hp4
        obtain ⟨hg3, F⟩ := gd_some F
        obtain ⟨r5, hr5, F⟩ := bnd_some F
        by_cases hp5 : r5 = true
        ·
          replace F := ite_y hp5 F
          have hq5 : r5 = true := hp5
          obtain ⟨hg4, F⟩ := gd_some F
          obtain ⟨r6, hr6, F⟩ := bnd_some F
          refine CW.draw [] (fun _ => True) (.cons 0 1 (.cons 1 1 (.cons 2 1 (.cons 3 1 (.cons 4 0 (.cons 5 1 (.cons 6 1 (.cons 7 1 (.cons 8 1 (.cons 9 1 (.cons 10 0 (.cons 11 1 (.cons 12 0 (.cons 13 1 (.cons 14 1 (.cons 15 1 (.cons 16 1 (.cons 17 1 (.cons 18 1 (.cons 19 1 (.cons 20 0 (.cons 21 1 (.cons 22 1 (.cons 23 1 (.cons 24 1 (.cons 25 1 (.cons 26 1 (.cons 27 1 (.cons 28 1 (.cons 29 0 (.cons 30 1 (.cons 31 1 .nil)))))))))))))))))))))))))))))))) mixed (by kernel_rfl) fun w4 E2 => ?_
          replace H := H.grow E2
          replace R0 := H.ext
          refine DW.fix rfl rfl rfl (fun _ EQ => RV.fieldAddr Tf94_0 rfl) ?_
          refine DW.fix rfl rfl rfl (fun _ EQ => RV.load1 Tk3 rfl (((H.grow EQ).blk 0 rfl).cells.off 0) rfl) ?_
          refine DW.fix rfl rfl rfl (fun _ EQ => RV.move rfl) ?_
          refine DW.fix rfl rfl rfl (fun _ EQ => RV.sub rfl rfl hg1) ?_
          refine DW.sole rfl rfl rfl (OW.call Tc67 rfl (cut_from_ok (a0 := a1.column) (a1 := (0 : Int)) (a2 := ((a0.worth.length : Int)) - 1) hr2) ?_)
          rintro _ w5 ⟨rfl, E3⟩
          refine ⟨_, rfl, fun _ => E3, ModX.ext E3, ?_⟩
          replace H := H.grow E3
          replace R0 := H.ext
          refine DW.fix rfl rfl rfl (fun _ EQ => RV.not rfl) ?_
          refine DW.fix rfl rfl rfl (fun _ EQ => RV.move rfl) ?_
          refine DW.fixYB rfl rfl rfl rfl rfl (not_f hq3) (fun _ EQ => RV.fieldAddr Tf94_1 rfl) ?_
          refine DW.fixYB rfl rfl rfl rfl rfl (not_f hq3) (fun _ EQ => RV.load1 Tk3 rfl (((H.grow EQ).blk 0 rfl).cells.off 1) rfl) ?_
          refine DW.fixYB rfl rfl rfl rfl rfl (not_f hq3) (fun _ EQ => RV.loadA [.slice A_a0_worth a0.worth.length c_a0_worth] Tk24 rfl ((H.grow EQ).blk 1 rfl).cells rfl rfl) ?_
          refine DW.soleYB rfl rfl rfl rfl rfl (not_f hq3) (OW.call Tc68 rfl (cut_depth_ok (a0 := a0) (h_a0_worth.ext R0) hr3) ?_)
          rintro _ w6 ⟨rfl, E4⟩
          refine ⟨_, rfl, fun _ => E4, ModX.ext E4, ?_⟩
          replace H := H.grow E4
          replace R0 := H.ext
          refine DW.fixYB rfl rfl rfl rfl rfl (not_f hq3) (fun _ EQ => RV.sub rfl rfl hg2) ?_
          refine DW.soleYB rfl rfl rfl rfl rfl (not_f hq3) (OW.call Tc67 rfl (cut_from_ok (a0 := a1.row) (a1 := (1 : Int)) (a2 := r3 - 1) hr4) ?_)
          rintro _ w7 ⟨rfl, E5⟩
          refine ⟨_, rfl, fun _ => E5, ModX.ext E5, ?_⟩
          replace H := H.grow E5
          replace R0 := H.ext
          refine DW.fixYB rfl rfl rfl rfl rfl (not_f hq3) (fun _ EQ => RV.not rfl) ?_
          refine DW.fix rfl rfl rfl (fun _ EQ => RV.pickFB rfl (not_f hq3) rfl) ?_
          refine DW.fix rfl rfl rfl (fun _ EQ => RV.move rfl) ?_
          refine DW.fixYB rfl rfl rfl rfl rfl (not_f hq4) (fun _ EQ => RV.fieldAddr Tf94_2 rfl) ?_
          refine DW.fixYB rfl rfl rfl rfl rfl (not_f hq4) (fun _ EQ => RV.load1 Tk3 rfl (((H.grow EQ).blk 0 rfl).cells.off 2) rfl) ?_
          refine DW.fixYB rfl rfl rfl rfl rfl (not_f hq4) (fun _ EQ => RV.move rfl) ?_
          refine DW.fixYB rfl rfl rfl rfl rfl (not_f hq4) (fun _ EQ => RV.sub rfl rfl hg3) ?_
          refine DW.soleYB rfl rfl rfl rfl rfl (not_f hq4) (OW.call Tc67 rfl (cut_from_ok (a0 := a1.to_) (a1 := (0 : Int)) (a2 := ((a0.worth.length : Int)) - 1) hr5) ?_)
          rintro _ w8 ⟨rfl, E6⟩
          refine ⟨_, rfl, fun _ => E6, ModX.ext E6, ?_⟩
          replace H := H.grow E6
          replace R0 := H.ext
          refine DW.fixYB rfl rfl rfl rfl rfl (not_f hq4) (fun _ EQ => RV.not rfl) ?_
          refine DW.fix rfl rfl rfl (fun _ EQ => RV.pickFB rfl (not_f hq4) rfl) ?_
          refine DW.fix rfl rfl rfl (fun _ EQ => RV.move rfl) ?_
          refine DW.fixYB rfl rfl rfl rfl rfl (not_f hq5) (fun _ EQ => RV.fieldAddr Tf94_2 rfl) ?_
          refine DW.fixYB rfl rfl rfl rfl rfl (not_f hq5) (fun _ EQ => RV.load1 Tk3 rfl (((H.grow EQ).blk 0 rfl).cells.off 2) rfl) ?_
          refine DW.fixYB rfl rfl rfl rfl rfl (not_f hq5) (fun _ EQ => RV.fieldAddr Tf94_0 rfl) ?_
          refine DW.fixYB rfl rfl rfl rfl rfl (not_f hq5) (fun _ EQ => RV.load1 Tk3 rfl (((H.grow EQ).blk 0 rfl).cells.off 0) rfl) ?_
          refine DW.fixYB rfl rfl rfl rfl rfl (not_f hq5) (fun _ EQ => RV.sub rfl rfl hg4) ?_
          refine DW.soleYB rfl rfl rfl rfl rfl (not_f hq5) (OW.call Tc67 rfl (cut_from_ok (a0 := a1.to_ - a1.column) (a1 := (-1 : Int)) (a2 := (1 : Int)) hr6) ?_)
          rintro _ w9 ⟨rfl, E7⟩
          refine ⟨_, rfl, fun _ => E7, ModX.ext E7, ?_⟩
          replace H := H.grow E7
          replace R0 := H.ext
          refine DW.fixYB rfl rfl rfl rfl rfl (not_f hq5) (fun _ EQ => RV.not rfl) ?_
          refine DW.fix rfl rfl rfl (fun _ EQ => RV.pickFB rfl (not_f hq5) rfl) ?_
          replace H := H.pick (L' := [.blk b2 94 [.int .i64 a1.column, .int .i64 a1.row, .int .i64 a1.to_, .int .i64 a1.amount]]) [0] (by decide) rfl
          replace R0 := H.ext
          refine DW.nil (jK18 _ _ ⟨_, ?_, ⟨(!r6), F, rfl, H⟩⟩)
          exact ⟨rfl, rfl, rfl, trivial⟩
        ·
          replace F := ite_n hp5 F
          have hq5 : r5 = false := raw_f hp5
          refine CW.draw [] (fun _ => True) (.cons 0 1 (.cons 1 1 (.cons 2 1 (.cons 3 1 (.cons 4 0 (.cons 5 1 (.cons 6 1 (.cons 7 1 (.cons 8 1 (.cons 9 1 (.cons 10 0 (.cons 11 1 (.cons 12 0 (.cons 13 1 (.cons 14 1 (.cons 15 1 (.cons 16 1 (.cons 17 1 (.cons 18 1 (.cons 19 1 (.cons 20 0 (.cons 21 1 (.cons 22 1 (.cons 23 1 (.cons 24 1 (.cons 25 1 (.cons 26 1 (.cons 27 1 (.cons 28 1 (.cons 29 0 (.cons 30 1 (.cons 31 1 .nil)))))))))))))))))))))))))))))))) mixed (by kernel_rfl) fun w10 E8 => ?_
          replace H := H.grow E8
          replace R0 := H.ext
          refine DW.fix rfl rfl rfl (fun _ EQ => RV.fieldAddr Tf94_0 rfl) ?_
          refine DW.fix rfl rfl rfl (fun _ EQ => RV.load1 Tk3 rfl (((H.grow EQ).blk 0 rfl).cells.off 0) rfl) ?_
          refine DW.fix rfl rfl rfl (fun _ EQ => RV.move rfl) ?_
          refine DW.fix rfl rfl rfl (fun _ EQ => RV.sub rfl rfl hg1) ?_
          refine DW.sole rfl rfl rfl (OW.call Tc67 rfl (cut_from_ok (a0 := a1.column) (a1 := (0 : Int)) (a2 := ((a0.worth.length : Int)) - 1) hr2) ?_)
          rintro _ w11 ⟨rfl, E9⟩
          refine ⟨_, rfl, fun _ => E9, ModX.ext E9, ?_⟩
          replace H := H.grow E9
          replace R0 := H.ext
          refine DW.fix rfl rfl rfl (fun _ EQ => RV.not rfl) ?_
          refine DW.fix rfl rfl rfl (fun _ EQ => RV.move rfl) ?_
          refine DW.fixYB rfl rfl rfl rfl rfl (not_f hq3) (fun _ EQ => RV.fieldAddr Tf94_1 rfl) ?_
          refine DW.fixYB rfl rfl rfl rfl rfl (not_f hq3) (fun _ EQ => RV.load1 Tk3 rfl (((H.grow EQ).blk 0 rfl).cells.off 1) rfl) ?_
          refine DW.fixYB rfl rfl rfl rfl rfl (not_f hq3) (fun _ EQ => RV.loadA [.slice A_a0_worth a0.worth.length c_a0_worth] Tk24 rfl ((H.grow EQ).blk 1 rfl).cells rfl rfl) ?_
          refine DW.soleYB rfl rfl rfl rfl rfl (not_f hq3) (OW.call Tc68 rfl (cut_depth_ok (a0 := a0) (h_a0_worth.ext R0) hr3) ?_)
          rintro _ w12 ⟨rfl, E10⟩
          refine ⟨_, rfl, fun _ => E10, ModX.ext E10, ?_⟩
          replace H := H.grow E10
          replace R0 := H.ext
          refine DW.fixYB rfl rfl rfl rfl rfl (not_f hq3) (fun _ EQ => RV.sub rfl rfl hg2) ?_
          refine DW.soleYB rfl rfl rfl rfl rfl (not_f hq3) (OW.call Tc67 rfl (cut_from_ok (a0 := a1.row) (a1 := (1 : Int)) (a2 := r3 - 1) hr4) ?_)
          rintro _ w13 ⟨rfl, E11⟩
          refine ⟨_, rfl, fun _ => E11, ModX.ext E11, ?_⟩
          replace H := H.grow E11
          replace R0 := H.ext
          refine DW.fixYB rfl rfl rfl rfl rfl (not_f hq3) (fun _ EQ => RV.not rfl) ?_
          refine DW.fix rfl rfl rfl (fun _ EQ => RV.pickFB rfl (not_f hq3) rfl) ?_
          refine DW.fix rfl rfl rfl (fun _ EQ => RV.move rfl) ?_
          refine DW.fixYB rfl rfl rfl rfl rfl (not_f hq4) (fun _ EQ => RV.fieldAddr Tf94_2 rfl) ?_
          refine DW.fixYB rfl rfl rfl rfl rfl (not_f hq4) (fun _ EQ => RV.load1 Tk3 rfl (((H.grow EQ).blk 0 rfl).cells.off 2) rfl) ?_
          refine DW.fixYB rfl rfl rfl rfl rfl (not_f hq4) (fun _ EQ => RV.move rfl) ?_
          refine DW.fixYB rfl rfl rfl rfl rfl (not_f hq4) (fun _ EQ => RV.sub rfl rfl hg3) ?_
          refine DW.soleYB rfl rfl rfl rfl rfl (not_f hq4) (OW.call Tc67 rfl (cut_from_ok (a0 := a1.to_) (a1 := (0 : Int)) (a2 := ((a0.worth.length : Int)) - 1) hr5) ?_)
          rintro _ w14 ⟨rfl, E12⟩
          refine ⟨_, rfl, fun _ => E12, ModX.ext E12, ?_⟩
          replace H := H.grow E12
          replace R0 := H.ext
          refine DW.fixYB rfl rfl rfl rfl rfl (not_f hq4) (fun _ EQ => RV.not rfl) ?_
          refine DW.fix rfl rfl rfl (fun _ EQ => RV.pickFB rfl (not_f hq4) rfl) ?_
          refine DW.fix rfl rfl rfl (fun _ EQ => RV.move rfl) ?_
          refine DW.fixNB rfl rfl rfl rfl rfl (ne_beq (v := true) (not_t hq5) rfl) ?_
          refine DW.fixNB rfl rfl rfl rfl rfl (ne_beq (v := true) (not_t hq5) rfl) ?_
          refine DW.fixNB rfl rfl rfl rfl rfl (ne_beq (v := true) (not_t hq5) rfl) ?_
          refine DW.fixNB rfl rfl rfl rfl rfl (ne_beq (v := true) (not_t hq5) rfl) ?_
          refine DW.fixNB rfl rfl rfl rfl rfl (ne_beq (v := true) (not_t hq5) rfl) ?_
          refine DW.soleNB rfl rfl rfl rfl rfl (ne_beq (v := true) (not_t hq5) rfl) ?_
          refine DW.fixNB rfl rfl rfl rfl rfl (ne_beq (v := true) (not_t hq5) rfl) ?_
          refine DW.fix rfl rfl rfl (fun _ EQ => RV.pickTB rfl (not_t hq5) rfl) ?_
          replace H := H.pick (L' := [.blk b2 94 [.int .i64 a1.column, .int .i64 a1.row, .int .i64 a1.to_, .int .i64 a1.amount]]) [0] (by decide) rfl
          replace R0 := H.ext
          refine DW.nil (jK18 _ _ ⟨_, ?_, ⟨true, F, rfl, H⟩⟩)
          exact ⟨rfl, rfl, rfl, trivial⟩
      ·
        replace F := ite_n hp4 F
        have hq4 : r4 = false := raw_f hp4
        refine CW.draw [] (fun _ => True) (.cons 0 1 (.cons 1 1 (.cons 2 1 (.cons 3 1 (.cons 4 0 (.cons 5 1 (.cons 6 1 (.cons 7 1 (.cons 8 1 (.cons 9 1 (.cons 10 0 (.cons 11 1 (.cons 12 0 (.cons 13 1 (.cons 14 1 (.cons 15 1 (.cons 16 1 (.cons 17 1 (.cons 18 1 (.cons 19 1 (.cons 20 0 (.cons 21 1 (.cons 22 1 (.cons 23 1 (.cons 24 1 (.cons 25 1 (.cons 26 1 (.cons 27 1 (.cons 28 1 (.cons 29 0 (.cons 30 1 (.cons 31 1 .nil)))))))))))))))))))))))))))))))) mixed (by kernel_rfl) fun w15 E13 => ?_
        replace H := H.grow E13
        replace R0 := H.ext
        refine DW.fix rfl rfl rfl (fun _ EQ => RV.fieldAddr Tf94_0 rfl) ?_
        refine DW.fix rfl rfl rfl (fun _ EQ => RV.load1 Tk3 rfl (((H.grow EQ).blk 0 rfl).cells.off 0) rfl) ?_
        refine DW.fix rfl rfl rfl (fun _ EQ => RV.move rfl) ?_
        refine DW.fix rfl rfl rfl (fun _ EQ => RV.sub rfl rfl hg1) ?_
        refine DW.sole rfl rfl rfl (OW.call Tc67 rfl (cut_from_ok (a0 := a1.column) (a1 := (0 : Int)) (a2 := ((a0.worth.length : Int)) - 1) hr2) ?_)
        rintro _ w16 ⟨rfl, E14⟩
        refine ⟨_, rfl, fun _ => E14, ModX.ext E14, ?_⟩
        replace H := H.grow E14
        replace R0 := H.ext
        refine DW.fix rfl rfl rfl (fun _ EQ => RV.not rfl) ?_
        refine DW.fix rfl rfl rfl (fun _ EQ => RV.move rfl) ?_
        refine DW.fixYB rfl rfl rfl rfl rfl (not_f hq3) (fun _ EQ => RV.fieldAddr Tf94_1 rfl) ?_
        refine DW.fixYB rfl rfl rfl rfl rfl (not_f hq3) (fun _ EQ => RV.load1 Tk3 rfl (((H.grow EQ).blk 0 rfl).cells.off 1) rfl) ?_
        refine DW.fixYB rfl rfl rfl rfl rfl (not_f hq3) (fun _ EQ => RV.loadA [.slice A_a0_worth a0.worth.length c_a0_worth] Tk24 rfl ((H.grow EQ).blk 1 rfl).cells rfl rfl) ?_
        refine DW.soleYB rfl rfl rfl rfl rfl (not_f hq3) (OW.call Tc68 rfl (cut_depth_ok (a0 := a0) (h_a0_worth.ext R0) hr3) ?_)
        rintro _ w17 ⟨rfl, E15⟩
        refine ⟨_, rfl, fun _ => E15, ModX.ext E15, ?_⟩
        replace H := H.grow E15
        replace R0 := H.ext
        refine DW.fixYB rfl rfl rfl rfl rfl (not_f hq3) (fun _ EQ => RV.sub rfl rfl hg2) ?_
        refine DW.soleYB rfl rfl rfl rfl rfl (not_f hq3) (OW.call Tc67 rfl (cut_from_ok (a0 := a1.row) (a1 := (1 : Int)) (a2 := r3 - 1) hr4) ?_)
        rintro _ w18 ⟨rfl, E16⟩
        refine ⟨_, rfl, fun _ => E16, ModX.ext E16, ?_⟩
        replace H := H.grow E16
        replace R0 := H.ext
        refine DW.fixYB rfl rfl rfl rfl rfl (not_f hq3) (fun _ EQ => RV.not rfl) ?_
        refine DW.fix rfl rfl rfl (fun _ EQ => RV.pickFB rfl (not_f hq3) rfl) ?_
        refine DW.fix rfl rfl rfl (fun _ EQ => RV.move rfl) ?_
        refine DW.fixNB rfl rfl rfl rfl rfl (ne_beq (v := true) (not_t hq4) rfl) ?_
        refine DW.fixNB rfl rfl rfl rfl rfl (ne_beq (v := true) (not_t hq4) rfl) ?_
        refine DW.fixNB rfl rfl rfl rfl rfl (ne_beq (v := true) (not_t hq4) rfl) ?_
        refine DW.fixNB rfl rfl rfl rfl rfl (ne_beq (v := true) (not_t hq4) rfl) ?_
        refine DW.soleNB rfl rfl rfl rfl rfl (ne_beq (v := true) (not_t hq4) rfl) ?_
        refine DW.fixNB rfl rfl rfl rfl rfl (ne_beq (v := true) (not_t hq4) rfl) ?_
        refine DW.fix rfl rfl rfl (fun _ EQ => RV.pickTB rfl (not_t hq4) rfl) ?_
        refine DW.fix rfl rfl rfl (fun _ EQ => RV.move rfl) ?_
        refine DW.fixNB rfl rfl rfl rfl rfl (ne_beq (v := true) rfl rfl) ?_
        refine DW.fixNB rfl rfl rfl rfl rfl (ne_beq (v := true) rfl rfl) ?_
        refine DW.fixNB rfl rfl rfl rfl rfl (ne_beq (v := true) rfl rfl) ?_
        refine DW.fixNB rfl rfl rfl rfl rfl (ne_beq (v := true) rfl rfl) ?_
        refine DW.fixNB rfl rfl rfl rfl rfl (ne_beq (v := true) rfl rfl) ?_
        refine DW.soleNB rfl rfl rfl rfl rfl (ne_beq (v := true) rfl rfl) ?_
        refine DW.fixNB rfl rfl rfl rfl rfl (ne_beq (v := true) rfl rfl) ?_
        refine DW.fix rfl rfl rfl (fun _ EQ => RV.pickTB rfl rfl rfl) ?_
        replace H := H.pick (L' := [.blk b2 94 [.int .i64 a1.column, .int .i64 a1.row, .int .i64 a1.to_, .int .i64 a1.amount]]) [0] (by decide) rfl
        replace R0 := H.ext
        refine DW.nil (jK18 _ _ ⟨_, ?_, ⟨true, F, rfl, H⟩⟩)
        exact ⟨rfl, rfl, rfl, trivial⟩
    ·
      replace F := ite_n hp3 F
      have hq3 : r2 = false := raw_f hp3
      refine CW.draw [] (fun _ => True) (.cons 0 1 (.cons 1 1 (.cons 2 1 (.cons 3 1 (.cons 4 0 (.cons 5 1 (.cons 6 1 (.cons 7 1 (.cons 8 1 (.cons 9 1 (.cons 10 0 (.cons 11 1 (.cons 12 0 (.cons 13 1 (.cons 14 1 (.cons 15 1 (.cons 16 1 (.cons 17 1 (.cons 18 1 (.cons 19 1 (.cons 20 0 (.cons 21 1 (.cons 22 1 (.cons 23 1 (.cons 24 1 (.cons 25 1 (.cons 26 1 (.cons 27 1 (.cons 28 1 (.cons 29 0 (.cons 30 1 (.cons 31 1 .nil)))))))))))))))))))))))))))))))) mixed (by kernel_rfl) fun w19 E17 => ?_
      replace H := H.grow E17
      replace R0 := H.ext
      refine DW.fix rfl rfl rfl (fun _ EQ => RV.fieldAddr Tf94_0 rfl) ?_
      refine DW.fix rfl rfl rfl (fun _ EQ => RV.load1 Tk3 rfl (((H.grow EQ).blk 0 rfl).cells.off 0) rfl) ?_
      refine DW.fix rfl rfl rfl (fun _ EQ => RV.move rfl) ?_
      refine DW.fix rfl rfl rfl (fun _ EQ => RV.sub rfl rfl hg1) ?_
      refine DW.sole rfl rfl rfl (OW.call Tc67 rfl (cut_from_ok (a0 := a1.column) (a1 := (0 : Int)) (a2 := ((a0.worth.length : Int)) - 1) hr2) ?_)
      rintro _ w20 ⟨rfl, E18⟩
      refine ⟨_, rfl, fun _ => E18, ModX.ext E18, ?_⟩
      replace H := H.grow E18
      replace R0 := H.ext
      refine DW.fix rfl rfl rfl (fun _ EQ => RV.not rfl) ?_
      refine DW.fix rfl rfl rfl (fun _ EQ => RV.move rfl) ?_
      refine DW.fixNB rfl rfl rfl rfl rfl (ne_beq (v := true) (not_t hq3) rfl) ?_
      refine DW.fixNB rfl rfl rfl rfl rfl (ne_beq (v := true) (not_t hq3) rfl) ?_
      refine DW.fixNB rfl rfl rfl rfl rfl (ne_beq (v := true) (not_t hq3) rfl) ?_
      refine DW.soleNB rfl rfl rfl rfl rfl (ne_beq (v := true) (not_t hq3) rfl) ?_
      refine DW.fixNB rfl rfl rfl rfl rfl (ne_beq (v := true) (not_t hq3) rfl) ?_
      refine DW.soleNB rfl rfl rfl rfl rfl (ne_beq (v := true) (not_t hq3) rfl) ?_
      refine DW.fixNB rfl rfl rfl rfl rfl (ne_beq (v := true) (not_t hq3) rfl) ?_
      refine DW.fix rfl rfl rfl (fun _ EQ => RV.pickTB rfl (not_t hq3) rfl) ?_
      refine DW.fix rfl rfl rfl (fun _ EQ => RV.move rfl) ?_
      refine DW.fixNB rfl rfl rfl rfl rfl (ne_beq (v := true) rfl rfl) ?_
      refine DW.fixNB rfl rfl rfl rfl rfl (ne_beq (v := true) rfl rfl) ?_
      refine DW.fixNB rfl rfl rfl rfl rfl (ne_beq (v := true) rfl rfl) ?_
      refine DW.fixNB rfl rfl rfl rfl rfl (ne_beq (v := true) rfl rfl) ?_
      refine DW.soleNB rfl rfl rfl rfl rfl (ne_beq (v := true) rfl rfl) ?_
      refine DW.fixNB rfl rfl rfl rfl rfl (ne_beq (v := true) rfl rfl) ?_
      refine DW.fix rfl rfl rfl (fun _ EQ => RV.pickTB rfl rfl rfl) ?_
      refine DW.fix rfl rfl rfl (fun _ EQ => RV.move rfl) ?_
      refine DW.fixNB rfl rfl rfl rfl rfl (ne_beq (v := true) rfl rfl) ?_
      refine DW.fixNB rfl rfl rfl rfl rfl (ne_beq (v := true) rfl rfl) ?_
      refine DW.fixNB rfl rfl rfl rfl rfl (ne_beq (v := true) rfl rfl) ?_
      refine DW.fixNB rfl rfl rfl rfl rfl (ne_beq (v := true) rfl rfl) ?_
      refine DW.fixNB rfl rfl rfl rfl rfl (ne_beq (v := true) rfl rfl) ?_
      refine DW.soleNB rfl rfl rfl rfl rfl (ne_beq (v := true) rfl rfl) ?_
      refine DW.fixNB rfl rfl rfl rfl rfl (ne_beq (v := true) rfl rfl) ?_
      refine DW.fix rfl rfl rfl (fun _ EQ => RV.pickTB rfl rfl rfl) ?_
      replace H := H.pick (L' := [.blk b2 94 [.int .i64 a1.column, .int .i64 a1.row, .int .i64 a1.to_, .int .i64 a1.amount]]) [0] (by decide) rfl
      replace R0 := H.ext
      refine DW.nil (jK18 _ _ ⟨_, ?_, ⟨true, F, rfl, H⟩⟩)
      exact ⟨rfl, rfl, rfl, trivial⟩
set_option maxRecDepth 20000 in
set_option maxHeartbeats 1000000 in
theorem cut_CheckProof_ok {a0 : Bog} {a1 : List Pass} {A_a0_worth : Option Addr} {c_a0_worth : Nat} {A_a1 : Option Addr} {c_a1 : Nat} {w : World} {res : Int × Int} (h_a0_worth : Sl2 w A_a0_worth c_a0_worth 1 encN a0.worth) (h_a1 : Sl w A_a1 c_a1 4 (a1.map encPass)) (F : cut_CheckProof a0 a1 = some res) : Calls Try.prog 55 #[.agg #[.slice A_a0_worth a0.worth.length c_a0_worth], .slice A_a1 a1.length c_a1] w (Rt w (.tuple #[.int .i64 res.1, .int .i64 res.2])) := by
  refine calls_of_cw (args := [.agg #[.slice A_a0_worth a0.worth.length c_a0_worth], .slice A_a1 a1.length c_a1]) Try.func55 rfl rfl rfl rfl ?_
  have H := Hp.start w
  have R0 := H.ext
  unfold cut_CheckProof at F
  refine CW.seq fun K1 hK1 => ?_
  refine CW.region ?_
  refine LW.go rfl rfl (OW.box rfl fun b1 w1 N1 => ?_)
  replace H := H.new N1 N1.blk
  replace R0 := H.ext
  refine LW.pure rfl rfl (RV.assign rfl) ?_
  refine LW.pure rfl rfl (RV.assign rfl) ?_
  refine LW.nil (hK1 _ _ ?_)
  refine CW.seq fun K2 hK2 => ?_
  refine CW.seq fun K3 hK3 => ?_
  obtain ⟨r2, hr2, F⟩ := bnd_some F
  refine CW.region ?_
  refine LW.pure rfl rfl (RV.loadA [.slice A_a0_worth a0.worth.length c_a0_worth] Tk24 rfl (H.blk 0 rfl).cells rfl rfl) ?_
  refine LW.go rfl rfl (OW.call Tc25 rfl (cut_Validate_ok (a0 := a0) (h_a0_worth.ext R0) hr2) ?_)
  rintro _ w2 ⟨rfl, E1⟩
  refine ⟨_, rfl, ?_⟩
  replace H := H.grow E1
  replace R0 := H.ext
  refine LW.pure rfl rfl (RV.assign rfl) ?_
  refine LW.nil (hK3 _ _ ?_)
  refine CW.seq fun K4 hK4 => ?_
  refine CW.region ?_
  refine LW.pure rfl rfl (RV.move rfl) ?_
  refine LW.pure rfl rfl (RV.nei rfl rfl) ?_
  refine LW.nil (hK4 _ _ ?_)
  by_cases hp1 : r2 = 0
  ·
    replace F := ite_y hp1 F
    have hq1 := dec_t hp1
    refine CW.condF rfl (not_f hq1) ?_
    refine CW.skip (hK2 _ _ ?_)
    refine CW.seq fun K5 hK5 => ?_
    refine CW.seq fun K6 hK6 => ?_
    refine CW.region ?_
    refine LW.pure rfl rfl (RV.move rfl) ?_
    refine LW.pure rfl rfl (RV.len Ts55 rfl) ?_
    refine LW.pure rfl rfl (RV.gtr rfl rfl) ?_
    refine LW.nil (hK6 _ _ ?_)
    by_cases hp2 : (60 : Int) < ((a1.length : Int))
    ·
      replace F := ite_y hp2 F
      have hq2 := dec_t hp2
      refine CW.condT rfl hq2 ?_
      refine CW.seq fun K7 hK7 => ?_
      refine CW.region ?_
      refine LW.pure rfl rfl (RV.assign rfl) ?_
      refine LW.pure rfl rfl (RV.assign rfl) ?_
      refine LW.nil (hK7 _ _ ?_)
      refine CW.ret ?_
      obtain rfl := Option.some.inj F
      refine ⟨_, (ResOK.two rfl rfl), ?_⟩
      refine ⟨(by first | rfl | simp), R0⟩
    ·
      replace F := ite_n hp2 F
      have hq2 := dec_f hp2
      refine CW.condF rfl hq2 ?_
      refine CW.skip (hK5 _ _ ?_)
      refine CW.seq fun K8 hK8 => ?_
      refine CW.region ?_
      refine LW.go rfl rfl (OW.makeMap fun b2 w3 N2 M1 => ?_)
      replace H : Hp w w3 [.mp b2 (encMap ekBlock ekI (([] : List (Block × Int)))), .blk b1 24 [.slice A_a0_worth a0.worth.length c_a0_worth]] := H.newM N2 M1
      replace R0 := H.ext
      refine LW.pure rfl rfl (RV.assign rfl) ?_
      refine LW.nil (hK8 _ _ ?_)
      refine CW.seqJ (fun ρ wl1 => (∃ (m3 : List (Block × Int)), cut_CheckProof_k3 a0 a1 m3 = some res ∧ ρ = [(1, .slice A_a1 a1.length c_a1), (2, .pointer (some (⟨b1, 0, none⟩))), (4, .int .i64 0), (5, .int .i64 0), (7, .map (some b2))] ∧ Hp w wl1 [.mp b2 (encMap ekBlock ekI m3), .blk b1 24 [.slice A_a0_worth a0.worth.length c_a0_worth]])) ?_ ?_
      ·
        rintro _ wl1 ⟨m3, F, rfl, H⟩
        have R0 := H.ext
        unfold cut_CheckProof_k3 at F
        refine CW.seqJ (fun ρ wl2 => (∃ (m1 : List (Block × Int)), cut_CheckProof_k1 m1 = some res ∧ ρ = [(4, .int .i64 0), (5, .int .i64 0), (7, .map (some b2))] ∧ Hp w wl2 [.mp b2 (encMap ekBlock ekI m1)])) ?_ ?_
        ·
          rintro _ wl2 ⟨m1, F, rfl, H⟩
          have R0 := H.ext
          unfold cut_CheckProof_k1 at F
          refine CW.seq fun K9 hK9 => ?_
          obtain ⟨⟨hml, hmb⟩, F⟩ := gd_some F
          refine CW.region ?_
          refine LW.pure rfl rfl (RV.assign rfl) ?_
          refine LW.nil (hK9 _ _ ?_)
          obtain ⟨es, clock, hes, hst, hem⟩ := H.mp 0 rfl
          refine CW.seq fun K90 hK90 => ?_
          refine CW.seq fun K91 hK91 => ?_
          refine CW.region ?_
          refine LW.pure rfl rfl (RV.move rfl) ?_
          refine LW.go rfl rfl (OW.rangeM Tm90 rfl hes fun bi w9 N9 => ?_)
          refine LW.nil (hK91 _ _ ?_)
          have hval : ∀ x ∈ es.toList, ∃ v : Int, x.val = .int .i64 v ∧ -1000000 ≤ v ∧ v ≤ 1000000 := fun x hx => by
            have : (x.key, x.val) ∈ encMap ekBlock ekI m1 := by rw [← hem]; exact List.mem_map.2 ⟨x, hx, rfl⟩
            obtain ⟨p, hp, e⟩ := List.mem_map.1 this
            have e2 : ekI p.2 = x.val := (Prod.mk.inj e).2
            exact ⟨p.2, e2.symm, hmb p hp⟩
          have htot : (es.toList.map fun e => posV e.val).sum = posSum m1 := by
            have : es.toList.map (fun e => posV e.val) = (es.toList.map fun e => (e.key, e.val)).map fun q => posV q.2 := by rw [List.map_map]; rfl
            rw [this, hem]
            unfold encMap posSum
            rw [List.map_map]; rfl
          have hmax : posSum m1 ≤ 1000000000 := posSum_le hml hmb
          have H9 := H.grow N9.ext
          have hm9 : w9.heap[b2]? = some (.map es clock) := N9.ext.block hes
          refine CW.block ?_
          refine CW.loop (fun meas ρ W => ∃ (seen : Array Nat) (c0 : Nat), meas = (leftOf es seen).size ∧ ρ = [(4, .int .i64 0), (5, .int .i64 0), (15, .int .i64 (seenF posV es.toList seen)), (88, .pointer (some ⟨bi, 0, none⟩))] ∧ clock ≤ c0 ∧ W.heap[b2]? = some (.map es clock) ∧ W.heap[bi]? = some (.mapIter (some b2) clock seen c0) ∧ Ext w W) (leftOf es #[]).size ⟨_, ?_, #[], clock, rfl, rfl, Nat.le_refl _, hm9, N9.blk, H9.ext⟩ ?_
          · exact ⟨rfl, rfl, look_int rfl (by rw [seenF_none]), rfl, trivial⟩
          rintro _ _ W ⟨seen, c0, rfl, rfl, hc0, hb, hi, hE⟩
          have hne : b2 ≠ bi := by
            intro h
            rw [h, hi] at hb
            cases hb
          refine CW.seq fun K92 hK92 => ?_
          refine CW.region ?_
          rcases run_nextM (P := Try.prog) 0 hi hb hst.1 hc0 with ⟨h0, hrun⟩ | ⟨e, he, W1, hW1, hrun⟩
          · refine LW.go rfl rfl (OW.nextM rfl hrun ?_)
            refine LW.pure rfl rfl (RV.extract rfl rfl) ?_
            refine LW.nil (hK92 _ _ ?_)
            refine CW.seq fun K93 hK93 => ?_
            refine CW.condF rfl rfl ?_
            refine CW.exit (hK90 _ _ ?_)
            refine CW.seq fun K94 hK94 => ?_
            refine CW.region ?_
            refine LW.pure rfl rfl (RV.move rfl) ?_
            refine LW.pure rfl rfl (RV.assign rfl) ?_
            refine LW.pure rfl rfl (RV.assign rfl) ?_
            refine LW.nil (hK94 _ _ ?_)
            refine CW.ret ?_
            obtain rfl := Option.some.inj F
            refine ⟨_, ResOK.two rfl rfl, ?_⟩
            refine ⟨?_, hE⟩
            rw [seenF_all posV es seen h0, htot]
          · obtain ⟨he1, he2⟩ := mem_left he
            obtain ⟨v, hv, hv1, hv2⟩ := hval e he1
            have hi1 : W1.heap[bi]? = some (.mapIter (some b2) clock seen c0) := by rcases hW1 with rfl | rfl <;> exact hi
            have hb1 : W1.heap[b2]? = some (.map es clock) := by rcases hW1 with rfl | rfl <;> exact hb
            have hE1 : Ext w W1 := by
              rcases hW1 with rfl | rfl
              · exact hE
              · exact hE.trans (Ext.drew (Ext.refl _))
            have hlt : bi < W1.heap.size := (Array.getElem?_eq_some_iff.1 hi1).1
            have hbi : w.heap.size ≤ bi := by rw [N9.at_]; exact Below.size H.ext
            generalize hW2 : ChangeMaps.setBlock W1 bi (.mapIter (some b2) clock (seen.push e.born) clock) = W2 at hrun
            have hi2 : W2.heap[bi]? = some (.mapIter (some b2) clock (seen.push e.born) clock) := by
              rw [← hW2]; simp [ChangeMaps.setBlock, hlt]
            have hb2 : W2.heap[b2]? = some (.map es clock) := by
              rw [← hW2]; simp [ChangeMaps.setBlock, Array.getElem?_setIfInBounds, Ne.symm hne, hb1]
            have hE2 : Ext w W2 := by
              rw [← hW2]
              refine ⟨hE1.os, hE1.tape, hE1.output, ?_, fun k hk => ?_⟩
              · have := Below.size hE1; simpa [ChangeMaps.setBlock] using this
              · rw [← Below.block hE1 k hk]
                simp only [ChangeMaps.setBlock]
                rw [Array.getElem?_setIfInBounds, if_neg (by omega)]
            have hent : (Instr.entry (.pointer (some ⟨bi, 0, none⟩))).run Try.prog W2 = .ok (.tuple #[e.key, .int .i64 v]) W2 := by
              rw [← hv]; exact run_entryI hi2 hb2 he1 hst.2.1
            have hpush := seenF_push posV seen e he2 es.toList hst.2.1 he1
            have hle := seenF_le posV posV_nonneg es.toList (seen.push e.born)
            have hle0 := seenF_le posV posV_nonneg es.toList seen
            have hpv : posV e.val = max 0 v := by rw [hv]; rfl
            rw [htot] at hle hle0
            rw [hpv] at hpush
            refine LW.go rfl rfl (OW.nextM rfl hrun ?_)
            refine LW.pure rfl rfl (RV.extract rfl rfl) ?_
            refine LW.nil (hK92 _ _ ?_)
            refine CW.seq fun K93 hK93 => ?_
            refine CW.condT rfl rfl ?_
            refine CW.skip (hK93 _ _ ?_)
            refine CW.block ?_
            refine CW.seq fun K95 hK95 => ?_
            refine CW.region ?_
            refine LW.pure rfl rfl (RV.entryM rfl hent) ?_
            refine LW.pure rfl rfl (RV.extract rfl rfl) ?_
            refine LW.pure rfl rfl (RV.assign rfl) ?_
            refine LW.nil (hK95 _ _ ?_)
            refine CW.region ?_
            refine LW.pure rfl rfl (RV.move rfl) ?_
            refine LW.pure rfl rfl (RV.move rfl) ?_
            refine LW.pure rfl rfl (RV.max2 rfl rfl) ?_
            refine LW.pure rfl rfl (RV.add rfl rfl (by omega)) ?_
            refine LW.pure rfl rfl (RV.assign rfl) ?_
            refine LW.nil ?_
            refine ⟨_, left_shrinks es seen e he, _, ?_, seen.push e.born, clock, rfl, rfl, Nat.le_refl _, hb2, hi2, hE2⟩
            exact ⟨rfl, rfl, look_int rfl (by omega), rfl, trivial⟩
        ·
          intro K10 hK10 jK388
          refine CW.seq fun K11 hK11 => ?_
          refine CW.region ?_
          refine LW.pure rfl rfl (RV.move rfl) ?_
          refine LW.pure rfl rfl (RV.len Ts55 rfl) ?_
          refine LW.pure rfl rfl (RV.move rfl) ?_
          refine LW.nil (hK11 _ _ ?_)
          refine CW.block ?_
          refine CW.loop (fun meas ρ wl3 => ∃ (t51_1 : Int) (m2 : List (Block × Int)), cut_CheckProof_L1 a0 a1 meas t51_1 m2 = some res ∧ ρ = [(2, .pointer (some (⟨b1, 0, none⟩))), (4, .int .i64 0), (5, .int .i64 0), (7, .map (some b2)), (49, .slice A_a1 a1.length c_a1), (50, .int .i64 ((a1.length : Int))), (51, .int .i64 t51_1)] ∧ Hp w wl3 [.mp b2 (encMap ekBlock ekI m2), .blk b1 24 [.slice A_a0_worth a0.worth.length c_a0_worth]]) FU ⟨_, ?_, ((0 : Int)), m3, F, rfl, H⟩ ?_
          · exact ⟨rfl, rfl, rfl, rfl, rfl, rfl, rfl, trivial⟩
          rintro mk1 _ wl3 ⟨t51_1, m2, F, rfl, H⟩
          have R0 := H.ext
          replace F := cut_CheckProof_L1_s F
          obtain ⟨mk1, rfl, F⟩ := F
          generalize hrec1 : cut_CheckProof_L1 a0 a1 mk1 = rec1 at F
          unfold cut_CheckProof_B1 at F
          refine CW.seq fun K12 hK12 => ?_
          refine CW.region ?_
          refine LW.pure rfl rfl (RV.lss rfl rfl) ?_
          refine LW.nil (hK12 _ _ ?_)
          refine CW.seq fun K13 hK13 => ?_
          by_cases hp3 : t51_1 < ((a1.length : Int))
          ·
            replace F := ite_y hp3 F
            have hq3 := dec_t hp3
            refine CW.condT rfl hq3 ?_
            refine CW.skip (hK13 _ _ ?_)
            refine CW.seq fun K14 hK14 => ?_
            refine CW.block ?_
            refine CW.seq fun K15 hK15 => ?_
            obtain ⟨x1, hbx1, hx1, F⟩ := ix_some F
            refine CW.region ?_
            refine LW.pure rfl rfl (RV.indexAddr Ts55 rfl rfl hbx1 (h_a1.addr_ hx1)) ?_
            refine LW.pure rfl rfl (RV.loadA [.int .i64 x1.column, .int .i64 x1.row, .int .i64 x1.to_, .int .i64 x1.amount] Tk94 rfl ((h_a1.at_ hx1).ext R0) rfl rfl) ?_
            refine LW.go rfl rfl (OW.alloc Tz94 fun b3 w4 N3 => ?_)
            replace H := H.new N3 N3.blk
            replace R0 := H.ext
            refine LW.go rfl rfl (OW.store Tk94 rfl rfl (H.blk 0 rfl) (off := 0) (vs := [.int .i64 x1.column, .int .i64 x1.row, .int .i64 x1.to_, .int .i64 x1.amount]) rfl rfl rfl rfl rfl fun w5 S1 => ?_)
            replace H : Hp w w5 [.blk b3 94 [.int .i64 x1.column, .int .i64 x1.row, .int .i64 x1.to_, .int .i64 x1.amount], .mp b2 (encMap ekBlock ekI m2), .blk b1 24 [.slice A_a0_worth a0.worth.length c_a0_worth]] := H.stored 0 rfl S1
            replace R0 := H.ext
            refine LW.nil (hK15 _ _ ?_)
            refine CW.seq fun K16 hK16 => ?_
            refine CW.seq fun K17 hK17 => ?_
            obtain ⟨r1, hr1, F⟩ := bnd_some F
            refine CW.region ?_
            refine LW.pure rfl rfl (RV.loadA [.slice A_a0_worth a0.worth.length c_a0_worth] Tk24 rfl (H.blk 2 rfl).cells rfl rfl) ?_
            refine LW.pure rfl rfl (RV.loadA [.int .i64 x1.column, .int .i64 x1.row, .int .i64 x1.to_, .int .i64 x1.amount] Tk94 rfl (H.blk 0 rfl).cells rfl rfl) ?_
            refine LW.go rfl rfl (OW.call Tc92 rfl (cut_isPass_ok (a0 := a0) (a1 := x1) (h_a0_worth.ext R0) hr1) ?_)
            rintro _ w6 ⟨rfl, E2⟩
            refine ⟨_, rfl, ?_⟩
            replace H := H.grow E2
            replace R0 := H.ext
            refine LW.pure rfl rfl (RV.assign rfl) ?_
            refine LW.nil (hK17 _ _ ?_)
            refine CW.seq fun K18 hK18 => ?_
            refine CW.region ?_
            refine LW.pure rfl rfl (RV.move rfl) ?_
            refine LW.pure rfl rfl (RV.nei rfl rfl) ?_
            refine LW.nil (hK18 _ _ ?_)
            by_cases hp4 : r1 = 0
            ·
              replace F := ite_y hp4 F
              have hq4 := dec_t hp4
              refine CW.condF rfl (not_f hq4) ?_
              refine CW.skip (hK16 _ _ ?_)
              refine CW.seqJ (fun ρ wl4 => (cut_CheckProof_k2 t51_1 m2 rec1 x1 = some res ∧ ρ = [(2, .pointer (some (⟨b1, 0, none⟩))), (4, .int .i64 0), (5, .int .i64 0), (7, .map (some b2)), (13, .pointer (some (⟨b3, 0, none⟩))), (49, .slice A_a1 a1.length c_a1), (50, .int .i64 ((a1.length : Int))), (51, .int .i64 t51_1)] ∧ Hp w wl4 [.mp b2 (encMap ekBlock ekI ((mset eqBlock m2 ((⟨x1.column, x1.row⟩ : Block)) (((mget eqBlock m2 ((⟨x1.column, x1.row⟩ : Block))).getD 0) - x1.amount)))), .blk b1 24 [.slice A_a0_worth a0.worth.length c_a0_worth], .blk b3 94 [.int .i64 x1.column, .int .i64 x1.row, .int .i64 x1.to_, .int .i64 x1.amount]])) ?_ ?_
              ·
                rintro _ wl4 ⟨F, rfl, H⟩
                have R0 := H.ext
                unfold cut_CheckProof_k2 at F
                obtain ⟨hg1, F⟩ := gd_some F
                obtain ⟨hg2, F⟩ := gd_some F
                refine CW.draw [11, 13] (fun _ => True) (.cons 0 1 (.cons 1 1 (.cons 2 1 (.cons 3 1 (.cons 4 1 (.cons 5 1 (.cons 6 1 (.cons 8 1 (.cons 9 1 (.alt 7 (.cons 10 2 (.cons 11 0 (.cons 12 2 (.cons 13 0 .nil)))) (.cons 11 0 (.cons 12 2 (.cons 7 0 (.cons 10 2 (.cons 13 0 .nil))))))))))))))) mixed (by kernel_rfl) fun w7 E3 => ?_
                replace H := H.grow E3
                replace R0 := H.ext
                refine DW.fix rfl rfl rfl (fun _ EQ => RV.move rfl) ?_
                refine DW.fix rfl rfl rfl (fun _ EQ => RV.fieldAddr Tf94_2 rfl) ?_
                refine DW.fix rfl rfl rfl (fun _ EQ => RV.load1 Tk3 rfl (((H.grow EQ).blk 2 rfl).cells.off 2) rfl) ?_
                refine DW.fix rfl rfl rfl (fun _ EQ => RV.fieldAddr Tf94_1 rfl) ?_
                refine DW.fix rfl rfl rfl (fun _ EQ => RV.load1 Tk3 rfl (((H.grow EQ).blk 2 rfl).cells.off 1) rfl) ?_
                refine DW.fix rfl rfl rfl (fun _ EQ => RV.sub rfl rfl hg1) ?_
                refine DW.fix rfl rfl rfl (fun _ EQ => RV.build (vs := [.int .i64 x1.to_, .int .i64 (x1.row - 1)]) (cs := [.int .i64 x1.to_, .int .i64 (x1.row - 1)]) rfl (fun _ => by kernel_rfl)) ?_
                refine DW.fix rfl rfl rfl (fun _ EQ => RV.fieldAddr Tf94_3 rfl) ?_
                refine DW.fix rfl rfl rfl (fun _ EQ => RV.load1 Tk3 rfl (((H.grow EQ).blk 2 rfl).cells.off 3) rfl) ?_
                refine DW.alt ?_ ?_
                ·
                  refine DW.sole rfl rfl rfl (OW.value (RV.lookupM (ek := ekBlock) (ev' := ekI) (eq := eqBlock) (m := (mset eqBlock m2 ((⟨x1.column, x1.row⟩ : Block)) (((mget eqBlock m2 ((⟨x1.column, x1.row⟩ : Block))).getD 0) - x1.amount))) ((⟨x1.to_, x1.row - 1⟩ : Block)) 0 KO92 Tm90 Tz3 rfl rfl (H.mp 0 rfl)) ⟨fun _ => Ext.refl _, ModX.refl _ _, ?_⟩)
                  refine DW.thru rfl rfl rfl (fun _ EQ => RV.add rfl rfl hg2) ?_
                  refine DW.sole rfl rfl rfl (OW.entryM (ek := ekBlock) (ev' := ekI) (eq := eqBlock) (m := (mset eqBlock m2 ((⟨x1.column, x1.row⟩ : Block)) (((mget eqBlock m2 ((⟨x1.column, x1.row⟩ : Block))).getD 0) - x1.amount))) ((⟨x1.to_, x1.row - 1⟩ : Block)) 0 KO92 Tm90 Tz3 rfl rfl (H.mp 0 rfl) fun w8 bo1 M2 En1 => ?_)
                  refine ⟨fun h => absurd h (by decide), M2.modx (fun _ _ => trivial), ?_⟩
                  replace H : Hp w w8 [eck b2 (encMap ekBlock ekI (ment eqBlock ((mset eqBlock m2 ((⟨x1.column, x1.row⟩ : Block)) (((mget eqBlock m2 ((⟨x1.column, x1.row⟩ : Block))).getD 0) - x1.amount))) ((⟨x1.to_, x1.row - 1⟩ : Block)) 0)) (ekBlock ((⟨x1.to_, x1.row - 1⟩ : Block))) bo1, .blk b1 24 [.slice A_a0_worth a0.worth.length c_a0_worth], .blk b3 94 [.int .i64 x1.column, .int .i64 x1.row, .int .i64 x1.to_, .int .i64 x1.amount]] := H.setE 0 rfl M2 En1
                  replace R0 := H.ext
                  refine DW.thru rfl rfl rfl (fun _ EQ => RV.extract rfl rfl) ?_
                  refine DW.sole rfl rfl rfl (OW.storeEnt (ek := ekBlock) (ev' := ekI) (eq := eqBlock) (m := (mset eqBlock m2 ((⟨x1.column, x1.row⟩ : Block)) (((mget eqBlock m2 ((⟨x1.column, x1.row⟩ : Block))).getD 0) - x1.amount))) ((⟨x1.to_, x1.row - 1⟩ : Block)) 0 (((mget eqBlock ((mset eqBlock m2 ((⟨x1.column, x1.row⟩ : Block)) (((mget eqBlock m2 ((⟨x1.column, x1.row⟩ : Block))).getD 0) - x1.amount))) ((⟨x1.to_, x1.row - 1⟩ : Block))).getD 0) + x1.amount) KO92 rfl rfl rfl (H.ent 0 rfl) fun w9 M3 O1 => ?_)
                  refine ⟨fun h => absurd h (by decide), M3.modx (fun _ _ => trivial), ?_⟩
                  replace H : Hp w w9 [.mp b2 (encMap ekBlock ekI ((mset eqBlock ((mset eqBlock m2 ((⟨x1.column, x1.row⟩ : Block)) (((mget eqBlock m2 ((⟨x1.column, x1.row⟩ : Block))).getD 0) - x1.amount))) ((⟨x1.to_, x1.row - 1⟩ : Block)) (((mget eqBlock ((mset eqBlock m2 ((⟨x1.column, x1.row⟩ : Block)) (((mget eqBlock m2 ((⟨x1.column, x1.row⟩ : Block))).getD 0) - x1.amount))) ((⟨x1.to_, x1.row - 1⟩ : Block))).getD 0) + x1.amount)))), .blk b1 24 [.slice A_a0_worth a0.worth.length c_a0_worth], .blk b3 94 [.int .i64 x1.column, .int .i64 x1.row, .int .i64 x1.to_, .int .i64 x1.amount]] := H.setS 0 rfl M3 O1
                  replace R0 := H.ext
                  refine DW.nil (hK14 _ _ ?_)
                  obtain ⟨hg3, F⟩ := gd_some F
                  refine CW.region ?_
                  refine LW.pure rfl rfl (RV.add rfl rfl hg3) ?_
                  refine LW.pure rfl rfl (RV.move rfl) ?_
                  refine LW.nil ?_
                  replace H := H.pick (L' := [.mp b2 (encMap ekBlock ekI ((mset eqBlock ((mset eqBlock m2 ((⟨x1.column, x1.row⟩ : Block)) (((mget eqBlock m2 ((⟨x1.column, x1.row⟩ : Block))).getD 0) - x1.amount))) ((⟨x1.to_, x1.row - 1⟩ : Block)) (((mget eqBlock ((mset eqBlock m2 ((⟨x1.column, x1.row⟩ : Block)) (((mget eqBlock m2 ((⟨x1.column, x1.row⟩ : Block))).getD 0) - x1.amount))) ((⟨x1.to_, x1.row - 1⟩ : Block))).getD 0) + x1.amount)))), .blk b1 24 [.slice A_a0_worth a0.worth.length c_a0_worth]]) [0, 1] (by decide) rfl
                  replace R0 := H.ext
                  subst hrec1
                  refine ⟨mk1, Nat.lt_succ_self _, _, ?_, (t51_1 + 1), ((mset eqBlock ((mset eqBlock m2 ((⟨x1.column, x1.row⟩ : Block)) (((mget eqBlock m2 ((⟨x1.column, x1.row⟩ : Block))).getD 0) - x1.amount))) ((⟨x1.to_, x1.row - 1⟩ : Block)) (((mget eqBlock ((mset eqBlock m2 ((⟨x1.column, x1.row⟩ : Block)) (((mget eqBlock m2 ((⟨x1.column, x1.row⟩ : Block))).getD 0) - x1.amount))) ((⟨x1.to_, x1.row - 1⟩ : Block))).getD 0) + x1.amount))), F, rfl, H⟩
                  exact ⟨rfl, rfl, rfl, rfl, rfl, rfl, rfl, trivial⟩
                ·
                  refine DW.sole rfl rfl rfl (OW.entryM (ek := ekBlock) (ev' := ekI) (eq := eqBlock) (m := (mset eqBlock m2 ((⟨x1.column, x1.row⟩ : Block)) (((mget eqBlock m2 ((⟨x1.column, x1.row⟩ : Block))).getD 0) - x1.amount))) ((⟨x1.to_, x1.row - 1⟩ : Block)) 0 KO92 Tm90 Tz3 rfl rfl (H.mp 0 rfl) fun w10 bo2 M4 En2 => ?_)
                  refine ⟨fun h => absurd h (by decide), M4.modx (fun _ _ => trivial), ?_⟩
                  replace H : Hp w w10 [eck b2 (encMap ekBlock ekI (ment eqBlock ((mset eqBlock m2 ((⟨x1.column, x1.row⟩ : Block)) (((mget eqBlock m2 ((⟨x1.column, x1.row⟩ : Block))).getD 0) - x1.amount))) ((⟨x1.to_, x1.row - 1⟩ : Block)) 0)) (ekBlock ((⟨x1.to_, x1.row - 1⟩ : Block))) bo2, .blk b1 24 [.slice A_a0_worth a0.worth.length c_a0_worth], .blk b3 94 [.int .i64 x1.column, .int .i64 x1.row, .int .i64 x1.to_, .int .i64 x1.amount]] := H.setE 0 rfl M4 En2
                  replace R0 := H.ext
                  refine DW.thru rfl rfl rfl (fun _ EQ => RV.extract rfl rfl) ?_
                  refine DW.sole rfl rfl rfl (OW.value (RV.lookupE (ek := ekBlock) (ev' := ekI) (eq := eqBlock) (m := (mset eqBlock m2 ((⟨x1.column, x1.row⟩ : Block)) (((mget eqBlock m2 ((⟨x1.column, x1.row⟩ : Block))).getD 0) - x1.amount))) ((⟨x1.to_, x1.row - 1⟩ : Block)) 0 KO92 Tm90 Tz3 rfl rfl (H.ent 0 rfl)) ⟨fun _ => Ext.refl _, ModX.refl _ _, ?_⟩)
                  refine DW.thru rfl rfl rfl (fun _ EQ => RV.add rfl rfl hg2) ?_
                  refine DW.sole rfl rfl rfl (OW.storeEnt (ek := ekBlock) (ev' := ekI) (eq := eqBlock) (m := (mset eqBlock m2 ((⟨x1.column, x1.row⟩ : Block)) (((mget eqBlock m2 ((⟨x1.column, x1.row⟩ : Block))).getD 0) - x1.amount))) ((⟨x1.to_, x1.row - 1⟩ : Block)) 0 (((mget eqBlock ((mset eqBlock m2 ((⟨x1.column, x1.row⟩ : Block)) (((mget eqBlock m2 ((⟨x1.column, x1.row⟩ : Block))).getD 0) - x1.amount))) ((⟨x1.to_, x1.row - 1⟩ : Block))).getD 0) + x1.amount) KO92 rfl rfl rfl (H.ent 0 rfl) fun w11 M5 O2 => ?_)
                  refine ⟨fun h => absurd h (by decide), M5.modx (fun _ _ => trivial), ?_⟩
                  replace H : Hp w w11 [.mp b2 (encMap ekBlock ekI ((mset eqBlock ((mset eqBlock m2 ((⟨x1.column, x1.row⟩ : Block)) (((mget eqBlock m2 ((⟨x1.column, x1.row⟩ : Block))).getD 0) - x1.amount))) ((⟨x1.to_, x1.row - 1⟩ : Block)) (((mget eqBlock ((mset eqBlock m2 ((⟨x1.column, x1.row⟩ : Block)) (((mget eqBlock m2 ((⟨x1.column, x1.row⟩ : Block))).getD 0) - x1.amount))) ((⟨x1.to_, x1.row - 1⟩ : Block))).getD 0) + x1.amount)))), .blk b1 24 [.slice A_a0_worth a0.worth.length c_a0_worth], .blk b3 94 [.int .i64 x1.column, .int .i64 x1.row, .int .i64 x1.to_, .int .i64 x1.amount]] := H.setS 0 rfl M5 O2
                  replace R0 := H.ext
                  refine DW.nil (hK14 _ _ ?_)
                  obtain ⟨hg4, F⟩ := gd_some F
                  refine CW.region ?_
                  refine LW.pure rfl rfl (RV.add rfl rfl hg4) ?_
                  refine LW.pure rfl rfl (RV.move rfl) ?_
                  refine LW.nil ?_
                  replace H := H.pick (L' := [.mp b2 (encMap ekBlock ekI ((mset eqBlock ((mset eqBlock m2 ((⟨x1.column, x1.row⟩ : Block)) (((mget eqBlock m2 ((⟨x1.column, x1.row⟩ : Block))).getD 0) - x1.amount))) ((⟨x1.to_, x1.row - 1⟩ : Block)) (((mget eqBlock ((mset eqBlock m2 ((⟨x1.column, x1.row⟩ : Block)) (((mget eqBlock m2 ((⟨x1.column, x1.row⟩ : Block))).getD 0) - x1.amount))) ((⟨x1.to_, x1.row - 1⟩ : Block))).getD 0) + x1.amount)))), .blk b1 24 [.slice A_a0_worth a0.worth.length c_a0_worth]]) [0, 1] (by decide) rfl
                  replace R0 := H.ext
                  subst hrec1
                  refine ⟨mk1, Nat.lt_succ_self _, _, ?_, (t51_1 + 1), ((mset eqBlock ((mset eqBlock m2 ((⟨x1.column, x1.row⟩ : Block)) (((mget eqBlock m2 ((⟨x1.column, x1.row⟩ : Block))).getD 0) - x1.amount))) ((⟨x1.to_, x1.row - 1⟩ : Block)) (((mget eqBlock ((mset eqBlock m2 ((⟨x1.column, x1.row⟩ : Block)) (((mget eqBlock m2 ((⟨x1.column, x1.row⟩ : Block))).getD 0) - x1.amount))) ((⟨x1.to_, x1.row - 1⟩ : Block))).getD 0) + x1.amount))), F, rfl, H⟩
                  exact ⟨rfl, rfl, rfl, rfl, rfl, rfl, rfl, trivial⟩
              ·
                intro K19 hK19 jK415
                obtain ⟨hg5, F⟩ := gd_some F
                refine CW.draw [10, 12] (fun _ => True) (.cons 0 1 (.cons 1 1 (.cons 2 1 (.cons 3 1 (.cons 4 1 (.cons 5 1 (.cons 7 1 (.cons 8 1 (.alt 6 (.cons 9 2 (.cons 10 0 (.cons 11 2 (.cons 12 0 .nil)))) (.cons 10 0 (.cons 11 2 (.cons 6 0 (.cons 9 2 (.cons 12 0 .nil)))))))))))))) mixed (by kernel_rfl) fun w12 E4 => ?_
                replace H := H.grow E4
                replace R0 := H.ext
                refine DW.fix rfl rfl rfl (fun _ EQ => RV.move rfl) ?_
                refine DW.fix rfl rfl rfl (fun _ EQ => RV.fieldAddr Tf94_0 rfl) ?_
                refine DW.fix rfl rfl rfl (fun _ EQ => RV.load1 Tk3 rfl (((H.grow EQ).blk 0 rfl).cells.off 0) rfl) ?_
                refine DW.fix rfl rfl rfl (fun _ EQ => RV.fieldAddr Tf94_1 rfl) ?_
                refine DW.fix rfl rfl rfl (fun _ EQ => RV.load1 Tk3 rfl (((H.grow EQ).blk 0 rfl).cells.off 1) rfl) ?_
                refine DW.fix rfl rfl rfl (fun _ EQ => RV.build (vs := [.int .i64 x1.column, .int .i64 x1.row]) (cs := [.int .i64 x1.column, .int .i64 x1.row]) rfl (fun _ => by kernel_rfl)) ?_
                refine DW.fix rfl rfl rfl (fun _ EQ => RV.fieldAddr Tf94_3 rfl) ?_
                refine DW.fix rfl rfl rfl (fun _ EQ => RV.load1 Tk3 rfl (((H.grow EQ).blk 0 rfl).cells.off 3) rfl) ?_
                refine DW.alt ?_ ?_
                ·
                  refine DW.sole rfl rfl rfl (OW.value (RV.lookupM (ek := ekBlock) (ev' := ekI) (eq := eqBlock) (m := m2) ((⟨x1.column, x1.row⟩ : Block)) 0 KO92 Tm90 Tz3 rfl rfl (H.mp 1 rfl)) ⟨fun _ => Ext.refl _, ModX.refl _ _, ?_⟩)
                  refine DW.thru rfl rfl rfl (fun _ EQ => RV.sub rfl rfl hg5) ?_
                  refine DW.sole rfl rfl rfl (OW.entryM (ek := ekBlock) (ev' := ekI) (eq := eqBlock) (m := m2) ((⟨x1.column, x1.row⟩ : Block)) 0 KO92 Tm90 Tz3 rfl rfl (H.mp 1 rfl) fun w13 bo3 M6 En3 => ?_)
                  refine ⟨fun h => absurd h (by decide), M6.modx (fun _ _ => trivial), ?_⟩
                  replace H : Hp w w13 [.blk b3 94 [.int .i64 x1.column, .int .i64 x1.row, .int .i64 x1.to_, .int .i64 x1.amount], eck b2 (encMap ekBlock ekI (ment eqBlock m2 ((⟨x1.column, x1.row⟩ : Block)) 0)) (ekBlock ((⟨x1.column, x1.row⟩ : Block))) bo3, .blk b1 24 [.slice A_a0_worth a0.worth.length c_a0_worth]] := H.setE 1 rfl M6 En3
                  replace R0 := H.ext
                  refine DW.thru rfl rfl rfl (fun _ EQ => RV.extract rfl rfl) ?_
                  refine DW.sole rfl rfl rfl (OW.storeEnt (ek := ekBlock) (ev' := ekI) (eq := eqBlock) (m := m2) ((⟨x1.column, x1.row⟩ : Block)) 0 (((mget eqBlock m2 ((⟨x1.column, x1.row⟩ : Block))).getD 0) - x1.amount) KO92 rfl rfl rfl (H.ent 1 rfl) fun w14 M7 O3 => ?_)
                  refine ⟨fun h => absurd h (by decide), M7.modx (fun _ _ => trivial), ?_⟩
                  replace H : Hp w w14 [.blk b3 94 [.int .i64 x1.column, .int .i64 x1.row, .int .i64 x1.to_, .int .i64 x1.amount], .mp b2 (encMap ekBlock ekI ((mset eqBlock m2 ((⟨x1.column, x1.row⟩ : Block)) (((mget eqBlock m2 ((⟨x1.column, x1.row⟩ : Block))).getD 0) - x1.amount)))), .blk b1 24 [.slice A_a0_worth a0.worth.length c_a0_worth]] := H.setS 1 rfl M7 O3
                  replace R0 := H.ext
                  replace H := H.pick (L' := [.mp b2 (encMap ekBlock ekI ((mset eqBlock m2 ((⟨x1.column, x1.row⟩ : Block)) (((mget eqBlock m2 ((⟨x1.column, x1.row⟩ : Block))).getD 0) - x1.amount)))), .blk b1 24 [.slice A_a0_worth a0.worth.length c_a0_worth], .blk b3 94 [.int .i64 x1.column, .int .i64 x1.row, .int .i64 x1.to_, .int .i64 x1.amount]]) [1, 2, 0] (by decide) rfl
                  replace R0 := H.ext
                  refine DW.nil (jK415 _ _ ⟨_, ?_, ⟨F, rfl, H⟩⟩)
                  exact ⟨rfl, rfl, rfl, rfl, rfl, rfl, rfl, rfl, trivial⟩
                ·
                  refine DW.sole rfl rfl rfl (OW.entryM (ek := ekBlock) (ev' := ekI) (eq := eqBlock) (m := m2) ((⟨x1.column, x1.row⟩ : Block)) 0 KO92 Tm90 Tz3 rfl rfl (H.mp 1 rfl) fun w15 bo4 M8 En4 => ?_)
                  refine ⟨fun h => absurd h (by decide), M8.modx (fun _ _ => trivial), ?_⟩
                  replace H : Hp w w15 [.blk b3 94 [.int .i64 x1.column, .int .i64 x1.row, .int .i64 x1.to_, .int .i64 x1.amount], eck b2 (encMap ekBlock ekI (ment eqBlock m2 ((⟨x1.column, x1.row⟩ : Block)) 0)) (ekBlock ((⟨x1.column, x1.row⟩ : Block))) bo4, .blk b1 24 [.slice A_a0_worth a0.worth.length c_a0_worth]] := H.setE 1 rfl M8 En4
                  replace R0 := H.ext
                  refine DW.thru rfl rfl rfl (fun _ EQ => RV.extract rfl rfl) ?_
                  refine DW.sole rfl rfl rfl (OW.value (RV.lookupE (ek := ekBlock) (ev' := ekI) (eq := eqBlock) (m := m2) ((⟨x1.column, x1.row⟩ : Block)) 0 KO92 Tm90 Tz3 rfl rfl (H.ent 1 rfl)) ⟨fun _ => Ext.refl _, ModX.refl _ _, ?_⟩)
                  refine DW.thru rfl rfl rfl (fun _ EQ => RV.sub rfl rfl hg5) ?_
                  refine DW.sole rfl rfl rfl (OW.storeEnt (ek := ekBlock) (ev' := ekI) (eq := eqBlock) (m := m2) ((⟨x1.column, x1.row⟩ : Block)) 0 (((mget eqBlock m2 ((⟨x1.column, x1.row⟩ : Block))).getD 0) - x1.amount) KO92 rfl rfl rfl (H.ent 1 rfl) fun w16 M9 O4 => ?_)
                  refine ⟨fun h => absurd h (by decide), M9.modx (fun _ _ => trivial), ?_⟩
                  replace H : Hp w w16 [.blk b3 94 [.int .i64 x1.column, .int .i64 x1.row, .int .i64 x1.to_, .int .i64 x1.amount], .mp b2 (encMap ekBlock ekI ((mset eqBlock m2 ((⟨x1.column, x1.row⟩ : Block)) (((mget eqBlock m2 ((⟨x1.column, x1.row⟩ : Block))).getD 0) - x1.amount)))), .blk b1 24 [.slice A_a0_worth a0.worth.length c_a0_worth]] := H.setS 1 rfl M9 O4
                  replace R0 := H.ext
                  replace H := H.pick (L' := [.mp b2 (encMap ekBlock ekI ((mset eqBlock m2 ((⟨x1.column, x1.row⟩ : Block)) (((mget eqBlock m2 ((⟨x1.column, x1.row⟩ : Block))).getD 0) - x1.amount)))), .blk b1 24 [.slice A_a0_worth a0.worth.length c_a0_worth], .blk b3 94 [.int .i64 x1.column, .int .i64 x1.row, .int .i64 x1.to_, .int .i64 x1.amount]]) [1, 2, 0] (by decide) rfl
                  replace R0 := H.ext
                  refine DW.nil (jK415 _ _ ⟨_, ?_, ⟨F, rfl, H⟩⟩)
                  exact ⟨rfl, rfl, rfl, rfl, rfl, rfl, rfl, rfl, trivial⟩
            ·
              replace F := ite_n hp4 F
              have hq4 := dec_f hp4
              refine CW.condT rfl (not_t hq4) ?_
              refine CW.seq fun K20 hK20 => ?_
              refine CW.region ?_
              refine LW.pure rfl rfl (RV.move rfl) ?_
              refine LW.pure rfl rfl (RV.assign rfl) ?_
              refine LW.pure rfl rfl (RV.assign rfl) ?_
              refine LW.nil (hK20 _ _ ?_)
              refine CW.ret ?_
              obtain rfl := Option.some.inj F
              refine ⟨_, (ResOK.two rfl rfl), ?_⟩
              refine ⟨(by first | rfl | simp), R0⟩
          ·
            replace F := ite_n hp3 F
            have hq3 := dec_f hp3
            refine CW.condF rfl hq3 ?_
            replace H := H.pick (L' := [.mp b2 (encMap ekBlock ekI m2)]) [0] (by decide) rfl
            replace R0 := H.ext
            refine CW.exit (jK388 _ _ ⟨_, ?_, ⟨m2, F, rfl, H⟩⟩)
            exact ⟨rfl, rfl, rfl, trivial⟩
      ·
        intro K21 hK21 jK417
        refine CW.seq fun K22 hK22 => ?_
        refine CW.region ?_
        refine LW.pure rfl rfl (RV.fieldAddr Tf24_0 rfl) ?_
        refine LW.pure rfl rfl (RV.load1 Tk22 rfl ((H.blk 1 rfl).cells.off 0) rfl) ?_
        refine LW.pure rfl rfl (RV.len Ts22 rfl) ?_
        refine LW.pure rfl rfl (RV.move rfl) ?_
        refine LW.nil (hK22 _ _ ?_)
        refine CW.block ?_
        refine CW.loop (fun meas ρ wl5 => ∃ (t30_1 : Int) (m6 : List (Block × Int)), cut_CheckProof_L3 a0 a1 meas t30_1 m6 = some res ∧ ρ = [(1, .slice A_a1 a1.length c_a1), (2, .pointer (some (⟨b1, 0, none⟩))), (4, .int .i64 0), (5, .int .i64 0), (7, .map (some b2)), (28, .slice A_a0_worth a0.worth.length c_a0_worth), (29, .int .i64 ((a0.worth.length : Int))), (30, .int .i64 t30_1)] ∧ Hp w wl5 [.mp b2 (encMap ekBlock ekI m6), .blk b1 24 [.slice A_a0_worth a0.worth.length c_a0_worth]]) FU ⟨_, ?_, ((0 : Int)), (([] : List (Block × Int))), F, rfl, H⟩ ?_
        · exact ⟨rfl, rfl, rfl, rfl, rfl, rfl, rfl, rfl, trivial⟩
        rintro mk2 _ wl5 ⟨t30_1, m6, F, rfl, H⟩
        have R0 := H.ext
        replace F := cut_CheckProof_L3_s F
        obtain ⟨mk2, rfl, F⟩ := F
        generalize hrec2 : cut_CheckProof_L3 a0 a1 mk2 = rec2 at F
        unfold cut_CheckProof_B3 at F
        refine CW.seq fun K23 hK23 => ?_
        refine CW.region ?_
        refine LW.pure rfl rfl (RV.lss rfl rfl) ?_
        refine LW.nil (hK23 _ _ ?_)
        refine CW.seq fun K24 hK24 => ?_
        by_cases hp5 : t30_1 < ((a0.worth.length : Int))
        ·
          replace F := ite_y hp5 F
          have hq5 := dec_t hp5
          refine CW.condT rfl hq5 ?_
          refine CW.skip (hK24 _ _ ?_)
          refine CW.seqJ (fun ρ wl6 => (∃ (m4 : List (Block × Int)), cut_CheckProof_k4 t30_1 rec2 m4 = some res ∧ ρ = [(1, .slice A_a1 a1.length c_a1), (2, .pointer (some (⟨b1, 0, none⟩))), (4, .int .i64 0), (5, .int .i64 0), (7, .map (some b2)), (28, .slice A_a0_worth a0.worth.length c_a0_worth), (29, .int .i64 ((a0.worth.length : Int))), (30, .int .i64 t30_1)] ∧ Hp w wl6 [.mp b2 (encMap ekBlock ekI m4), .blk b1 24 [.slice A_a0_worth a0.worth.length c_a0_worth]])) ?_ ?_
          ·
            rintro _ wl6 ⟨m4, F, rfl, H⟩
            have R0 := H.ext
            unfold cut_CheckProof_k4 at F
            obtain ⟨hg6, F⟩ := gd_some F
            refine CW.region ?_
            refine LW.pure rfl rfl (RV.add rfl rfl hg6) ?_
            refine LW.pure rfl rfl (RV.move rfl) ?_
            refine LW.nil ?_
            subst hrec2
            refine ⟨mk2, Nat.lt_succ_self _, _, ?_, (t30_1 + 1), m4, F, rfl, H⟩
            exact ⟨rfl, rfl, rfl, rfl, rfl, rfl, rfl, rfl, trivial⟩
          ·
            intro K25 hK25 jK497
            refine CW.block ?_
            refine CW.seq fun K26 hK26 => ?_
            obtain ⟨x2, hbx2, hx2, F⟩ := ix_some F
            refine CW.region ?_
            refine LW.pure rfl rfl (RV.move rfl) ?_
            obtain ⟨A1, c1, hC1, hS1⟩ := h_a0_worth.at_ hx2
            refine LW.pure rfl rfl (RV.indexAddr Ts22 rfl rfl hbx2 (h_a0_worth.addr hbx2)) ?_
            refine LW.pure rfl rfl (RV.load1 Tk25 rfl (hC1.ext R0) rfl) ?_
            refine LW.pure rfl rfl (RV.assign rfl) ?_
            refine LW.pure rfl rfl (RV.assign rfl) ?_
            refine LW.nil (hK26 _ _ ?_)
            refine CW.seq fun K27 hK27 => ?_
            refine CW.region ?_
            refine LW.pure rfl rfl (RV.move rfl) ?_
            refine LW.pure rfl rfl (RV.len Ts25 rfl) ?_
            refine LW.pure rfl rfl (RV.move rfl) ?_
            refine LW.nil (hK27 _ _ ?_)
            refine CW.block ?_
            refine CW.loop (fun meas ρ wl7 => ∃ (t37_1 : Int) (m5 : List (Block × Int)), cut_CheckProof_L2 t30_1 rec2 x2 meas t37_1 m5 = some res ∧ ρ = [(1, .slice A_a1 a1.length c_a1), (2, .pointer (some (⟨b1, 0, none⟩))), (4, .int .i64 0), (5, .int .i64 0), (7, .map (some b2)), (8, .int .i64 t30_1), (28, .slice A_a0_worth a0.worth.length c_a0_worth), (29, .int .i64 ((a0.worth.length : Int))), (30, .int .i64 t30_1), (35, .slice A1 x2.length c1), (36, .int .i64 ((x2.length : Int))), (37, .int .i64 t37_1)] ∧ Hp w wl7 [.mp b2 (encMap ekBlock ekI m5), .blk b1 24 [.slice A_a0_worth a0.worth.length c_a0_worth]]) FU ⟨_, ?_, ((0 : Int)), m6, F, rfl, H⟩ ?_
            · exact ⟨rfl, rfl, rfl, rfl, rfl, rfl, rfl, rfl, rfl, rfl, rfl, rfl, trivial⟩
            rintro mk3 _ wl7 ⟨t37_1, m5, F, rfl, H⟩
            have R0 := H.ext
            replace F := cut_CheckProof_L2_s F
            obtain ⟨mk3, rfl, F⟩ := F
            generalize hrec3 : cut_CheckProof_L2 t30_1 rec2 x2 mk3 = rec3 at F
            unfold cut_CheckProof_B2 at F
            refine CW.seq fun K28 hK28 => ?_
            refine CW.region ?_
            refine LW.pure rfl rfl (RV.lss rfl rfl) ?_
            refine LW.nil (hK28 _ _ ?_)
            refine CW.seq fun K29 hK29 => ?_
            by_cases hp6 : t37_1 < ((x2.length : Int))
            ·
              replace F := ite_y hp6 F
              have hq6 := dec_t hp6
              refine CW.condT rfl hq6 ?_
              refine CW.skip (hK29 _ _ ?_)
              refine CW.seq fun K30 hK30 => ?_
              refine CW.block ?_
              refine CW.seq fun K31 hK31 => ?_
              obtain ⟨x3, hbx3, hx3, F⟩ := ix_some F
              refine CW.region ?_
              refine LW.pure rfl rfl (RV.move rfl) ?_
              refine LW.pure rfl rfl (RV.indexAddr Ts25 rfl rfl hbx3 (hS1.addr_ hx3)) ?_
              refine LW.pure rfl rfl (RV.load1 Tk3 rfl ((hS1.at_ hx3).ext R0) rfl) ?_
              refine LW.pure rfl rfl (RV.assign rfl) ?_
              refine LW.pure rfl rfl (RV.assign rfl) ?_
              refine LW.nil (hK31 _ _ ?_)
              refine CW.region ?_
              refine LW.pure rfl rfl (RV.move rfl) ?_
              refine LW.pure rfl rfl (RV.move rfl) ?_
              refine LW.pure rfl rfl (RV.move rfl) ?_
              refine LW.pure rfl rfl (RV.build (vs := [.int .i64 t30_1, .int .i64 t37_1]) (cs := [.int .i64 t30_1, .int .i64 t37_1]) rfl (fun _ => by kernel_rfl)) ?_
              refine LW.pure rfl rfl (RV.move rfl) ?_
              refine LW.go rfl rfl (OW.updateM (ek := ekBlock) (ev' := ekI) (eq := eqBlock) (m := m5) ((⟨t30_1, t37_1⟩ : Block)) x3 KO92 Tm90 rfl rfl rfl (H.mp 0 rfl) fun w17 M10 O5 => ?_)
              replace H : Hp w w17 [.mp b2 (encMap ekBlock ekI ((mset eqBlock m5 ((⟨t30_1, t37_1⟩ : Block)) x3))), .blk b1 24 [.slice A_a0_worth a0.worth.length c_a0_worth]] := H.setM 0 rfl M10 O5
              replace R0 := H.ext
              refine LW.nil (hK30 _ _ ?_)
              obtain ⟨hg7, F⟩ := gd_some F
              refine CW.region ?_
              refine LW.pure rfl rfl (RV.add rfl rfl hg7) ?_
              refine LW.pure rfl rfl (RV.move rfl) ?_
              refine LW.nil ?_
              subst hrec3
              refine ⟨mk3, Nat.lt_succ_self _, _, ?_, (t37_1 + 1), ((mset eqBlock m5 ((⟨t30_1, t37_1⟩ : Block)) x3)), F, rfl, H⟩
              exact ⟨rfl, rfl, rfl, rfl, rfl, rfl, rfl, rfl, rfl, rfl, rfl, rfl, trivial⟩
            ·
              replace F := ite_n hp6 F
              have hq6 := dec_f hp6
              refine CW.condF rfl hq6 ?_
              refine CW.exit (jK497 _ _ ⟨_, ?_, ⟨m5, F, rfl, H⟩⟩)
              exact ⟨rfl, rfl, rfl, rfl, rfl, rfl, rfl, rfl, trivial⟩
        ·
          replace F := ite_n hp5 F
          have hq5 := dec_f hp5
          refine CW.condF rfl hq5 ?_
          refine CW.exit (jK417 _ _ ⟨_, ?_, ⟨m6, F, rfl, H⟩⟩)
          exact ⟨rfl, rfl, rfl, rfl, rfl, trivial⟩
  ·
    replace F := ite_n hp1 F
    have hq1 := dec_f hp1
    refine CW.condT rfl (not_t hq1) ?_
    refine CW.seq fun K32 hK32 => ?_
    refine CW.region ?_
    refine LW.pure rfl rfl (RV.move rfl) ?_
    refine LW.pure rfl rfl (RV.assign rfl) ?_
    refine LW.pure rfl rfl (RV.assign rfl) ?_
    refine LW.nil (hK32 _ _ ?_)
    refine CW.ret ?_
    obtain rfl := Option.some.inj F
    refine ⟨_, (ResOK.two rfl rfl), ?_⟩
    refine ⟨(by first | rfl | simp), R0⟩
end Go.D4

set_option linter.unusedVariables false
set_option linter.unusedSimpArgs false
namespace Go.D4
open Go.Tb Go.Proofs Go.RowKit
theorem Tc55 : callable Try.prog 55 = true := by kernel_rfl
end Go.D4

set_option linter.unusedVariables false
set_option linter.unusedSimpArgs false
namespace Go.D4
open Go.Tb Go.Proofs Go.RowKit
theorem Te101 (a0 a1 a2 a3 b0 b1 b2 b3 : Int) (w : World) : (Op.equalIn 10000 101 (.agg #[.int .i64 a0, .int .i64 a1, .int .i64 a2, .int .i64 a3]) (.agg #[.int .i64 b0, .int .i64 b1, .int .i64 b2, .int .i64 b3])).run Try.prog w = .ok ((a0 == b0) && (a1 == b1) && (a2 == b2) && (a3 == b3)) w := by
  rw [run_equalIn_agg w 9999 101 _ _ (by kernel_rfl) (by kernel_rfl)]
  simp [Program.fieldsOf, Try.underlying101, Op.eqFields, go_sem]
  by_cases h0 : a0 = b0 <;> by_cases h1 : a1 = b1 <;> by_cases h2 : a2 = b2 <;> by_cases h3 : a3 = b3 <;> simp [h0, h1, h2, h3]
theorem KO101 : KeyOK Try.prog 101 ekLink eqLink :=
  KeyOK.agg (d := ((Try.prog.underlying 101).getD .bool)) (fun x => #[.int .i64 x.from_.column, .int .i64 x.from_.row, .int .i64 x.to_.column, .int .i64 x.to_.row]) (by kernel_rfl) (fun _ => rfl) (fun w em x => by kernel_rfl) (fun w x y => Te101 _ _ _ _ _ _ _ _ w) (fun x y => by obtain ⟨⟨a, b⟩, ⟨c, d⟩⟩ := x; obtain ⟨⟨a', b'⟩, ⟨c', d'⟩⟩ := y; simp [eqLink, and_assoc]) (fun x => by simp [Instr.sameBits])
end Go.D4

set_option linter.unusedVariables false
set_option linter.unusedSimpArgs false
namespace Go.D4
open Go.Tb Go.Proofs Go.RowKit
theorem Tc100 : callable Try.prog 100 = true := by kernel_rfl
theorem Tf92_0 : tyF Try.prog 92 0 = some 0 := by kernel_rfl
theorem Tf92_1 : tyF Try.prog 92 1 = some 1 := by kernel_rfl
theorem Tf98_0 : tyF Try.prog 98 0 = some 0 := by kernel_rfl
theorem Tf98_1 : tyF Try.prog 98 1 = some 1 := by kernel_rfl
theorem Tf98_2 : tyF Try.prog 98 2 = some 2 := by kernel_rfl
theorem Tk90 : tyK Try.prog 90 = some (false, 1) := by kernel_rfl
theorem Tk92 : tyK Try.prog 92 = some (true, 2) := by kernel_rfl
theorem Tk96 : tyK Try.prog 96 = some (false, 1) := by kernel_rfl
theorem Tk98 : tyK Try.prog 98 = some (true, 3) := by kernel_rfl
theorem Tm109 : tyM Try.prog 109 = some (92, 4) := by kernel_rfl
theorem Tm96 : tyM Try.prog 96 = some (101, 3) := by kernel_rfl
theorem Ts106 : tyS Try.prog 106 = some (101, 4, 32, [.int .i64 0, .int .i64 0, .int .i64 0, .int .i64 0]) := by kernel_rfl
theorem Tz4 : tyZ Try.prog 4 = some (.bool false) := by kernel_rfl
theorem Tz92 : tyZ Try.prog 92 = some (.agg #[.int .i64 0, .int .i64 0]) := by kernel_rfl
set_option maxRecDepth 20000 in
set_option maxHeartbeats 1000000 in
theorem cut_payer_way_F_ok : ∀ (n_ : Nat) {a0 : Payer} {a1 : Block} {a2 : List (Block × Bool)} {A_a0_bog_worth : Option Addr} {c_a0_bog_worth : Nat} {b_a0_has : Nat} {b_a0_passed : Nat} {b_a2 : Nat} {wb : World} {R : List Ck} {w : World} {res : (List Link) × Bool × (List (Block × Int)) × (List (Link × Int)) × (List (Block × Bool))} (h_a0_bog_worth : Sl2 wb A_a0_bog_worth c_a0_bog_worth 1 encN a0.bog.worth) (H : Hp wb w ([.mp b_a0_has (encMap ekBlock ekI a0.has), .mp b_a0_passed (encMap ekLink ekI a0.passed), .mp b_a2 (encMap ekBlock ekBl a2)] ++ R)) (F : cut_payer_way_F n_ a0 a1 a2 = some res), Calls Try.prog 100 #[.agg #[.slice A_a0_bog_worth a0.bog.worth.length c_a0_bog_worth, .map (some b_a0_has), .map (some b_a0_passed)], .agg #[.int .i64 a1.column, .int .i64 a1.row], .map (some b_a2)] w (fun e w' => ∃ (A0 : Option Addr) (c0 : Nat), e = .returned (.tuple #[.slice A0 res.1.length c0, .bool res.2.1]) ∧ Hp wb w' ([.mp b_a0_has (encMap ekBlock ekI res.2.2.1), .mp b_a0_passed (encMap ekLink ekI res.2.2.2.1), .mp b_a2 (encMap ekBlock ekBl res.2.2.2.2), .own A0 c0 101 4 (List.map encLink res.1)] ++ R)) := by
  intro n_
  induction n_ with
  | zero =>
    intro a0 a1 a2 A_a0_bog_worth c_a0_bog_worth b_a0_has b_a0_passed b_a2 wb R w res h_a0_bog_worth H F
    cases F
  | succ n_ ih =>
    intro a0 a1 a2 A_a0_bog_worth c_a0_bog_worth b_a0_has b_a0_passed b_a2 wb R w res h_a0_bog_worth H F
    replace F : cut_payer_way_body (cut_payer_way_F n_) a0 a1 a2 = some res := F
    generalize hrecf : cut_payer_way_F n_ = recf at F ih
    refine calls_of_cw (args := [.agg #[.slice A_a0_bog_worth a0.bog.worth.length c_a0_bog_worth, .map (some b_a0_has), .map (some b_a0_passed)], .agg #[.int .i64 a1.column, .int .i64 a1.row], .map (some b_a2)]) Try.func100 rfl rfl rfl rfl ?_
    have R0 := H.ext
    unfold cut_payer_way_body at F
    refine CW.seq fun K1 hK1 => ?_
    refine CW.region ?_
    refine LW.go rfl rfl (OW.box rfl fun b1 w1 N1 => ?_)
    replace H := H.new N1 N1.blk
    replace R0 := H.ext
    refine LW.go rfl rfl (OW.box rfl fun b2 w2 N2 => ?_)
    replace H := H.new N2 N2.blk
    replace R0 := H.ext
    refine LW.pure rfl rfl (RV.assign rfl) ?_
    refine LW.pure rfl rfl (RV.assign rfl) ?_
    refine LW.nil (hK1 _ _ ?_)
    refine CW.seq fun K2 hK2 => ?_
    refine CW.region ?_
    refine LW.pure rfl rfl (RV.move rfl) ?_
    refine LW.pure rfl rfl (RV.loadA [.int .i64 a1.column, .int .i64 a1.row] Tk92 rfl (H.blk 0 rfl).cells rfl rfl) ?_
    refine LW.go rfl rfl (OW.updateM (ek := ekBlock) (ev' := ekBl) (eq := eqBlock) (m := a2) ((⟨a1.column, a1.row⟩ : Block)) true KO92 Tm109 rfl rfl rfl (H.mp 4 rfl) fun w3 M1 O1 => ?_)
    replace H : Hp wb w3 ([.blk b2 92 [.int .i64 a1.column, .int .i64 a1.row], .blk b1 98 [.slice A_a0_bog_worth a0.bog.worth.length c_a0_bog_worth, .map (some b_a0_has), .map (some b_a0_passed)], .mp b_a0_has (encMap ekBlock ekI a0.has), .mp b_a0_passed (encMap ekLink ekI a0.passed), .mp b_a2 (encMap ekBlock ekBl ((mset eqBlock a2 ((⟨a1.column, a1.row⟩ : Block)) true)))] ++ R) := H.setM 4 rfl M1 O1
    replace R0 := H.ext
    refine LW.nil (hK2 _ _ ?_)
    refine CW.seq fun K3 hK3 => ?_
    refine CW.seq fun K4 hK4 => ?_
    refine CW.region ?_
    refine LW.pure rfl rfl (RV.fieldAddr Tf98_1 rfl) ?_
    refine LW.pure rfl rfl (RV.load1 Tk90 rfl ((H.blk 1 rfl).cells.off 1) rfl) ?_
    refine LW.pure rfl rfl (RV.loadA [.int .i64 a1.column, .int .i64 a1.row] Tk92 rfl (H.blk 0 rfl).cells rfl rfl) ?_
    refine LW.pure rfl rfl (RV.lookupM (ek := ekBlock) (ev' := ekI) (eq := eqBlock) (m := a0.has) ((⟨a1.column, a1.row⟩ : Block)) 0 KO92 Tm90 Tz3 rfl rfl (H.mp 2 rfl)) ?_
    refine LW.pure rfl rfl (RV.lss rfl rfl) ?_
    refine LW.nil (hK4 _ _ ?_)
    by_cases hp1 : ((mget eqBlock a0.has ((⟨a1.column, a1.row⟩ : Block))).getD 0) < 0
    ·
      replace F := ite_y hp1 F
      have hq1 := dec_t hp1
      refine CW.condT rfl hq1 ?_
      refine CW.seq fun K5 hK5 => ?_
      refine CW.region ?_
      refine LW.pure rfl rfl (RV.assign rfl) ?_
      refine LW.pure rfl rfl (RV.assign rfl) ?_
      refine LW.nil (hK5 _ _ ?_)
      refine CW.ret ?_
      obtain rfl := Option.some.inj F
      refine ⟨_, (ResOK.two rfl rfl), ?_⟩
      replace H := H.nilOwn 101 4
      replace R0 := H.ext
      replace H := H.pickR (C := [.own none 0 101 4 (List.map encLink (([] : List Link))), .blk b2 92 [.int .i64 a1.column, .int .i64 a1.row], .blk b1 98 [.slice A_a0_bog_worth a0.bog.worth.length c_a0_bog_worth, .map (some b_a0_has), .map (some b_a0_passed)], .mp b_a0_has (encMap ekBlock ekI a0.has), .mp b_a0_passed (encMap ekLink ekI a0.passed), .mp b_a2 (encMap ekBlock ekBl ((mset eqBlock a2 ((⟨a1.column, a1.row⟩ : Block)) true)))]) (C' := [.mp b_a0_has (encMap ekBlock ekI a0.has), .mp b_a0_passed (encMap ekLink ekI a0.passed), .mp b_a2 (encMap ekBlock ekBl ((mset eqBlock a2 ((⟨a1.column, a1.row⟩ : Block)) true))), .own none 0 101 4 (List.map encLink (([] : List Link)))]) [3, 4, 5, 0] (by decide) rfl
      replace R0 := H.ext
      exact ⟨none, 0, (by first | rfl | (simp; done) | (simp; omega)), H⟩
    ·
      replace F := ite_n hp1 F
      have hq1 := dec_f hp1
      refine CW.condF rfl hq1 ?_
      refine CW.skip (hK3 _ _ ?_)
      refine CW.seqJ (fun ρ wl1 => (∃ (m1 : List (Block × Int)) (m2 : List (Link × Int)) (m3 : List (Block × Bool)), cut_payer_way_k1 m1 m2 m3 = some res ∧ ρ = [(6, .slice none 0 0), (7, .bool false)] ∧ Hp wb wl1 ([.mp b_a0_has (encMap ekBlock ekI m1), .mp b_a0_passed (encMap ekLink ekI m2), .mp b_a2 (encMap ekBlock ekBl m3)] ++ R))) ?_ ?_
      ·
        rintro _ wl1 ⟨m1, m2, m3, F, rfl, H⟩
        have R0 := H.ext
        unfold cut_payer_way_k1 at F
        refine CW.seq fun K6 hK6 => ?_
        refine CW.region ?_
        refine LW.pure rfl rfl (RV.assign rfl) ?_
        refine LW.pure rfl rfl (RV.assign rfl) ?_
        refine LW.nil (hK6 _ _ ?_)
        refine CW.ret ?_
        obtain rfl := Option.some.inj F
        refine ⟨_, (ResOK.two rfl rfl), ?_⟩
        replace H := H.nilOwn 101 4
        replace R0 := H.ext
        replace H := H.pickR (C := [.own none 0 101 4 (List.map encLink (([] : List Link))), .mp b_a0_has (encMap ekBlock ekI m1), .mp b_a0_passed (encMap ekLink ekI m2), .mp b_a2 (encMap ekBlock ekBl m3)]) (C' := [.mp b_a0_has (encMap ekBlock ekI m1), .mp b_a0_passed (encMap ekLink ekI m2), .mp b_a2 (encMap ekBlock ekBl m3), .own none 0 101 4 (List.map encLink (([] : List Link)))]) [1, 2, 3, 0] (by decide) rfl
        replace R0 := H.ext
        exact ⟨none, 0, (by first | rfl | (simp; done) | (simp; omega)), H⟩
      ·
        intro K7 hK7 jK314
        refine CW.seq fun K8 hK8 => ?_
        refine CW.region ?_
        refine LW.pure rfl rfl (RV.assign rfl) ?_
        refine LW.nil (hK8 _ _ ?_)
        refine CW.block ?_
        replace H := H.pickR (C := [.blk b2 92 [.int .i64 a1.column, .int .i64 a1.row], .blk b1 98 [.slice A_a0_bog_worth a0.bog.worth.length c_a0_bog_worth, .map (some b_a0_has), .map (some b_a0_passed)], .mp b_a0_has (encMap ekBlock ekI a0.has), .mp b_a0_passed (encMap ekLink ekI a0.passed), .mp b_a2 (encMap ekBlock ekBl ((mset eqBlock a2 ((⟨a1.column, a1.row⟩ : Block)) true)))]) (C' := [.mp b_a2 (encMap ekBlock ekBl ((mset eqBlock a2 ((⟨a1.column, a1.row⟩ : Block)) true))), .mp b_a0_has (encMap ekBlock ekI a0.has), .mp b_a0_passed (encMap ekLink ekI a0.passed), .blk b1 98 [.slice A_a0_bog_worth a0.bog.worth.length c_a0_bog_worth, .map (some b_a0_has), .map (some b_a0_passed)], .blk b2 92 [.int .i64 a1.column, .int .i64 a1.row]]) [4, 2, 3, 1, 0] (by decide) rfl
        replace R0 := H.ext
        refine CW.loop (fun meas ρ wl2 => ∃ (t8_1 : Int) (m10 : List (Block × Bool)) (m11 : List (Block × Int)) (m12 : List (Link × Int)), cut_payer_way_L1 a0 a1 recf meas t8_1 m10 m11 m12 = some res ∧ ρ = [(2, .map (some b_a2)), (3, .pointer (some (⟨b1, 0, none⟩))), (4, .pointer (some (⟨b2, 0, none⟩))), (6, .slice none 0 0), (7, .bool false), (8, .int .i64 t8_1)] ∧ Hp wb wl2 ([.mp b_a2 (encMap ekBlock ekBl m10), .mp b_a0_has (encMap ekBlock ekI m11), .mp b_a0_passed (encMap ekLink ekI m12), .blk b1 98 [.slice A_a0_bog_worth a0.bog.worth.length c_a0_bog_worth, .map (some b_a0_has), .map (some b_a0_passed)], .blk b2 92 [.int .i64 a1.column, .int .i64 a1.row]] ++ R)) FU ⟨_, ?_, ((-1 : Int)), ((mset eqBlock a2 ((⟨a1.column, a1.row⟩ : Block)) true)), a0.has, a0.passed, F, rfl, H⟩ ?_
        · exact ⟨rfl, rfl, rfl, rfl, rfl, rfl, trivial⟩
        rintro mk1 _ wl2 ⟨t8_1, m10, m11, m12, F, rfl, H⟩
        have R0 := H.ext
        replace F := cut_payer_way_L1_s F
        obtain ⟨mk1, rfl, F⟩ := F
        generalize hrec1 : cut_payer_way_L1 a0 a1 recf mk1 = rec1 at F
        unfold cut_payer_way_B1 at F
        refine CW.seq fun K9 hK9 => ?_
        refine CW.seq fun K10 hK10 => ?_
        refine CW.region ?_
        refine LW.pure rfl rfl (RV.move rfl) ?_
        refine LW.pure rfl rfl (RV.leq rfl rfl) ?_
        refine LW.nil (hK10 _ _ ?_)
        by_cases hp2 : t8_1 ≤ 1
        ·
          replace F := ite_y hp2 F
          have hq2 := dec_t hp2
          refine CW.condT rfl hq2 ?_
          refine CW.skip (hK9 _ _ ?_)
          refine CW.seqJ (fun ρ wl3 => (∃ (m4 : List (Block × Bool)) (m5 : List (Block × Int)) (m6 : List (Link × Int)), cut_payer_way_k2 t8_1 rec1 m4 m5 m6 = some res ∧ ρ = [(2, .map (some b_a2)), (3, .pointer (some (⟨b1, 0, none⟩))), (4, .pointer (some (⟨b2, 0, none⟩))), (6, .slice none 0 0), (7, .bool false), (8, .int .i64 t8_1)] ∧ Hp wb wl3 ([.mp b_a2 (encMap ekBlock ekBl m4), .mp b_a0_has (encMap ekBlock ekI m5), .mp b_a0_passed (encMap ekLink ekI m6), .blk b1 98 [.slice A_a0_bog_worth a0.bog.worth.length c_a0_bog_worth, .map (some b_a0_has), .map (some b_a0_passed)], .blk b2 92 [.int .i64 a1.column, .int .i64 a1.row]] ++ R))) ?_ ?_
          ·
            rintro _ wl3 ⟨m4, m5, m6, F, rfl, H⟩
            have R0 := H.ext
            unfold cut_payer_way_k2 at F
            obtain ⟨hg1, F⟩ := gd_some F
            refine CW.region ?_
            refine LW.pure rfl rfl (RV.move rfl) ?_
            refine LW.pure rfl rfl (RV.add rfl rfl hg1) ?_
            refine LW.pure rfl rfl (RV.assign rfl) ?_
            refine LW.nil ?_
            subst hrec1
            refine ⟨mk1, Nat.lt_succ_self _, _, ?_, (t8_1 + 1), m4, m5, m6, F, rfl, H⟩
            exact ⟨rfl, rfl, rfl, rfl, rfl, rfl, trivial⟩
          ·
            intro K11 hK11 jK399
            refine CW.block ?_
            refine CW.seq fun K12 hK12 => ?_
            obtain ⟨hg2, F⟩ := gd_some F
            obtain ⟨hg3, F⟩ := gd_some F
            refine CW.region ?_
            refine LW.pure rfl rfl (RV.fieldAddr Tf92_0 rfl) ?_
            refine LW.pure rfl rfl (RV.load1 Tk3 rfl ((H.blk 4 rfl).cells.off 0) rfl) ?_
            refine LW.pure rfl rfl (RV.move rfl) ?_
            refine LW.pure rfl rfl (RV.add rfl rfl hg2) ?_
            refine LW.pure rfl rfl (RV.fieldAddr Tf92_1 rfl) ?_
            refine LW.pure rfl rfl (RV.load1 Tk3 rfl ((H.blk 4 rfl).cells.off 1) rfl) ?_
            refine LW.pure rfl rfl (RV.sub rfl rfl hg3) ?_
            refine LW.pure rfl rfl (RV.build (vs := [.int .i64 (a1.column + t8_1), .int .i64 (a1.row - 1)]) (cs := [.int .i64 (a1.column + t8_1), .int .i64 (a1.row - 1)]) rfl (fun _ => by kernel_rfl)) ?_
            refine LW.go rfl rfl (OW.alloc Tz92 fun b3 w4 N3 => ?_)
            replace H := H.new N3 N3.blk
            replace R0 := H.ext
            refine LW.go rfl rfl (OW.store Tk92 rfl rfl (H.blk 0 rfl) (off := 0) (vs := [.int .i64 (a1.column + t8_1), .int .i64 (a1.row - 1)]) rfl rfl rfl rfl rfl fun w5 S1 => ?_)
            replace H : Hp wb w5 ([.blk b3 92 [.int .i64 (a1.column + t8_1), .int .i64 (a1.row - 1)], .mp b_a2 (encMap ekBlock ekBl m10), .mp b_a0_has (encMap ekBlock ekI m11), .mp b_a0_passed (encMap ekLink ekI m12), .blk b1 98 [.slice A_a0_bog_worth a0.bog.worth.length c_a0_bog_worth, .map (some b_a0_has), .map (some b_a0_passed)], .blk b2 92 [.int .i64 a1.column, .int .i64 a1.row]] ++ R) := H.stored 0 rfl S1
            replace R0 := H.ext
            refine LW.nil (hK12 _ _ ?_)
            refine CW.seqJ (fun ρ wl4 => (∃ (m7 : List (Block × Bool)) (m8 : List (Block × Int)) (m9 : List (Link × Int)), cut_payer_way_k4 a0 a1 recf t8_1 rec1 m7 m8 m9 = some res ∧ ρ = [(2, .map (some b_a2)), (3, .pointer (some (⟨b1, 0, none⟩))), (4, .pointer (some (⟨b2, 0, none⟩))), (6, .slice none 0 0), (7, .bool false), (8, .int .i64 t8_1)] ∧ Hp wb wl4 ([.mp b_a2 (encMap ekBlock ekBl m7), .mp b_a0_has (encMap ekBlock ekI m8), .mp b_a0_passed (encMap ekLink ekI m9), .blk b1 98 [.slice A_a0_bog_worth a0.bog.worth.length c_a0_bog_worth, .map (some b_a0_has), .map (some b_a0_passed)], .blk b2 92 [.int .i64 a1.column, .int .i64 a1.row]] ++ R))) ?_ ?_
            ·
              rintro _ wl4 ⟨m7, m8, m9, F, rfl, H⟩
              have R0 := H.ext
              unfold cut_payer_way_k4 at F
              refine CW.seq fun K13 hK13 => ?_
              obtain ⟨hg4, F⟩ := gd_some F
              obtain ⟨hg5, F⟩ := gd_some F
              refine CW.region ?_
              refine LW.pure rfl rfl (RV.fieldAddr Tf92_0 rfl) ?_
              refine LW.pure rfl rfl (RV.load1 Tk3 rfl ((H.blk 4 rfl).cells.off 0) rfl) ?_
              refine LW.pure rfl rfl (RV.move rfl) ?_
              refine LW.pure rfl rfl (RV.add rfl rfl hg4) ?_
              refine LW.pure rfl rfl (RV.fieldAddr Tf92_1 rfl) ?_
              refine LW.pure rfl rfl (RV.load1 Tk3 rfl ((H.blk 4 rfl).cells.off 1) rfl) ?_
              refine LW.pure rfl rfl (RV.add rfl rfl hg5) ?_
              refine LW.pure rfl rfl (RV.build (vs := [.int .i64 (a1.column + t8_1), .int .i64 (a1.row + 1)]) (cs := [.int .i64 (a1.column + t8_1), .int .i64 (a1.row + 1)]) rfl (fun _ => by kernel_rfl)) ?_
              refine LW.go rfl rfl (OW.alloc Tz92 fun b4 w6 N4 => ?_)
              replace H := H.new N4 N4.blk
              replace R0 := H.ext
              refine LW.go rfl rfl (OW.store Tk92 rfl rfl (H.blk 0 rfl) (off := 0) (vs := [.int .i64 (a1.column + t8_1), .int .i64 (a1.row + 1)]) rfl rfl rfl rfl rfl fun w7 S2 => ?_)
              replace H : Hp wb w7 ([.blk b4 92 [.int .i64 (a1.column + t8_1), .int .i64 (a1.row + 1)], .mp b_a2 (encMap ekBlock ekBl m7), .mp b_a0_has (encMap ekBlock ekI m8), .mp b_a0_passed (encMap ekLink ekI m9), .blk b1 98 [.slice A_a0_bog_worth a0.bog.worth.length c_a0_bog_worth, .map (some b_a0_has), .map (some b_a0_passed)], .blk b2 92 [.int .i64 a1.column, .int .i64 a1.row]] ++ R) := H.stored 0 rfl S2
              replace R0 := H.ext
              refine LW.nil (hK13 _ _ ?_)
              refine CW.seqJ (fun ρ wl5 => (∃ (t87_1 : Bool), cut_payer_way_k3 a0 a1 recf t8_1 rec1 m7 m8 m9 t87_1 = some res ∧ ρ = [(2, .map (some b_a2)), (3, .pointer (some (⟨b1, 0, none⟩))), (4, .pointer (some (⟨b2, 0, none⟩))), (6, .slice none 0 0), (7, .bool false), (8, .int .i64 t8_1), (12, .pointer (some (⟨b4, 0, none⟩))), (87, .bool t87_1)] ∧ Hp wb wl5 ([.mp b_a2 (encMap ekBlock ekBl m7), .mp b_a0_has (encMap ekBlock ekI m8), .mp b_a0_passed (encMap ekLink ekI m9), .blk b1 98 [.slice A_a0_bog_worth a0.bog.worth.length c_a0_bog_worth, .map (some b_a0_has), .map (some b_a0_passed)], .blk b2 92 [.int .i64 a1.column, .int .i64 a1.row], .blk b4 92 [.int .i64 (a1.column + t8_1), .int .i64 (a1.row + 1)]] ++ R))) ?_ ?_
              ·
                rintro _ wl5 ⟨t87_1, F, rfl, H⟩
                have R0 := H.ext
                unfold cut_payer_way_k3 at F
                by_cases hp3 : t87_1 = true
                ·
                  replace F := ite_y hp3 F
                  have hq3 : t87_1 = true := hp3
                  refine CW.condT rfl hq3 ?_
                  refine CW.seq fun K14 hK14 => ?_
                  obtain ⟨r1, hr1, F⟩ := bnd_some F
                  refine CW.region ?_
                  refine LW.pure rfl rfl (RV.loadA [.slice A_a0_bog_worth a0.bog.worth.length c_a0_bog_worth, .map (some b_a0_has), .map (some b_a0_passed)] Tk98 rfl (H.blk 3 rfl).cells rfl rfl) ?_
                  refine LW.pure rfl rfl (RV.loadA [.int .i64 (a1.column + t8_1), .int .i64 (a1.row + 1)] Tk92 rfl (H.blk 5 rfl).cells rfl rfl) ?_
                  refine LW.pure rfl rfl (RV.move rfl) ?_
                  replace H := H.pickR (C := [.mp b_a2 (encMap ekBlock ekBl m7), .mp b_a0_has (encMap ekBlock ekI m8), .mp b_a0_passed (encMap ekLink ekI m9), .blk b1 98 [.slice A_a0_bog_worth a0.bog.worth.length c_a0_bog_worth, .map (some b_a0_has), .map (some b_a0_passed)], .blk b2 92 [.int .i64 a1.column, .int .i64 a1.row], .blk b4 92 [.int .i64 (a1.column + t8_1), .int .i64 (a1.row + 1)]]) (C' := [.mp b_a0_has (encMap ekBlock ekI m8), .mp b_a0_passed (encMap ekLink ekI m9), .mp b_a2 (encMap ekBlock ekBl m7), .blk b1 98 [.slice A_a0_bog_worth a0.bog.worth.length c_a0_bog_worth, .map (some b_a0_has), .map (some b_a0_passed)], .blk b2 92 [.int .i64 a1.column, .int .i64 a1.row], .blk b4 92 [.int .i64 (a1.column + t8_1), .int .i64 (a1.row + 1)]]) [1, 2, 0, 3, 4, 5] (by decide) rfl
                  replace R0 := H.ext
                  refine LW.go rfl rfl (OW.call Tc100 rfl (ih (a0 := (⟨a0.bog, m8, m9⟩ : Payer)) (a1 := (⟨a1.column + t8_1, a1.row + 1⟩ : Block)) (a2 := m7) (R := [.blk b1 98 [.slice A_a0_bog_worth a0.bog.worth.length c_a0_bog_worth, .map (some b_a0_has), .map (some b_a0_passed)], .blk b2 92 [.int .i64 a1.column, .int .i64 a1.row], .blk b4 92 [.int .i64 (a1.column + t8_1), .int .i64 (a1.row + 1)]] ++ R) h_a0_bog_worth H hr1) ?_)
                  rintro _ w8 ⟨A166_0, c166_0, rfl, Hq1⟩
                  refine ⟨_, rfl, ?_⟩
                  replace H : Hp wb w8 ([.mp b_a0_has (encMap ekBlock ekI r1.2.2.1), .mp b_a0_passed (encMap ekLink ekI r1.2.2.2.1), .mp b_a2 (encMap ekBlock ekBl r1.2.2.2.2), .own A166_0 c166_0 101 4 (List.map encLink r1.1), .blk b1 98 [.slice A_a0_bog_worth a0.bog.worth.length c_a0_bog_worth, .map (some b_a0_has), .map (some b_a0_passed)], .blk b2 92 [.int .i64 a1.column, .int .i64 a1.row], .blk b4 92 [.int .i64 (a1.column + t8_1), .int .i64 (a1.row + 1)]] ++ R) := Hq1
                  replace R0 := H.ext
                  refine LW.pure rfl rfl (RV.move rfl) ?_
                  refine LW.pure rfl rfl (RV.extract rfl rfl) ?_
                  refine LW.pure rfl rfl (RV.extract rfl rfl) ?_
                  refine LW.pure rfl rfl (RV.assign rfl) ?_
                  refine LW.pure rfl rfl (RV.assign rfl) ?_
                  refine LW.nil (hK14 _ _ ?_)
                  refine CW.seq fun K15 hK15 => ?_
                  refine CW.region ?_
                  refine LW.pure rfl rfl (RV.move rfl) ?_
                  refine LW.nil (hK15 _ _ ?_)
                  by_cases hp4 : r1.2.1 = true
                  ·
                    replace F := ite_y hp4 F
                    have hq4 : r1.2.1 = true := hp4
                    refine CW.condT rfl hq4 ?_
                    refine CW.seq fun K16 hK16 => ?_
                    obtain ⟨hg6, F⟩ := gd_some F
                    refine CW.region ?_
                    refine LW.pure rfl rfl (RV.loadA [.int .i64 a1.column, .int .i64 a1.row] Tk92 rfl (H.blk 5 rfl).cells rfl rfl) ?_
                    refine LW.pure rfl rfl (RV.loadA [.int .i64 (a1.column + t8_1), .int .i64 (a1.row + 1)] Tk92 rfl (H.blk 6 rfl).cells rfl rfl) ?_
                    refine LW.pure rfl rfl (RV.build (vs := [.agg #[.int .i64 a1.column, .int .i64 a1.row], .agg #[.int .i64 (a1.column + t8_1), .int .i64 (a1.row + 1)]]) (cs := [.int .i64 a1.column, .int .i64 a1.row, .int .i64 (a1.column + t8_1), .int .i64 (a1.row + 1)]) rfl (fun _ => by kernel_rfl)) ?_
                    refine LW.go rfl rfl (OW.buildSlice (e := 101) (vs := [.agg #[.int .i64 a1.column, .int .i64 a1.row, .int .i64 (a1.column + t8_1), .int .i64 (a1.row + 1)]]) (cs := [.int .i64 a1.column, .int .i64 a1.row, .int .i64 (a1.column + t8_1), .int .i64 (a1.row + 1)]) rfl (fun _ => by kernel_rfl) fun b5 w9 N5 => ?_)
                    replace H := H.made' (k := 4) (t := 101) (enc := encLink) (l := ([(⟨a1, (⟨a1.column + t8_1, a1.row + 1⟩ : Block)⟩ : Link)] : List Link)) N5 N5.blk (fun _ => rfl) rfl (by first | decide | omega | (simp; done) | (simp; omega))
                    replace R0 := H.ext
                    refine LW.pure rfl rfl (RV.move rfl) ?_
                    refine LW.go rfl rfl (OW.appendG (enc := encLink) (l := ([(⟨a1, (⟨a1.column + t8_1, a1.row + 1⟩ : Block)⟩ : Link)] : List Link)) (xs := r1.1) Ts106 (look_slice rfl (by first | rfl | (simp; done) | (simp; omega))) rfl (H.own 0 rfl) (H.own 4 rfl).sl (fun _ => rfl) rfl rfl hg6 (by decide) fun A1 c1 w10 O2 M2 D1 => ?_)
                    replace H : Hp wb w10 ([.own A1 c1 101 4 (List.map encLink ((([(⟨a1, (⟨a1.column + t8_1, a1.row + 1⟩ : Block)⟩ : Link)] : List Link) ++ r1.1))), .mp b_a0_has (encMap ekBlock ekI r1.2.2.1), .mp b_a0_passed (encMap ekLink ekI r1.2.2.2.1), .mp b_a2 (encMap ekBlock ekBl r1.2.2.2.2), .own A166_0 c166_0 101 4 (List.map encLink r1.1), .blk b1 98 [.slice A_a0_bog_worth a0.bog.worth.length c_a0_bog_worth, .map (some b_a0_has), .map (some b_a0_passed)], .blk b2 92 [.int .i64 a1.column, .int .i64 a1.row], .blk b4 92 [.int .i64 (a1.column + t8_1), .int .i64 (a1.row + 1)]] ++ R) := H.mod 0 rfl M2 O2 D1
                    replace R0 := H.ext
                    refine LW.pure rfl rfl (RV.assign rfl) ?_
                    refine LW.pure rfl rfl (RV.assign rfl) ?_
                    refine LW.nil (hK16 _ _ ?_)
                    refine CW.ret ?_
                    obtain rfl := Option.some.inj F
                    refine ⟨_, (ResOK.two rfl rfl), ?_⟩
                    replace H := H.pickR (C := [.own A1 c1 101 4 (List.map encLink ((([(⟨a1, (⟨a1.column + t8_1, a1.row + 1⟩ : Block)⟩ : Link)] : List Link) ++ r1.1))), .mp b_a0_has (encMap ekBlock ekI r1.2.2.1), .mp b_a0_passed (encMap ekLink ekI r1.2.2.2.1), .mp b_a2 (encMap ekBlock ekBl r1.2.2.2.2), .own A166_0 c166_0 101 4 (List.map encLink r1.1), .blk b1 98 [.slice A_a0_bog_worth a0.bog.worth.length c_a0_bog_worth, .map (some b_a0_has), .map (some b_a0_passed)], .blk b2 92 [.int .i64 a1.column, .int .i64 a1.row], .blk b4 92 [.int .i64 (a1.column + t8_1), .int .i64 (a1.row + 1)]]) (C' := [.mp b_a0_has (encMap ekBlock ekI r1.2.2.1), .mp b_a0_passed (encMap ekLink ekI r1.2.2.2.1), .mp b_a2 (encMap ekBlock ekBl r1.2.2.2.2), .own A1 c1 101 4 (List.map encLink ((([(⟨a1, (⟨a1.column + t8_1, a1.row + 1⟩ : Block)⟩ : Link)] : List Link) ++ r1.1)))]) [1, 2, 3, 0] (by decide) rfl
                    replace R0 := H.ext
                    exact ⟨A1, c1, (by first | rfl | (simp; done) | (simp; omega)), H⟩
                  ·
                    replace F := ite_n hp4 F
                    have hq4 : r1.2.1 = false := raw_f hp4
                    refine CW.condF rfl hq4 ?_
                    replace H := H.pickR (C := [.mp b_a0_has (encMap ekBlock ekI r1.2.2.1), .mp b_a0_passed (encMap ekLink ekI r1.2.2.2.1), .mp b_a2 (encMap ekBlock ekBl r1.2.2.2.2), .own A166_0 c166_0 101 4 (List.map encLink r1.1), .blk b1 98 [.slice A_a0_bog_worth a0.bog.worth.length c_a0_bog_worth, .map (some b_a0_has), .map (some b_a0_passed)], .blk b2 92 [.int .i64 a1.column, .int .i64 a1.row], .blk b4 92 [.int .i64 (a1.column + t8_1), .int .i64 (a1.row + 1)]]) (C' := [.mp b_a2 (encMap ekBlock ekBl r1.2.2.2.2), .mp b_a0_has (encMap ekBlock ekI r1.2.2.1), .mp b_a0_passed (encMap ekLink ekI r1.2.2.2.1), .blk b1 98 [.slice A_a0_bog_worth a0.bog.worth.length c_a0_bog_worth, .map (some b_a0_has), .map (some b_a0_passed)], .blk b2 92 [.int .i64 a1.column, .int .i64 a1.row]]) [2, 0, 1, 4, 5] (by decide) rfl
                    replace R0 := H.ext
                    refine CW.skip (jK399 _ _ ⟨_, ?_, ⟨r1.2.2.2.2, r1.2.2.1, r1.2.2.2.1, F, rfl, H⟩⟩)
                    exact ⟨rfl, rfl, rfl, rfl, rfl, rfl, trivial⟩
                ·
                  replace F := ite_n hp3 F
                  have hq3 : t87_1 = false := raw_f hp3
                  refine CW.condF rfl hq3 ?_
                  replace H := H.pickR (C := [.mp b_a2 (encMap ekBlock ekBl m7), .mp b_a0_has (encMap ekBlock ekI m8), .mp b_a0_passed (encMap ekLink ekI m9), .blk b1 98 [.slice A_a0_bog_worth a0.bog.worth.length c_a0_bog_worth, .map (some b_a0_has), .map (some b_a0_passed)], .blk b2 92 [.int .i64 a1.column, .int .i64 a1.row], .blk b4 92 [.int .i64 (a1.column + t8_1), .int .i64 (a1.row + 1)]]) (C' := [.mp b_a2 (encMap ekBlock ekBl m7), .mp b_a0_has (encMap ekBlock ekI m8), .mp b_a0_passed (encMap ekLink ekI m9), .blk b1 98 [.slice A_a0_bog_worth a0.bog.worth.length c_a0_bog_worth, .map (some b_a0_has), .map (some b_a0_passed)], .blk b2 92 [.int .i64 a1.column, .int .i64 a1.row]]) [0, 1, 2, 3, 4] (by decide) rfl
                  replace R0 := H.ext
                  refine CW.skip (jK399 _ _ ⟨_, ?_, ⟨m7, m8, m9, F, rfl, H⟩⟩)
                  exact ⟨rfl, rfl, rfl, rfl, rfl, rfl, trivial⟩
              ·
                intro K17 hK17 jK409
                by_cases hp5 : (0 : Int) < ((mget eqLink m9 ((⟨(⟨a1.column + t8_1, a1.row + 1⟩ : Block), (⟨a1.column, a1.row⟩ : Block)⟩ : Link))).getD 0)
                ·
                  replace F := ite_y hp5 F
                  have hq5 := dec_t hp5
                  refine CW.region ?_
                  refine LW.pure rfl rfl (RV.fieldAddr Tf98_2 rfl) ?_
                  refine LW.pure rfl rfl (RV.load1 Tk96 rfl ((H.blk 4 rfl).cells.off 2) rfl) ?_
                  refine LW.pure rfl rfl (RV.loadA [.int .i64 (a1.column + t8_1), .int .i64 (a1.row + 1)] Tk92 rfl (H.blk 0 rfl).cells rfl rfl) ?_
                  refine LW.pure rfl rfl (RV.loadA [.int .i64 a1.column, .int .i64 a1.row] Tk92 rfl (H.blk 5 rfl).cells rfl rfl) ?_
                  refine LW.pure rfl rfl (RV.build (vs := [.agg #[.int .i64 (a1.column + t8_1), .int .i64 (a1.row + 1)], .agg #[.int .i64 a1.column, .int .i64 a1.row]]) (cs := [.int .i64 (a1.column + t8_1), .int .i64 (a1.row + 1), .int .i64 a1.column, .int .i64 a1.row]) rfl (fun _ => by kernel_rfl)) ?_
                  refine LW.pure rfl rfl (RV.lookupM (ek := ekLink) (ev' := ekI) (eq := eqLink) (m := m9) ((⟨(⟨a1.column + t8_1, a1.row + 1⟩ : Block), (⟨a1.column, a1.row⟩ : Block)⟩ : Link)) 0 KO101 Tm96 Tz3 rfl rfl (H.mp 3 rfl)) ?_
                  refine LW.pure rfl rfl (RV.gtr rfl rfl) ?_
                  refine LW.pure rfl rfl (RV.move rfl) ?_
                  refine LW.pureYB rfl rfl rfl rfl hq5 (RV.move rfl) ?_
                  refine LW.pureYB rfl rfl rfl rfl hq5 (RV.loadA [.int .i64 (a1.column + t8_1), .int .i64 (a1.row + 1)] Tk92 rfl (H.blk 0 rfl).cells rfl rfl) ?_
                  refine LW.pureYB rfl rfl rfl rfl hq5 (RV.lookupM (ek := ekBlock) (ev' := ekBl) (eq := eqBlock) (m := m7) ((⟨a1.column + t8_1, a1.row + 1⟩ : Block)) false KO92 Tm109 Tz4 rfl rfl (H.mp 1 rfl)) ?_
                  refine LW.pureYB rfl rfl rfl rfl hq5 (RV.not rfl) ?_
                  refine LW.pure rfl rfl (RV.pickTB rfl hq5 rfl) ?_
                  replace H := H.pickR (C := [.blk b4 92 [.int .i64 (a1.column + t8_1), .int .i64 (a1.row + 1)], .mp b_a2 (encMap ekBlock ekBl m7), .mp b_a0_has (encMap ekBlock ekI m8), .mp b_a0_passed (encMap ekLink ekI m9), .blk b1 98 [.slice A_a0_bog_worth a0.bog.worth.length c_a0_bog_worth, .map (some b_a0_has), .map (some b_a0_passed)], .blk b2 92 [.int .i64 a1.column, .int .i64 a1.row]]) (C' := [.mp b_a2 (encMap ekBlock ekBl m7), .mp b_a0_has (encMap ekBlock ekI m8), .mp b_a0_passed (encMap ekLink ekI m9), .blk b1 98 [.slice A_a0_bog_worth a0.bog.worth.length c_a0_bog_worth, .map (some b_a0_has), .map (some b_a0_passed)], .blk b2 92 [.int .i64 a1.column, .int .i64 a1.row], .blk b4 92 [.int .i64 (a1.column + t8_1), .int .i64 (a1.row + 1)]]) [1, 2, 3, 4, 5, 0] (by decide) rfl
                  replace R0 := H.ext
                  refine LW.nil (jK409 _ _ ⟨_, ?_, ⟨(!((mget eqBlock m7 ((⟨a1.column + t8_1, a1.row + 1⟩ : Block))).getD false)), F, rfl, H⟩⟩)
                  exact ⟨rfl, rfl, rfl, rfl, rfl, rfl, rfl, rfl, trivial⟩
                ·
                  replace F := ite_n hp5 F
                  have hq5 := dec_f hp5
                  refine CW.region ?_
                  refine LW.pure rfl rfl (RV.fieldAddr Tf98_2 rfl) ?_
                  refine LW.pure rfl rfl (RV.load1 Tk96 rfl ((H.blk 4 rfl).cells.off 2) rfl) ?_
                  refine LW.pure rfl rfl (RV.loadA [.int .i64 (a1.column + t8_1), .int .i64 (a1.row + 1)] Tk92 rfl (H.blk 0 rfl).cells rfl rfl) ?_
                  refine LW.pure rfl rfl (RV.loadA [.int .i64 a1.column, .int .i64 a1.row] Tk92 rfl (H.blk 5 rfl).cells rfl rfl) ?_
                  refine LW.pure rfl rfl (RV.build (vs := [.agg #[.int .i64 (a1.column + t8_1), .int .i64 (a1.row + 1)], .agg #[.int .i64 a1.column, .int .i64 a1.row]]) (cs := [.int .i64 (a1.column + t8_1), .int .i64 (a1.row + 1), .int .i64 a1.column, .int .i64 a1.row]) rfl (fun _ => by kernel_rfl)) ?_
                  refine LW.pure rfl rfl (RV.lookupM (ek := ekLink) (ev' := ekI) (eq := eqLink) (m := m9) ((⟨(⟨a1.column + t8_1, a1.row + 1⟩ : Block), (⟨a1.column, a1.row⟩ : Block)⟩ : Link)) 0 KO101 Tm96 Tz3 rfl rfl (H.mp 3 rfl)) ?_
                  refine LW.pure rfl rfl (RV.gtr rfl rfl) ?_
                  refine LW.pure rfl rfl (RV.move rfl) ?_
                  refine LW.noB rfl rfl rfl rfl (ne_beq (v := false) hq5 rfl) ?_
                  refine LW.noB rfl rfl rfl rfl (ne_beq (v := false) hq5 rfl) ?_
                  refine LW.noB rfl rfl rfl rfl (ne_beq (v := false) hq5 rfl) ?_
                  refine LW.noB rfl rfl rfl rfl (ne_beq (v := false) hq5 rfl) ?_
                  refine LW.pure rfl rfl (RV.pickFB rfl hq5 rfl) ?_
                  replace H := H.pickR (C := [.blk b4 92 [.int .i64 (a1.column + t8_1), .int .i64 (a1.row + 1)], .mp b_a2 (encMap ekBlock ekBl m7), .mp b_a0_has (encMap ekBlock ekI m8), .mp b_a0_passed (encMap ekLink ekI m9), .blk b1 98 [.slice A_a0_bog_worth a0.bog.worth.length c_a0_bog_worth, .map (some b_a0_has), .map (some b_a0_passed)], .blk b2 92 [.int .i64 a1.column, .int .i64 a1.row]]) (C' := [.mp b_a2 (encMap ekBlock ekBl m7), .mp b_a0_has (encMap ekBlock ekI m8), .mp b_a0_passed (encMap ekLink ekI m9), .blk b1 98 [.slice A_a0_bog_worth a0.bog.worth.length c_a0_bog_worth, .map (some b_a0_has), .map (some b_a0_passed)], .blk b2 92 [.int .i64 a1.column, .int .i64 a1.row], .blk b4 92 [.int .i64 (a1.column + t8_1), .int .i64 (a1.row + 1)]]) [1, 2, 3, 4, 5, 0] (by decide) rfl
                  replace R0 := H.ext
                  refine LW.nil (jK409 _ _ ⟨_, ?_, ⟨false, F, rfl, H⟩⟩)
                  exact ⟨rfl, rfl, rfl, rfl, rfl, rfl, rfl, rfl, trivial⟩
            ·
              intro K18 hK18 jK410
              refine CW.seqJ (fun ρ wl6 => (∃ (t52_1 : Bool), cut_payer_way_k5 a0 a1 recf t8_1 m10 m11 m12 rec1 t52_1 = some res ∧ ρ = [(2, .map (some b_a2)), (3, .pointer (some (⟨b1, 0, none⟩))), (4, .pointer (some (⟨b2, 0, none⟩))), (6, .slice none 0 0), (7, .bool false), (8, .int .i64 t8_1), (9, .pointer (some (⟨b3, 0, none⟩))), (52, .bool t52_1)] ∧ Hp wb wl6 ([.mp b_a2 (encMap ekBlock ekBl m10), .mp b_a0_has (encMap ekBlock ekI m11), .mp b_a0_passed (encMap ekLink ekI m12), .blk b1 98 [.slice A_a0_bog_worth a0.bog.worth.length c_a0_bog_worth, .map (some b_a0_has), .map (some b_a0_passed)], .blk b2 92 [.int .i64 a1.column, .int .i64 a1.row], .blk b3 92 [.int .i64 (a1.column + t8_1), .int .i64 (a1.row - 1)]] ++ R))) ?_ ?_
              ·
                rintro _ wl6 ⟨t52_1, F, rfl, H⟩
                have R0 := H.ext
                unfold cut_payer_way_k5 at F
                by_cases hp6 : t52_1 = true
                ·
                  replace F := ite_y hp6 F
                  have hq6 : t52_1 = true := hp6
                  refine CW.condT rfl hq6 ?_
                  refine CW.seq fun K19 hK19 => ?_
                  obtain ⟨r2, hr2, F⟩ := bnd_some F
                  refine CW.region ?_
                  refine LW.pure rfl rfl (RV.loadA [.slice A_a0_bog_worth a0.bog.worth.length c_a0_bog_worth, .map (some b_a0_has), .map (some b_a0_passed)] Tk98 rfl (H.blk 3 rfl).cells rfl rfl) ?_
                  refine LW.pure rfl rfl (RV.loadA [.int .i64 (a1.column + t8_1), .int .i64 (a1.row - 1)] Tk92 rfl (H.blk 5 rfl).cells rfl rfl) ?_
                  refine LW.pure rfl rfl (RV.move rfl) ?_
                  replace H := H.pickR (C := [.mp b_a2 (encMap ekBlock ekBl m10), .mp b_a0_has (encMap ekBlock ekI m11), .mp b_a0_passed (encMap ekLink ekI m12), .blk b1 98 [.slice A_a0_bog_worth a0.bog.worth.length c_a0_bog_worth, .map (some b_a0_has), .map (some b_a0_passed)], .blk b2 92 [.int .i64 a1.column, .int .i64 a1.row], .blk b3 92 [.int .i64 (a1.column + t8_1), .int .i64 (a1.row - 1)]]) (C' := [.mp b_a0_has (encMap ekBlock ekI m11), .mp b_a0_passed (encMap ekLink ekI m12), .mp b_a2 (encMap ekBlock ekBl m10), .blk b1 98 [.slice A_a0_bog_worth a0.bog.worth.length c_a0_bog_worth, .map (some b_a0_has), .map (some b_a0_passed)], .blk b2 92 [.int .i64 a1.column, .int .i64 a1.row], .blk b3 92 [.int .i64 (a1.column + t8_1), .int .i64 (a1.row - 1)]]) [1, 2, 0, 3, 4, 5] (by decide) rfl
                  replace R0 := H.ext
                  refine LW.go rfl rfl (OW.call Tc100 rfl (ih (a0 := (⟨a0.bog, m11, m12⟩ : Payer)) (a1 := (⟨a1.column + t8_1, a1.row - 1⟩ : Block)) (a2 := m10) (R := [.blk b1 98 [.slice A_a0_bog_worth a0.bog.worth.length c_a0_bog_worth, .map (some b_a0_has), .map (some b_a0_passed)], .blk b2 92 [.int .i64 a1.column, .int .i64 a1.row], .blk b3 92 [.int .i64 (a1.column + t8_1), .int .i64 (a1.row - 1)]] ++ R) h_a0_bog_worth H hr2) ?_)
                  rintro _ w11 ⟨A169_0, c169_0, rfl, Hq2⟩
                  refine ⟨_, rfl, ?_⟩
                  replace H : Hp wb w11 ([.mp b_a0_has (encMap ekBlock ekI r2.2.2.1), .mp b_a0_passed (encMap ekLink ekI r2.2.2.2.1), .mp b_a2 (encMap ekBlock ekBl r2.2.2.2.2), .own A169_0 c169_0 101 4 (List.map encLink r2.1), .blk b1 98 [.slice A_a0_bog_worth a0.bog.worth.length c_a0_bog_worth, .map (some b_a0_has), .map (some b_a0_passed)], .blk b2 92 [.int .i64 a1.column, .int .i64 a1.row], .blk b3 92 [.int .i64 (a1.column + t8_1), .int .i64 (a1.row - 1)]] ++ R) := Hq2
                  replace R0 := H.ext
                  refine LW.pure rfl rfl (RV.move rfl) ?_
                  refine LW.pure rfl rfl (RV.extract rfl rfl) ?_
                  refine LW.pure rfl rfl (RV.extract rfl rfl) ?_
                  refine LW.pure rfl rfl (RV.assign rfl) ?_
                  refine LW.pure rfl rfl (RV.assign rfl) ?_
                  refine LW.nil (hK19 _ _ ?_)
                  refine CW.seq fun K20 hK20 => ?_
                  refine CW.region ?_
                  refine LW.pure rfl rfl (RV.move rfl) ?_
                  refine LW.nil (hK20 _ _ ?_)
                  by_cases hp7 : r2.2.1 = true
                  ·
                    replace F := ite_y hp7 F
                    have hq7 : r2.2.1 = true := hp7
                    refine CW.condT rfl hq7 ?_
                    refine CW.seq fun K21 hK21 => ?_
                    obtain ⟨hg7, F⟩ := gd_some F
                    refine CW.region ?_
                    refine LW.pure rfl rfl (RV.loadA [.int .i64 a1.column, .int .i64 a1.row] Tk92 rfl (H.blk 5 rfl).cells rfl rfl) ?_
                    refine LW.pure rfl rfl (RV.loadA [.int .i64 (a1.column + t8_1), .int .i64 (a1.row - 1)] Tk92 rfl (H.blk 6 rfl).cells rfl rfl) ?_
                    refine LW.pure rfl rfl (RV.build (vs := [.agg #[.int .i64 a1.column, .int .i64 a1.row], .agg #[.int .i64 (a1.column + t8_1), .int .i64 (a1.row - 1)]]) (cs := [.int .i64 a1.column, .int .i64 a1.row, .int .i64 (a1.column + t8_1), .int .i64 (a1.row - 1)]) rfl (fun _ => by kernel_rfl)) ?_
                    refine LW.go rfl rfl (OW.buildSlice (e := 101) (vs := [.agg #[.int .i64 a1.column, .int .i64 a1.row, .int .i64 (a1.column + t8_1), .int .i64 (a1.row - 1)]]) (cs := [.int .i64 a1.column, .int .i64 a1.row, .int .i64 (a1.column + t8_1), .int .i64 (a1.row - 1)]) rfl (fun _ => by kernel_rfl) fun b6 w12 N6 => ?_)
                    replace H := H.made' (k := 4) (t := 101) (enc := encLink) (l := ([(⟨a1, (⟨a1.column + t8_1, a1.row - 1⟩ : Block)⟩ : Link)] : List Link)) N6 N6.blk (fun _ => rfl) rfl (by first | decide | omega | (simp; done) | (simp; omega))
                    replace R0 := H.ext
                    refine LW.pure rfl rfl (RV.move rfl) ?_
                    refine LW.go rfl rfl (OW.appendG (enc := encLink) (l := ([(⟨a1, (⟨a1.column + t8_1, a1.row - 1⟩ : Block)⟩ : Link)] : List Link)) (xs := r2.1) Ts106 (look_slice rfl (by first | rfl | (simp; done) | (simp; omega))) rfl (H.own 0 rfl) (H.own 4 rfl).sl (fun _ => rfl) rfl rfl hg7 (by decide) fun A2 c2 w13 O3 M3 D2 => ?_)
                    replace H : Hp wb w13 ([.own A2 c2 101 4 (List.map encLink ((([(⟨a1, (⟨a1.column + t8_1, a1.row - 1⟩ : Block)⟩ : Link)] : List Link) ++ r2.1))), .mp b_a0_has (encMap ekBlock ekI r2.2.2.1), .mp b_a0_passed (encMap ekLink ekI r2.2.2.2.1), .mp b_a2 (encMap ekBlock ekBl r2.2.2.2.2), .own A169_0 c169_0 101 4 (List.map encLink r2.1), .blk b1 98 [.slice A_a0_bog_worth a0.bog.worth.length c_a0_bog_worth, .map (some b_a0_has), .map (some b_a0_passed)], .blk b2 92 [.int .i64 a1.column, .int .i64 a1.row], .blk b3 92 [.int .i64 (a1.column + t8_1), .int .i64 (a1.row - 1)]] ++ R) := H.mod 0 rfl M3 O3 D2
                    replace R0 := H.ext
                    refine LW.pure rfl rfl (RV.assign rfl) ?_
                    refine LW.pure rfl rfl (RV.assign rfl) ?_
                    refine LW.nil (hK21 _ _ ?_)
                    refine CW.ret ?_
                    obtain rfl := Option.some.inj F
                    refine ⟨_, (ResOK.two rfl rfl), ?_⟩
                    replace H := H.pickR (C := [.own A2 c2 101 4 (List.map encLink ((([(⟨a1, (⟨a1.column + t8_1, a1.row - 1⟩ : Block)⟩ : Link)] : List Link) ++ r2.1))), .mp b_a0_has (encMap ekBlock ekI r2.2.2.1), .mp b_a0_passed (encMap ekLink ekI r2.2.2.2.1), .mp b_a2 (encMap ekBlock ekBl r2.2.2.2.2), .own A169_0 c169_0 101 4 (List.map encLink r2.1), .blk b1 98 [.slice A_a0_bog_worth a0.bog.worth.length c_a0_bog_worth, .map (some b_a0_has), .map (some b_a0_passed)], .blk b2 92 [.int .i64 a1.column, .int .i64 a1.row], .blk b3 92 [.int .i64 (a1.column + t8_1), .int .i64 (a1.row - 1)]]) (C' := [.mp b_a0_has (encMap ekBlock ekI r2.2.2.1), .mp b_a0_passed (encMap ekLink ekI r2.2.2.2.1), .mp b_a2 (encMap ekBlock ekBl r2.2.2.2.2), .own A2 c2 101 4 (List.map encLink ((([(⟨a1, (⟨a1.column + t8_1, a1.row - 1⟩ : Block)⟩ : Link)] : List Link) ++ r2.1)))]) [1, 2, 3, 0] (by decide) rfl
                    replace R0 := H.ext
                    exact ⟨A2, c2, (by first | rfl | (simp; done) | (simp; omega)), H⟩
                  ·
                    replace F := ite_n hp7 F
                    have hq7 : r2.2.1 = false := raw_f hp7
                    refine CW.condF rfl hq7 ?_
                    replace H := H.pickR (C := [.mp b_a0_has (encMap ekBlock ekI r2.2.2.1), .mp b_a0_passed (encMap ekLink ekI r2.2.2.2.1), .mp b_a2 (encMap ekBlock ekBl r2.2.2.2.2), .own A169_0 c169_0 101 4 (List.map encLink r2.1), .blk b1 98 [.slice A_a0_bog_worth a0.bog.worth.length c_a0_bog_worth, .map (some b_a0_has), .map (some b_a0_passed)], .blk b2 92 [.int .i64 a1.column, .int .i64 a1.row], .blk b3 92 [.int .i64 (a1.column + t8_1), .int .i64 (a1.row - 1)]]) (C' := [.mp b_a2 (encMap ekBlock ekBl r2.2.2.2.2), .mp b_a0_has (encMap ekBlock ekI r2.2.2.1), .mp b_a0_passed (encMap ekLink ekI r2.2.2.2.1), .blk b1 98 [.slice A_a0_bog_worth a0.bog.worth.length c_a0_bog_worth, .map (some b_a0_has), .map (some b_a0_passed)], .blk b2 92 [.int .i64 a1.column, .int .i64 a1.row]]) [2, 0, 1, 4, 5] (by decide) rfl
                    replace R0 := H.ext
                    refine CW.skip (jK410 _ _ ⟨_, ?_, ⟨r2.2.2.2.2, r2.2.2.1, r2.2.2.2.1, F, rfl, H⟩⟩)
                    exact ⟨rfl, rfl, rfl, rfl, rfl, rfl, trivial⟩
                ·
                  replace F := ite_n hp6 F
                  have hq6 : t52_1 = false := raw_f hp6
                  refine CW.condF rfl hq6 ?_
                  replace H := H.pickR (C := [.mp b_a2 (encMap ekBlock ekBl m10), .mp b_a0_has (encMap ekBlock ekI m11), .mp b_a0_passed (encMap ekLink ekI m12), .blk b1 98 [.slice A_a0_bog_worth a0.bog.worth.length c_a0_bog_worth, .map (some b_a0_has), .map (some b_a0_passed)], .blk b2 92 [.int .i64 a1.column, .int .i64 a1.row], .blk b3 92 [.int .i64 (a1.column + t8_1), .int .i64 (a1.row - 1)]]) (C' := [.mp b_a2 (encMap ekBlock ekBl m10), .mp b_a0_has (encMap ekBlock ekI m11), .mp b_a0_passed (encMap ekLink ekI m12), .blk b1 98 [.slice A_a0_bog_worth a0.bog.worth.length c_a0_bog_worth, .map (some b_a0_has), .map (some b_a0_passed)], .blk b2 92 [.int .i64 a1.column, .int .i64 a1.row]]) [0, 1, 2, 3, 4] (by decide) rfl
                  replace R0 := H.ext
                  refine CW.skip (jK410 _ _ ⟨_, ?_, ⟨m10, m11, m12, F, rfl, H⟩⟩)
                  exact ⟨rfl, rfl, rfl, rfl, rfl, rfl, trivial⟩
              ·
                intro K22 hK22 jK414
                by_cases hp8 : (0 : Int) ≤ (a1.row - 1)
                ·
                  replace F := ite_y hp8 F
                  have hq8 := dec_t hp8
                  obtain ⟨hg8, F⟩ := gd_some F
                  obtain ⟨r3, hr3, F⟩ := bnd_some F
                  by_cases hp9 : r3 = true
                  ·
                    replace F := ite_y hp9 F
                    have hq9 : r3 = true := hp9
                    refine CW.region ?_
                    refine LW.pure rfl rfl (RV.fieldAddr Tf92_1 rfl) ?_
                    refine LW.pure rfl rfl (RV.load1 Tk3 rfl ((H.blk 0 rfl).cells.off 1) rfl) ?_
                    refine LW.pure rfl rfl (RV.geq rfl rfl) ?_
                    refine LW.pure rfl rfl (RV.move rfl) ?_
                    refine LW.pureYB rfl rfl rfl rfl hq8 (RV.fieldAddr Tf92_0 rfl) ?_
                    refine LW.pureYB rfl rfl rfl rfl hq8 (RV.load1 Tk3 rfl ((H.blk 0 rfl).cells.off 0) rfl) ?_
                    refine LW.pureYB rfl rfl rfl rfl hq8 (RV.fieldAddr Tf98_0 rfl) ?_
                    refine LW.pureYB rfl rfl rfl rfl hq8 (RV.fieldAddr Tf24_0 rfl) ?_
                    refine LW.pureYB rfl rfl rfl rfl hq8 (RV.load1 Tk22 rfl (((H.blk 4 rfl).cells.off 0).off 0) rfl) ?_
                    refine LW.pureYB rfl rfl rfl rfl hq8 (RV.len Ts22 rfl) ?_
                    refine LW.pureYB rfl rfl rfl rfl hq8 (RV.sub rfl rfl hg8) ?_
                    refine LW.yesB rfl rfl rfl rfl hq8 (OW.call Tc67 rfl (cut_from_ok (a0 := a1.column + t8_1) (a1 := (0 : Int)) (a2 := ((a0.bog.worth.length : Int)) - 1) hr3) ?_)
                    rintro _ w14 ⟨rfl, E1⟩
                    refine ⟨_, rfl, ?_⟩
                    replace H := H.grow E1
                    replace R0 := H.ext
                    refine LW.pure rfl rfl (RV.pickTB rfl hq8 rfl) ?_
                    refine LW.pure rfl rfl (RV.move rfl) ?_
                    refine LW.pureYB rfl rfl rfl rfl hq9 (RV.move rfl) ?_
                    refine LW.pureYB rfl rfl rfl rfl hq9 (RV.loadA [.int .i64 (a1.column + t8_1), .int .i64 (a1.row - 1)] Tk92 rfl (H.blk 0 rfl).cells rfl rfl) ?_
                    refine LW.pureYB rfl rfl rfl rfl hq9 (RV.lookupM (ek := ekBlock) (ev' := ekBl) (eq := eqBlock) (m := m10) ((⟨a1.column + t8_1, a1.row - 1⟩ : Block)) false KO92 Tm109 Tz4 rfl rfl (H.mp 1 rfl)) ?_
                    refine LW.pureYB rfl rfl rfl rfl hq9 (RV.not rfl) ?_
                    refine LW.pure rfl rfl (RV.pickTB rfl hq9 rfl) ?_
                    replace H := H.pickR (C := [.blk b3 92 [.int .i64 (a1.column + t8_1), .int .i64 (a1.row - 1)], .mp b_a2 (encMap ekBlock ekBl m10), .mp b_a0_has (encMap ekBlock ekI m11), .mp b_a0_passed (encMap ekLink ekI m12), .blk b1 98 [.slice A_a0_bog_worth a0.bog.worth.length c_a0_bog_worth, .map (some b_a0_has), .map (some b_a0_passed)], .blk b2 92 [.int .i64 a1.column, .int .i64 a1.row]]) (C' := [.mp b_a2 (encMap ekBlock ekBl m10), .mp b_a0_has (encMap ekBlock ekI m11), .mp b_a0_passed (encMap ekLink ekI m12), .blk b1 98 [.slice A_a0_bog_worth a0.bog.worth.length c_a0_bog_worth, .map (some b_a0_has), .map (some b_a0_passed)], .blk b2 92 [.int .i64 a1.column, .int .i64 a1.row], .blk b3 92 [.int .i64 (a1.column + t8_1), .int .i64 (a1.row - 1)]]) [1, 2, 3, 4, 5, 0] (by decide) rfl
                    replace R0 := H.ext
                    refine LW.nil (jK414 _ _ ⟨_, ?_, ⟨(!((mget eqBlock m10 ((⟨a1.column + t8_1, a1.row - 1⟩ : Block))).getD false)), F, rfl, H⟩⟩)
                    exact ⟨rfl, rfl, rfl, rfl, rfl, rfl, rfl, rfl, trivial⟩
                  ·
                    replace F := ite_n hp9 F
                    have hq9 : r3 = false := raw_f hp9
                    refine CW.region ?_
                    refine LW.pure rfl rfl (RV.fieldAddr Tf92_1 rfl) ?_
                    refine LW.pure rfl rfl (RV.load1 Tk3 rfl ((H.blk 0 rfl).cells.off 1) rfl) ?_
                    refine LW.pure rfl rfl (RV.geq rfl rfl) ?_
                    refine LW.pure rfl rfl (RV.move rfl) ?_
                    refine LW.pureYB rfl rfl rfl rfl hq8 (RV.fieldAddr Tf92_0 rfl) ?_
                    refine LW.pureYB rfl rfl rfl rfl hq8 (RV.load1 Tk3 rfl ((H.blk 0 rfl).cells.off 0) rfl) ?_
                    refine LW.pureYB rfl rfl rfl rfl hq8 (RV.fieldAddr Tf98_0 rfl) ?_
                    refine LW.pureYB rfl rfl rfl rfl hq8 (RV.fieldAddr Tf24_0 rfl) ?_
                    refine LW.pureYB rfl rfl rfl rfl hq8 (RV.load1 Tk22 rfl (((H.blk 4 rfl).cells.off 0).off 0) rfl) ?_
                    refine LW.pureYB rfl rfl rfl rfl hq8 (RV.len Ts22 rfl) ?_
                    refine LW.pureYB rfl rfl rfl rfl hq8 (RV.sub rfl rfl hg8) ?_
                    refine LW.yesB rfl rfl rfl rfl hq8 (OW.call Tc67 rfl (cut_from_ok (a0 := a1.column + t8_1) (a1 := (0 : Int)) (a2 := ((a0.bog.worth.length : Int)) - 1) hr3) ?_)
                    rintro _ w15 ⟨rfl, E2⟩
                    refine ⟨_, rfl, ?_⟩
                    replace H := H.grow E2
                    replace R0 := H.ext
                    refine LW.pure rfl rfl (RV.pickTB rfl hq8 rfl) ?_
                    refine LW.pure rfl rfl (RV.move rfl) ?_
                    refine LW.noB rfl rfl rfl rfl (ne_beq (v := false) hq9 rfl) ?_
                    refine LW.noB rfl rfl rfl rfl (ne_beq (v := false) hq9 rfl) ?_
                    refine LW.noB rfl rfl rfl rfl (ne_beq (v := false) hq9 rfl) ?_
                    refine LW.noB rfl rfl rfl rfl (ne_beq (v := false) hq9 rfl) ?_
                    refine LW.pure rfl rfl (RV.pickFB rfl hq9 rfl) ?_
                    replace H := H.pickR (C := [.blk b3 92 [.int .i64 (a1.column + t8_1), .int .i64 (a1.row - 1)], .mp b_a2 (encMap ekBlock ekBl m10), .mp b_a0_has (encMap ekBlock ekI m11), .mp b_a0_passed (encMap ekLink ekI m12), .blk b1 98 [.slice A_a0_bog_worth a0.bog.worth.length c_a0_bog_worth, .map (some b_a0_has), .map (some b_a0_passed)], .blk b2 92 [.int .i64 a1.column, .int .i64 a1.row]]) (C' := [.mp b_a2 (encMap ekBlock ekBl m10), .mp b_a0_has (encMap ekBlock ekI m11), .mp b_a0_passed (encMap ekLink ekI m12), .blk b1 98 [.slice A_a0_bog_worth a0.bog.worth.length c_a0_bog_worth, .map (some b_a0_has), .map (some b_a0_passed)], .blk b2 92 [.int .i64 a1.column, .int .i64 a1.row], .blk b3 92 [.int .i64 (a1.column + t8_1), .int .i64 (a1.row - 1)]]) [1, 2, 3, 4, 5, 0] (by decide) rfl
                    replace R0 := H.ext
                    refine LW.nil (jK414 _ _ ⟨_, ?_, ⟨false, F, rfl, H⟩⟩)
                    exact ⟨rfl, rfl, rfl, rfl, rfl, rfl, rfl, rfl, trivial⟩
                ·
                  replace F := ite_n hp8 F
                  have hq8 := dec_f hp8
                  refine CW.region ?_
                  refine LW.pure rfl rfl (RV.fieldAddr Tf92_1 rfl) ?_
                  refine LW.pure rfl rfl (RV.load1 Tk3 rfl ((H.blk 0 rfl).cells.off 1) rfl) ?_
                  refine LW.pure rfl rfl (RV.geq rfl rfl) ?_
                  refine LW.pure rfl rfl (RV.move rfl) ?_
                  refine LW.noB rfl rfl rfl rfl (ne_beq (v := false) hq8 rfl) ?_
                  refine LW.noB rfl rfl rfl rfl (ne_beq (v := false) hq8 rfl) ?_
                  refine LW.noB rfl rfl rfl rfl (ne_beq (v := false) hq8 rfl) ?_
                  refine LW.noB rfl rfl rfl rfl (ne_beq (v := false) hq8 rfl) ?_
                  refine LW.noB rfl rfl rfl rfl (ne_beq (v := false) hq8 rfl) ?_
                  refine LW.noB rfl rfl rfl rfl (ne_beq (v := false) hq8 rfl) ?_
                  refine LW.noB rfl rfl rfl rfl (ne_beq (v := false) hq8 rfl) ?_
                  refine LW.noB rfl rfl rfl rfl (ne_beq (v := false) hq8 rfl) ?_
                  refine LW.pure rfl rfl (RV.pickFB rfl hq8 rfl) ?_
                  refine LW.pure rfl rfl (RV.move rfl) ?_
                  refine LW.noB rfl rfl rfl rfl (ne_beq (v := false) rfl rfl) ?_
                  refine LW.noB rfl rfl rfl rfl (ne_beq (v := false) rfl rfl) ?_
                  refine LW.noB rfl rfl rfl rfl (ne_beq (v := false) rfl rfl) ?_
                  refine LW.noB rfl rfl rfl rfl (ne_beq (v := false) rfl rfl) ?_
                  refine LW.pure rfl rfl (RV.pickFB rfl rfl rfl) ?_
                  replace H := H.pickR (C := [.blk b3 92 [.int .i64 (a1.column + t8_1), .int .i64 (a1.row - 1)], .mp b_a2 (encMap ekBlock ekBl m10), .mp b_a0_has (encMap ekBlock ekI m11), .mp b_a0_passed (encMap ekLink ekI m12), .blk b1 98 [.slice A_a0_bog_worth a0.bog.worth.length c_a0_bog_worth, .map (some b_a0_has), .map (some b_a0_passed)], .blk b2 92 [.int .i64 a1.column, .int .i64 a1.row]]) (C' := [.mp b_a2 (encMap ekBlock ekBl m10), .mp b_a0_has (encMap ekBlock ekI m11), .mp b_a0_passed (encMap ekLink ekI m12), .blk b1 98 [.slice A_a0_bog_worth a0.bog.worth.length c_a0_bog_worth, .map (some b_a0_has), .map (some b_a0_passed)], .blk b2 92 [.int .i64 a1.column, .int .i64 a1.row], .blk b3 92 [.int .i64 (a1.column + t8_1), .int .i64 (a1.row - 1)]]) [1, 2, 3, 4, 5, 0] (by decide) rfl
                  replace R0 := H.ext
                  refine LW.nil (jK414 _ _ ⟨_, ?_, ⟨false, F, rfl, H⟩⟩)
                  exact ⟨rfl, rfl, rfl, rfl, rfl, rfl, rfl, rfl, trivial⟩
        ·
          replace F := ite_n hp2 F
          have hq2 := dec_f hp2
          refine CW.condF rfl hq2 ?_
          replace H := H.pickR (C := [.mp b_a2 (encMap ekBlock ekBl m10), .mp b_a0_has (encMap ekBlock ekI m11), .mp b_a0_passed (encMap ekLink ekI m12), .blk b1 98 [.slice A_a0_bog_worth a0.bog.worth.length c_a0_bog_worth, .map (some b_a0_has), .map (some b_a0_passed)], .blk b2 92 [.int .i64 a1.column, .int .i64 a1.row]]) (C' := [.mp b_a0_has (encMap ekBlock ekI m11), .mp b_a0_passed (encMap ekLink ekI m12), .mp b_a2 (encMap ekBlock ekBl m10)]) [1, 2, 0] (by decide) rfl
          replace R0 := H.ext
          refine CW.exit (jK314 _ _ ⟨_, ?_, ⟨m11, m12, m10, F, rfl, H⟩⟩)
          exact ⟨rfl, rfl, trivial⟩
theorem cut_payer_way_ok {a0 : Payer} {a1 : Block} {a2 : List (Block × Bool)} {A_a0_bog_worth : Option Addr} {c_a0_bog_worth : Nat} {b_a0_has : Nat} {b_a0_passed : Nat} {b_a2 : Nat} {wb : World} {R : List Ck} {w : World} {res : (List Link) × Bool × (List (Block × Int)) × (List (Link × Int)) × (List (Block × Bool))} (h_a0_bog_worth : Sl2 wb A_a0_bog_worth c_a0_bog_worth 1 encN a0.bog.worth) (H : Hp wb w ([.mp b_a0_has (encMap ekBlock ekI a0.has), .mp b_a0_passed (encMap ekLink ekI a0.passed), .mp b_a2 (encMap ekBlock ekBl a2)] ++ R)) (F : cut_payer_way a0 a1 a2 = some res) : Calls Try.prog 100 #[.agg #[.slice A_a0_bog_worth a0.bog.worth.length c_a0_bog_worth, .map (some b_a0_has), .map (some b_a0_passed)], .agg #[.int .i64 a1.column, .int .i64 a1.row], .map (some b_a2)] w (fun e w' => ∃ (A0 : Option Addr) (c0 : Nat), e = .returned (.tuple #[.slice A0 res.1.length c0, .bool res.2.1]) ∧ Hp wb w' ([.mp b_a0_has (encMap ekBlock ekI res.2.2.1), .mp b_a0_passed (encMap ekLink ekI res.2.2.2.1), .mp b_a2 (encMap ekBlock ekBl res.2.2.2.2), .own A0 c0 101 4 (List.map encLink res.1)] ++ R)) := cut_payer_way_F_ok FU h_a0_bog_worth H F
end Go.D4
