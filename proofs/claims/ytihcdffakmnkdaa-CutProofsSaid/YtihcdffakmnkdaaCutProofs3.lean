/- Lemmas and walks that the proof of this claim uses: D4w1, D4w2, D4w3, Tb22, D4p1. -/
import Derived.Test.YtihcdffakmnkdaaCutProofs2
set_option linter.unusedVariables false
set_option linter.unusedSimpArgs false
namespace Go.D4
open Go.Tb Go.Proofs Go.RowKit
theorem Tc92 : callable Try.prog 92 = true := by kernel_rfl
theorem Te92 (a0 : Int) (a1 : Int) (b0 : Int) (b1 : Int) (w : World) : (Op.equalIn 10000 92 (.agg #[.int .i64 a0, .int .i64 a1]) (.agg #[.int .i64 b0, .int .i64 b1])).run Try.prog w = .ok ((a0 == b0) && (a1 == b1)) w := by
  rw [run_equalIn_agg w 9999 92 _ _ (by kernel_rfl) (by kernel_rfl)]
  simp [Program.fieldsOf, Try.underlying92, Op.eqFields, go_sem]
  by_cases h0 : a0 = b0 <;> by_cases h1 : a1 = b1 <;> simp [h0, h1]
theorem Tf94_0 : tyF Try.prog 94 0 = some 0 := by kernel_rfl
theorem Tf94_1 : tyF Try.prog 94 1 = some 1 := by kernel_rfl
theorem Tf94_2 : tyF Try.prog 94 2 = some 2 := by kernel_rfl
theorem Tf94_3 : tyF Try.prog 94 3 = some 3 := by kernel_rfl
theorem Tk94 : tyK Try.prog 94 = some (true, 4) := by kernel_rfl
theorem Tm90 : tyM Try.prog 90 = some (92, 3) := by kernel_rfl
theorem Ts55 : tyS Try.prog 55 = some (94, 4, 32, [.int .i64 0, .int .i64 0, .int .i64 0, .int .i64 0]) := by kernel_rfl
theorem Tz94 : tyZ Try.prog 94 = some (.agg #[.int .i64 0, .int .i64 0, .int .i64 0, .int .i64 0]) := by kernel_rfl
theorem KO92 : KeyOK Try.prog 92 ekBlock eqBlock :=
  KeyOK.agg (d := ((Try.prog.underlying 92).getD .bool)) (fun x => #[.int .i64 x.column, .int .i64 x.row]) (by kernel_rfl) (fun _ => rfl) (fun w em x => by kernel_rfl) (fun w x y => Te92 _ _ _ _ w) (fun x y => by cases x; cases y; simp [eqBlock, and_assoc]) (fun x => by simp [Instr.sameBits])
set_option maxRecDepth 20000 in
set_option maxHeartbeats 1000000 in
theorem cut_isPass_ok {a0 : Bog} {a1 : Pass} {A_a0_worth : Option Addr} {c_a0_worth : Nat} {w : World} {res : Int} (h_a0_worth : Sl2 w A_a0_worth c_a0_worth 1 encN a0.worth) (F : cut_isPass a0 a1 = some res) : Calls Try.prog 92 #[.agg #[.slice A_a0_worth a0.worth.length c_a0_worth], .agg #[.int .i64 a1.column, .int .i64 a1.row, .int .i64 a1.to_, .int .i64 a1.amount]] w (Rt w (.int .i64 res)) := by
  refine calls_of_cw (args := [.agg #[.slice A_a0_worth a0.worth.length c_a0_worth], .agg #[.int .i64 a1.column, .int .i64 a1.row, .int .i64 a1.to_, .int .i64 a1.amount]]) Try.func92 rfl rfl rfl rfl ?_
  have H := Hp.start w
  have R0 := H.ext
  unfold cut_isPass at F
  refine CW.seq fun K1 hK1 => ?_
  refine CW.region ?_
  refine LW.go rfl rfl (OW.box rfl fun b1 w1 N1 => ?_)
  replace H := H.new N1 N1.blk
  replace R0 := H.ext
  refine LW.go rfl rfl (OW.box rfl fun b2 w2 N2 => ?_)
  replace H := H.new N2 N2.blk
  replace R0 := H.ext
  refine LW.pure rfl rfl (RV.assign rfl) ?_
  refine LW.nil (hK1 _ _ ?_)
  refine CW.seq fun K2 hK2 => ?_
  refine CW.region ?_
  refine LW.pure rfl rfl (RV.fieldAddr Tf24_0 rfl) ?_
  refine LW.pure rfl rfl (RV.load1 Tk22 rfl ((H.blk 1 rfl).cells.off 0) rfl) ?_
  refine LW.pure rfl rfl (RV.len Ts22 rfl) ?_
  refine LW.pure rfl rfl (RV.assign rfl) ?_
  refine LW.nil (hK2 _ _ ?_)
  refine CW.seq fun K3 hK3 => ?_
  refine CW.seqJ (fun ρ wl1 => (∃ (t40_1 : Bool), cut_isPass_k1 a1 t40_1 = some res ∧ ρ = [(3, .pointer (some (⟨b2, 0, none⟩))), (4, .int .i64 0), (40, .bool t40_1)] ∧ Hp w wl1 [.blk b2 94 [.int .i64 a1.column, .int .i64 a1.row, .int .i64 a1.to_, .int .i64 a1.amount]])) ?_ ?_
  ·
    rintro _ wl1 ⟨t40_1, F, rfl, H⟩
    have R0 := H.ext
    unfold cut_isPass_k1 at F
    by_cases hp1 : t40_1 = true
    ·
      replace F := ite_y hp1 F
      have hq1 : t40_1 = true := hp1
      refine CW.condT rfl hq1 ?_
      refine CW.seq fun K4 hK4 => ?_
      refine CW.region ?_
      refine LW.pure rfl rfl (RV.assign rfl) ?_
      refine LW.nil (hK4 _ _ ?_)
      refine CW.ret ?_
      obtain rfl := Option.some.inj F
      refine ⟨_, (ResOK.one rfl), ?_⟩
      refine ⟨(by first | rfl | simp), R0⟩
    ·
      replace F := ite_n hp1 F
      have hq1 : t40_1 = false := raw_f hp1
      refine CW.condF rfl hq1 ?_
      refine CW.skip (hK3 _ _ ?_)
      refine CW.seq fun K5 hK5 => ?_
      refine CW.seq fun K6 hK6 => ?_
      obtain ⟨r1, hr1, F⟩ := bnd_some F
      refine CW.region ?_
      refine LW.pure rfl rfl (RV.fieldAddr Tf94_3 rfl) ?_
      refine LW.pure rfl rfl (RV.load1 Tk3 rfl ((H.blk 0 rfl).cells.off 3) rfl) ?_
      refine LW.go rfl rfl (OW.call Tc67 rfl (cut_from_ok (a0 := a1.amount) (a1 := (1 : Int)) (a2 := (1000 : Int)) hr1) ?_)
      rintro _ w3 ⟨rfl, E1⟩
      refine ⟨_, rfl, ?_⟩
      replace H := H.grow E1
      replace R0 := H.ext
      refine LW.pure rfl rfl (RV.not rfl) ?_
      refine LW.nil (hK6 _ _ ?_)
      by_cases hp2 : r1 = true
      ·
        replace F := ite_y hp2 F
        have hq2 : r1 = true := hp2
        refine CW.condF rfl (not_f hq2) ?_
        refine CW.skip (hK5 _ _ ?_)
        refine CW.seq fun K7 hK7 => ?_
        refine CW.region ?_
        refine LW.pure rfl rfl (RV.assign rfl) ?_
        refine LW.nil (hK7 _ _ ?_)
        refine CW.ret ?_
        obtain rfl := Option.some.inj F
        refine ⟨_, (ResOK.one rfl), ?_⟩
        refine ⟨(by first | rfl | simp), R0⟩
      ·
        replace F := ite_n hp2 F
        have hq2 : r1 = false := raw_f hp2
        refine CW.condT rfl (not_t hq2) ?_
        refine CW.seq fun K8 hK8 => ?_
        refine CW.region ?_
        refine LW.pure rfl rfl (RV.assign rfl) ?_
        refine LW.nil (hK8 _ _ ?_)
        refine CW.ret ?_
        obtain rfl := Option.some.inj F
        refine ⟨_, (ResOK.one rfl), ?_⟩
        refine ⟨(by first | rfl | simp), R0⟩
  ·
    intro K9 hK9 jK18
    obtain ⟨hg1, F⟩ := gd_some F
    obtain ⟨r2, hr2, F⟩ := bnd_some F
    by_cases hp3 : r2 = true
    ·
      replace F := ite_y hp3 F
      have hq3 : r2 = true := hp3
      obtain ⟨r3, hr3, F⟩ := bnd_some F
      obtain ⟨hg2, F⟩ := gd_some F
      obtain ⟨r4, hr4, F⟩ := bnd_some F
      by_cases hp4 : r4 = true
      ·
        replace F := ite_y hp4 F
        have hq4 : r4 = true := hp4
        obtain ⟨hg3, F⟩ := gd_some F
        obtain ⟨r5, hr5, F⟩ := bnd_some F
        by_cases hp5 : r5 = true
        ·
          replace F := ite_y hp5 F
          have hq5 : r5 = true := hp5
          obtain ⟨hg4, F⟩ := gd_some F
          obtain ⟨r6, hr6, F⟩ := bnd_some F
          refine CW.draw [] (fun _ => True) (.cons 0 1 (.cons 1 1 (.cons 2 1 (.cons 3 1 (.cons 4 0 (.cons 5 1 (.cons 6 1 (.cons 7 1 (.cons 8 1 (.cons 9 1 (.cons 10 0 (.cons 11 1 (.cons 12 0 (.cons 13 1 (.cons 14 1 (.cons 15 1 (.cons 16 1 (.cons 17 1 (.cons 18 1 (.cons 19 1 (.cons 20 0 (.cons 21 1 (.cons 22 1 (.cons 23 1 (.cons 24 1 (.cons 25 1 (.cons 26 1 (.cons 27 1 (.cons 28 1 (.cons 29 0 (.cons 30 1 (.cons 31 1 .nil)))))))))))))))))))))))))))))))) mixed (by kernel_rfl) fun w4 E2 => ?_
          replace H := H.grow E2
          replace R0 := H.ext
          refine DW.fix rfl rfl rfl (fun _ EQ => RV.fieldAddr Tf94_0 rfl) ?_
          refine DW.fix rfl rfl rfl (fun _ EQ => RV.load1 Tk3 rfl (((H.grow EQ).blk 0 rfl).cells.off 0) rfl) ?_
          refine DW.fix rfl rfl rfl (fun _ EQ => RV.move rfl) ?_
          refine DW.fix rfl rfl rfl (fun _ EQ => RV.sub rfl rfl hg1) ?_
          refine DW.sole rfl rfl rfl (OW.call Tc67 rfl (cut_from_ok (a0 := a1.column) (a1 := (0 : Int)) (a2 := ((a0.worth.length : Int)) - 1) hr2) ?_)
          rintro _ w5 ⟨rfl, E3⟩
          refine ⟨_, rfl, fun _ => E3, ModX.ext E3, ?_⟩
          replace H := H.grow E3
          replace R0 := H.ext
          refine DW.fix rfl rfl rfl (fun _ EQ => RV.not rfl) ?_
          refine DW.fix rfl rfl rfl (fun _ EQ => RV.move rfl) ?_
          refine DW.fixYB rfl rfl rfl rfl rfl (not_f hq3) (fun _ EQ => RV.fieldAddr Tf94_1 rfl) ?_
          refine DW.fixYB rfl rfl rfl rfl rfl (not_f hq3) (fun _ EQ => RV.load1 Tk3 rfl (((H.grow EQ).blk 0 rfl).cells.off 1) rfl) ?_
          refine DW.fixYB rfl rfl rfl rfl rfl (not_f hq3) (fun _ EQ => RV.loadA [.slice A_a0_worth a0.worth.length c_a0_worth] Tk24 rfl ((H.grow EQ).blk 1 rfl).cells rfl rfl) ?_
          refine DW.soleYB rfl rfl rfl rfl rfl (not_f hq3) (OW.call Tc68 rfl (cut_depth_ok (a0 := a0) (h_a0_worth.ext R0) hr3) ?_)
          rintro _ w6 ⟨rfl, E4⟩
          refine ⟨_, rfl, fun _ => E4, ModX.ext E4, ?_⟩
          replace H := H.grow E4
          replace R0 := H.ext
          refine DW.fixYB rfl rfl rfl rfl rfl (not_f hq3) (fun _ EQ => RV.sub rfl rfl hg2) ?_
          refine DW.soleYB rfl rfl rfl rfl rfl (not_f hq3) (OW.call Tc67 rfl (cut_from_ok (a0 := a1.row) (a1 := (1 : Int)) (a2 := r3 - 1) hr4) ?_)
          rintro _ w7 ⟨rfl, E5⟩
          refine ⟨_, rfl, fun _ => E5, ModX.ext E5, ?_⟩
          replace H := H.grow E5
          replace R0 := H.ext
          refine DW.fixYB rfl rfl rfl rfl rfl (not_f hq3) (fun _ EQ => RV.not rfl) ?_
          refine DW.fix rfl rfl rfl (fun _ EQ => RV.pickFB rfl (not_f hq3) rfl) ?_
          refine DW.fix rfl rfl rfl (fun _ EQ => RV.move rfl) ?_
          refine DW.fixYB rfl rfl rfl rfl rfl (not_f hq4) (fun _ EQ => RV.fieldAddr Tf94_2 rfl) ?_
          refine DW.fixYB rfl rfl rfl rfl rfl (not_f hq4) (fun _ EQ => RV.load1 Tk3 rfl (((H.grow EQ).blk 0 rfl).cells.off 2) rfl) ?_
          refine DW.fixYB rfl rfl rfl rfl rfl (not_f hq4) (fun _ EQ => RV.move rfl) ?_
          refine DW.fixYB rfl rfl rfl rfl rfl (not_f hq4) (fun _ EQ => RV.sub rfl rfl hg3) ?_
          refine DW.soleYB rfl rfl rfl rfl rfl (not_f hq4) (OW.call Tc67 rfl (cut_from_ok (a0 := a1.to_) (a1 := (0 : Int)) (a2 := ((a0.worth.length : Int)) - 1) hr5) ?_)
          rintro _ w8 ⟨rfl, E6⟩
          refine ⟨_, rfl, fun _ => E6, ModX.ext E6, ?_⟩
          replace H := H.grow E6
          replace R0 := H.ext
          refine DW.fixYB rfl rfl rfl rfl rfl (not_f hq4) (fun _ EQ => RV.not rfl) ?_
          refine DW.fix rfl rfl rfl (fun _ EQ => RV.pickFB rfl (not_f hq4) rfl) ?_
          refine DW.fix rfl rfl rfl (fun _ EQ => RV.move rfl) ?_
          refine DW.fixYB rfl rfl rfl rfl rfl (not_f hq5) (fun _ EQ => RV.fieldAddr Tf94_2 rfl) ?_
          refine DW.fixYB rfl rfl rfl rfl rfl (not_f hq5) (fun _ EQ => RV.load1 Tk3 rfl (((H.grow EQ).blk 0 rfl).cells.off 2) rfl) ?_
          refine DW.fixYB rfl rfl rfl rfl rfl (not_f hq5) (fun _ EQ => RV.fieldAddr Tf94_0 rfl) ?_
          refine DW.fixYB rfl rfl rfl rfl rfl (not_f hq5) (fun _ EQ => RV.load1 Tk3 rfl (((H.grow EQ).blk 0 rfl).cells.off 0) rfl) ?_
          refine DW.fixYB rfl rfl rfl rfl rfl (not_f hq5) (fun _ EQ => RV.sub rfl rfl hg4) ?_
          refine DW.soleYB rfl rfl rfl rfl rfl (not_f hq5) (OW.call Tc67 rfl (cut_from_ok (a0 := a1.to_ - a1.column) (a1 := (-1 : Int)) (a2 := (1 : Int)) hr6) ?_)
          rintro _ w9 ⟨rfl, E7⟩
          refine ⟨_, rfl, fun _ => E7, ModX.ext E7, ?_⟩
          replace H := H.grow E7
          replace R0 := H.ext
          refine DW.fixYB rfl rfl rfl rfl rfl (not_f hq5) (fun _ EQ => RV.not rfl) ?_
          refine DW.fix rfl rfl rfl (fun _ EQ => RV.pickFB rfl (not_f hq5) rfl) ?_
          replace H := H.pick (L' := [.blk b2 94 [.int .i64 a1.column, .int .i64 a1.row, .int .i64 a1.to_, .int .i64 a1.amount]]) [0] (by decide) rfl
          replace R0 := H.ext
          refine DW.nil (jK18 _ _ ⟨_, ?_, ⟨(!r6), F, rfl, H⟩⟩)
          exact ⟨rfl, rfl, rfl, trivial⟩
        ·
          replace F := ite_n hp5 F
          have hq5 : r5 = false := raw_f hp5
          refine CW.draw [] (fun _ => True) (.cons 0 1 (.cons 1 1 (.cons 2 1 (.cons 3 1 (.cons 4 0 (.cons 5 1 (.cons 6 1 (.cons 7 1 (.cons 8 1 (.cons 9 1 (.cons 10 0 (.cons 11 1 (.cons 12 0 (.cons 13 1 (.cons 14 1 (.cons 15 1 (.cons 16 1 (.cons 17 1 (.cons 18 1 (.cons 19 1 (.cons 20 0 (.cons 21 1 (.cons 22 1 (.cons 23 1 (.cons 24 1 (.cons 25 1 (.cons 26 1 (.cons 27 1 (.cons 28 1 (.cons 29 0 (.cons 30 1 (.cons 31 1 .nil)))))))))))))))))))))))))))))))) mixed (by kernel_rfl) fun w10 E8 => ?_
          replace H := H.grow E8
          replace R0 := H.ext
          refine DW.fix rfl rfl rfl (fun _ EQ => RV.fieldAddr Tf94_0 rfl) ?_
          refine DW.fix rfl rfl rfl (fun _ EQ => RV.load1 Tk3 rfl (((H.grow EQ).blk 0 rfl).cells.off 0) rfl) ?_
          refine DW.fix rfl rfl rfl (fun _ EQ => RV.move rfl) ?_
          refine DW.fix rfl rfl rfl (fun _ EQ => RV.sub rfl rfl hg1) ?_
          refine DW.sole rfl rfl rfl (OW.call Tc67 rfl (cut_from_ok (a0 := a1.column) (a1 := (0 : Int)) (a2 := ((a0.worth.length : Int)) - 1) hr2) ?_)
          rintro _ w11 ⟨rfl, E9⟩
          refine ⟨_, rfl, fun _ => E9, ModX.ext E9, ?_⟩
          replace H := H.grow E9
          replace R0 := H.ext
          refine DW.fix rfl rfl rfl (fun _ EQ => RV.not rfl) ?_
          refine DW.fix rfl rfl rfl (fun _ EQ => RV.move rfl) ?_
          refine DW.fixYB rfl rfl rfl rfl rfl (not_f hq3) (fun _ EQ => RV.fieldAddr Tf94_1 rfl) ?_
          refine DW.fixYB rfl rfl rfl rfl rfl (not_f hq3) (fun _ EQ => RV.load1 Tk3 rfl (((H.grow EQ).blk 0 rfl).cells.off 1) rfl) ?_
          refine DW.fixYB rfl rfl rfl rfl rfl (not_f hq3) (fun _ EQ => RV.loadA [.slice A_a0_worth a0.worth.length c_a0_worth] Tk24 rfl ((H.grow EQ).blk 1 rfl).cells rfl rfl) ?_
          refine DW.soleYB rfl rfl rfl rfl rfl (not_f hq3) (OW.call Tc68 rfl (cut_depth_ok (a0 := a0) (h_a0_worth.ext R0) hr3) ?_)
          rintro _ w12 ⟨rfl, E10⟩
          refine ⟨_, rfl, fun _ => E10, ModX.ext E10, ?_⟩
          replace H := H.grow E10
          replace R0 := H.ext
          refine DW.fixYB rfl rfl rfl rfl rfl (not_f hq3) (fun _ EQ => RV.sub rfl rfl hg2) ?_
          refine DW.soleYB rfl rfl rfl rfl rfl (not_f hq3) (OW.call Tc67 rfl (cut_from_ok (a0 := a1.row) (a1 := (1 : Int)) (a2 := r3 - 1) hr4) ?_)
          rintro _ w13 ⟨rfl, E11⟩
          refine ⟨_, rfl, fun _ => E11, ModX.ext E11, ?_⟩
          replace H := H.grow E11
          replace R0 := H.ext
          refine DW.fixYB rfl rfl rfl rfl rfl (not_f hq3) (fun _ EQ => RV.not rfl) ?_
          refine DW.fix rfl rfl rfl (fun _ EQ => RV.pickFB rfl (not_f hq3) rfl) ?_
          refine DW.fix rfl rfl rfl (fun _ EQ => RV.move rfl) ?_
          refine DW.fixYB rfl rfl rfl rfl rfl (not_f hq4) (fun _ EQ => RV.fieldAddr Tf94_2 rfl) ?_
          refine DW.fixYB rfl rfl rfl rfl rfl (not_f hq4) (fun _ EQ => RV.load1 Tk3 rfl (((H.grow EQ).blk 0 rfl).cells.off 2) rfl) ?_
          refine DW.fixYB rfl rfl rfl rfl rfl (not_f hq4) (fun _ EQ => RV.move rfl) ?_
          refine DW.fixYB rfl rfl rfl rfl rfl (not_f hq4) (fun _ EQ => RV.sub rfl rfl hg3) ?_
          refine DW.soleYB rfl rfl rfl rfl rfl (not_f hq4) (OW.call Tc67 rfl (cut_from_ok (a0 := a1.to_) (a1 := (0 : Int)) (a2 := ((a0.worth.length : Int)) - 1) hr5) ?_)
          rintro _ w14 ⟨rfl, E12⟩
          refine ⟨_, rfl, fun _ => E12, ModX.ext E12, ?_⟩
          replace H := H.grow E12
          replace R0 := H.ext
          refine DW.fixYB rfl rfl rfl rfl rfl (not_f hq4) (fun _ EQ => RV.not rfl) ?_
          refine DW.fix rfl rfl rfl (fun _ EQ => RV.pickFB rfl (not_f hq4) rfl) ?_
          refine DW.fix rfl rfl rfl (fun _ EQ => RV.move rfl) ?_
          refine DW.fixNB rfl rfl rfl rfl rfl (ne_beq (v := true) (not_t hq5) rfl) ?_
          refine DW.fixNB rfl rfl rfl rfl rfl (ne_beq (v := true) (not_t hq5) rfl) ?_
          refine DW.fixNB rfl rfl rfl rfl rfl (ne_beq (v := true) (not_t hq5) rfl) ?_
          refine DW.fixNB rfl rfl rfl rfl rfl (ne_beq (v := true) (not_t hq5) rfl) ?_
          refine DW.fixNB rfl rfl rfl rfl rfl (ne_beq (v := true) (not_t hq5) rfl) ?_
          refine DW.soleNB rfl rfl rfl rfl rfl (ne_beq (v := true) (not_t hq5) rfl) ?_
          refine DW.fixNB rfl rfl rfl rfl rfl (ne_beq (v := true) (not_t hq5) rfl) ?_
          refine DW.fix rfl rfl rfl (fun _ EQ => RV.pickTB rfl (not_t hq5) rfl) ?_
          replace H := H.pick (L' := [.blk b2 94 [.int .i64 a1.column, .int .i64 a1.row, .int .i64 a1.to_, .int .i64 a1.amount]]) [0] (by decide) rfl
          replace R0 := H.ext
          refine DW.nil (jK18 _ _ ⟨_, ?_, ⟨true, F, rfl, H⟩⟩)
          exact ⟨rfl, rfl, rfl, trivial⟩
      ·
        replace F := ite_n hp4 F
        have hq4 : r4 = false := raw_f hp4
        refine CW.draw [] (fun _ => True) (.cons 0 1 (.cons 1 1 (.cons 2 1 (.cons 3 1 (.cons 4 0 (.cons 5 1 (.cons 6 1 (.cons 7 1 (.cons 8 1 (.cons 9 1 (.cons 10 0 (.cons 11 1 (.cons 12 0 (.cons 13 1 (.cons 14 1 (.cons 15 1 (.cons 16 1 (.cons 17 1 (.cons 18 1 (.cons 19 1 (.cons 20 0 (.cons 21 1 (.cons 22 1 (.cons 23 1 (.cons 24 1 (.cons 25 1 (.cons 26 1 (.cons 27 1 (.cons 28 1 (.cons 29 0 (.cons 30 1 (.cons 31 1 .nil)))))))))))))))))))))))))))))))) mixed (by kernel_rfl) fun w15 E13 => ?_
        replace H := H.grow E13
        replace R0 := H.ext
        refine DW.fix rfl rfl rfl (fun _ EQ => RV.fieldAddr Tf94_0 rfl) ?_
        refine DW.fix rfl rfl rfl (fun _ EQ => RV.load1 Tk3 rfl (((H.grow EQ).blk 0 rfl).cells.off 0) rfl) ?_
        refine DW.fix rfl rfl rfl (fun _ EQ => RV.move rfl) ?_
        refine DW.fix rfl rfl rfl (fun _ EQ => RV.sub rfl rfl hg1) ?_
        refine DW.sole rfl rfl rfl (OW.call Tc67 rfl (cut_from_ok (a0 := a1.column) (a1 := (0 : Int)) (a2 := ((a0.worth.length : Int)) - 1) hr2) ?_)
        rintro _ w16 ⟨rfl, E14⟩
        refine ⟨_, rfl, fun _ => E14, ModX.ext E14, ?_⟩
        replace H := H.grow E14
        replace R0 := H.ext
        refine DW.fix rfl rfl rfl (fun _ EQ => RV.not rfl) ?_
        refine DW.fix rfl rfl rfl (fun _ EQ => RV.move rfl) ?_
        refine DW.fixYB rfl rfl rfl rfl rfl (not_f hq3) (fun _ EQ => RV.fieldAddr Tf94_1 rfl) ?_
        refine DW.fixYB rfl rfl rfl rfl rfl (not_f hq3) (fun _ EQ => RV.load1 Tk3 rfl (((H.grow EQ).blk 0 rfl).cells.off 1) rfl) ?_
        refine DW.fixYB rfl rfl rfl rfl rfl (not_f hq3) (fun _ EQ => RV.loadA [.slice A_a0_worth a0.worth.length c_a0_worth] Tk24 rfl ((H.grow EQ).blk 1 rfl).cells rfl rfl) ?_
        refine DW.soleYB rfl rfl rfl rfl rfl (not_f hq3) (OW.call Tc68 rfl (cut_depth_ok (a0 := a0) (h_a0_worth.ext R0) hr3) ?_)
        rintro _ w17 ⟨rfl, E15⟩
        refine ⟨_, rfl, fun _ => E15, ModX.ext E15, ?_⟩
        replace H := H.grow E15
        replace R0 := H.ext
        refine DW.fixYB rfl rfl rfl rfl rfl (not_f hq3) (fun _ EQ => RV.sub rfl rfl hg2) ?_
        refine DW.soleYB rfl rfl rfl rfl rfl (not_f hq3) (OW.call Tc67 rfl (cut_from_ok (a0 := a1.row) (a1 := (1 : Int)) (a2 := r3 - 1) hr4) ?_)
        rintro _ w18 ⟨rfl, E16⟩
        refine ⟨_, rfl, fun _ => E16, ModX.ext E16, ?_⟩
        replace H := H.grow E16
        replace R0 := H.ext
        refine DW.fixYB rfl rfl rfl rfl rfl (not_f hq3) (fun _ EQ => RV.not rfl) ?_
        refine DW.fix rfl rfl rfl (fun _ EQ => RV.pickFB rfl (not_f hq3) rfl) ?_
        refine DW.fix rfl rfl rfl (fun _ EQ => RV.move rfl) ?_
        refine DW.fixNB rfl rfl rfl rfl rfl (ne_beq (v := true) (not_t hq4) rfl) ?_
        refine DW.fixNB rfl rfl rfl rfl rfl (ne_beq (v := true) (not_t hq4) rfl) ?_
        refine DW.fixNB rfl rfl rfl rfl rfl (ne_beq (v := true) (not_t hq4) rfl) ?_
        refine DW.fixNB rfl rfl rfl rfl rfl (ne_beq (v := true) (not_t hq4) rfl) ?_
        refine DW.soleNB rfl rfl rfl rfl rfl (ne_beq (v := true) (not_t hq4) rfl) ?_
        refine DW.fixNB rfl rfl rfl rfl rfl (ne_beq (v := true) (not_t hq4) rfl) ?_
        refine DW.fix rfl rfl rfl (fun _ EQ => RV.pickTB rfl (not_t hq4) rfl) ?_
        refine DW.fix rfl rfl rfl (fun _ EQ => RV.move rfl) ?_
        refine DW.fixNB rfl rfl rfl rfl rfl (ne_beq (v := true) rfl rfl) ?_
        refine DW.fixNB rfl rfl rfl rfl rfl (ne_beq (v := true) rfl rfl) ?_
        refine DW.fixNB rfl rfl rfl rfl rfl (ne_beq (v := true) rfl rfl) ?_
        refine DW.fixNB rfl rfl rfl rfl rfl (ne_beq (v := true) rfl rfl) ?_
        refine DW.fixNB rfl rfl rfl rfl rfl (ne_beq (v := true) rfl rfl) ?_
        refine DW.soleNB rfl rfl rfl rfl rfl (ne_beq (v := true) rfl rfl) ?_
        refine DW.fixNB rfl rfl rfl rfl rfl (ne_beq (v := true) rfl rfl) ?_
        refine DW.fix rfl rfl rfl (fun _ EQ => RV.pickTB rfl rfl rfl) ?_
        replace H := H.pick (L' := [.blk b2 94 [.int .i64 a1.column, .int .i64 a1.row, .int .i64 a1.to_, .int .i64 a1.amount]]) [0] (by decide) rfl
        replace R0 := H.ext
        refine DW.nil (jK18 _ _ ⟨_, ?_, ⟨true, F, rfl, H⟩⟩)
        exact ⟨rfl, rfl, rfl, trivial⟩
    ·
      replace F := ite_n hp3 F
      have hq3 : r2 = false := raw_f hp3
      refine CW.draw [] (fun _ => True) (.cons 0 1 (.cons 1 1 (.cons 2 1 (.cons 3 1 (.cons 4 0 (.cons 5 1 (.cons 6 1 (.cons 7 1 (.cons 8 1 (.cons 9 1 (.cons 10 0 (.cons 11 1 (.cons 12 0 (.cons 13 1 (.cons 14 1 (.cons 15 1 (.cons 16 1 (.cons 17 1 (.cons 18 1 (.cons 19 1 (.cons 20 0 (.cons 21 1 (.cons 22 1 (.cons 23 1 (.cons 24 1 (.cons 25 1 (.cons 26 1 (.cons 27 1 (.cons 28 1 (.cons 29 0 (.cons 30 1 (.cons 31 1 .nil)))))))))))))))))))))))))))))))) mixed (by kernel_rfl) fun w19 E17 => ?_
      replace H := H.grow E17
      replace R0 := H.ext
      refine DW.fix rfl rfl rfl (fun _ EQ => RV.fieldAddr Tf94_0 rfl) ?_
      refine DW.fix rfl rfl rfl (fun _ EQ => RV.load1 Tk3 rfl (((H.grow EQ).blk 0 rfl).cells.off 0) rfl) ?_
      refine DW.fix rfl rfl rfl (fun _ EQ => RV.move rfl) ?_
      refine DW.fix rfl rfl rfl (fun _ EQ => RV.sub rfl rfl hg1) ?_
      refine DW.sole rfl rfl rfl (OW.call Tc67 rfl (cut_from_ok (a0 := a1.column) (a1 := (0 : Int)) (a2 := ((a0.worth.length : Int)) - 1) hr2) ?_)
      rintro _ w20 ⟨rfl, E18⟩
      refine ⟨_, rfl, fun _ => E18, ModX.ext E18, ?_⟩
      replace H := H.grow E18
      replace R0 := H.ext
      refine DW.fix rfl rfl rfl (fun _ EQ => RV.not rfl) ?_
      refine DW.fix rfl rfl rfl (fun _ EQ => RV.move rfl) ?_
      refine DW.fixNB rfl rfl rfl rfl rfl (ne_beq (v := true) (not_t hq3) rfl) ?_
      refine DW.fixNB rfl rfl rfl rfl rfl (ne_beq (v := true) (not_t hq3) rfl) ?_
      refine DW.fixNB rfl rfl rfl rfl rfl (ne_beq (v := true) (not_t hq3) rfl) ?_
      refine DW.soleNB rfl rfl rfl rfl rfl (ne_beq (v := true) (not_t hq3) rfl) ?_
      refine DW.fixNB rfl rfl rfl rfl rfl (ne_beq (v := true) (not_t hq3) rfl) ?_
      refine DW.soleNB rfl rfl rfl rfl rfl (ne_beq (v := true) (not_t hq3) rfl) ?_
      refine DW.fixNB rfl rfl rfl rfl rfl (ne_beq (v := true) (not_t hq3) rfl) ?_
      refine DW.fix rfl rfl rfl (fun _ EQ => RV.pickTB rfl (not_t hq3) rfl) ?_
      refine DW.fix rfl rfl rfl (fun _ EQ => RV.move rfl) ?_
      refine DW.fixNB rfl rfl rfl rfl rfl (ne_beq (v := true) rfl rfl) ?_
      refine DW.fixNB rfl rfl rfl rfl rfl (ne_beq (v := true) rfl rfl) ?_
      refine DW.fixNB rfl rfl rfl rfl rfl (ne_beq (v := true) rfl rfl) ?_
      refine DW.fixNB rfl rfl rfl rfl rfl (ne_beq (v := true) rfl rfl) ?_
      refine DW.soleNB rfl rfl rfl rfl rfl (ne_beq (v := true) rfl rfl) ?_
      refine DW.fixNB rfl rfl rfl rfl rfl (ne_beq (v := true) rfl rfl) ?_
      refine DW.fix rfl rfl rfl (fun _ EQ => RV.pickTB rfl rfl rfl) ?_
      refine DW.fix rfl rfl rfl (fun _ EQ => RV.move rfl) ?_
      refine DW.fixNB rfl rfl rfl rfl rfl (ne_beq (v := true) rfl rfl) ?_
      refine DW.fixNB rfl rfl rfl rfl rfl (ne_beq (v := true) rfl rfl) ?_
      refine DW.fixNB rfl rfl rfl rfl rfl (ne_beq (v := true) rfl rfl) ?_
      refine DW.fixNB rfl rfl rfl rfl rfl (ne_beq (v := true) rfl rfl) ?_
      refine DW.fixNB rfl rfl rfl rfl rfl (ne_beq (v := true) rfl rfl) ?_
      refine DW.soleNB rfl rfl rfl rfl rfl (ne_beq (v := true) rfl rfl) ?_
      refine DW.fixNB rfl rfl rfl rfl rfl (ne_beq (v := true) rfl rfl) ?_
      refine DW.fix rfl rfl rfl (fun _ EQ => RV.pickTB rfl rfl rfl) ?_
      replace H := H.pick (L' := [.blk b2 94 [.int .i64 a1.column, .int .i64 a1.row, .int .i64 a1.to_, .int .i64 a1.amount]]) [0] (by decide) rfl
      replace R0 := H.ext
      refine DW.nil (jK18 _ _ ⟨_, ?_, ⟨true, F, rfl, H⟩⟩)
      exact ⟨rfl, rfl, rfl, trivial⟩
set_option maxRecDepth 20000 in
set_option maxHeartbeats 1000000 in
theorem cut_CheckProof_ok {a0 : Bog} {a1 : List Pass} {A_a0_worth : Option Addr} {c_a0_worth : Nat} {A_a1 : Option Addr} {c_a1 : Nat} {w : World} {res : Int × Int} (h_a0_worth : Sl2 w A_a0_worth c_a0_worth 1 encN a0.worth) (h_a1 : Sl w A_a1 c_a1 4 (a1.map encPass)) (F : cut_CheckProof a0 a1 = some res) : Calls Try.prog 55 #[.agg #[.slice A_a0_worth a0.worth.length c_a0_worth], .slice A_a1 a1.length c_a1] w (Rt w (.tuple #[.int .i64 res.1, .int .i64 res.2])) := by
  refine calls_of_cw (args := [.agg #[.slice A_a0_worth a0.worth.length c_a0_worth], .slice A_a1 a1.length c_a1]) Try.func55 rfl rfl rfl rfl ?_
  have H := Hp.start w
  have R0 := H.ext
  unfold cut_CheckProof at F
  refine CW.seq fun K1 hK1 => ?_
  refine CW.region ?_
  refine LW.go rfl rfl (OW.box rfl fun b1 w1 N1 => ?_)
  replace H := H.new N1 N1.blk
  replace R0 := H.ext
  refine LW.pure rfl rfl (RV.assign rfl) ?_
  refine LW.pure rfl rfl (RV.assign rfl) ?_
  refine LW.nil (hK1 _ _ ?_)
  refine CW.seq fun K2 hK2 => ?_
  refine CW.seq fun K3 hK3 => ?_
  obtain ⟨r2, hr2, F⟩ := bnd_some F
  refine CW.region ?_
  refine LW.pure rfl rfl (RV.loadA [.slice A_a0_worth a0.worth.length c_a0_worth] Tk24 rfl (H.blk 0 rfl).cells rfl rfl) ?_
  refine LW.go rfl rfl (OW.call Tc25 rfl (cut_Validate_ok (a0 := a0) (h_a0_worth.ext R0) hr2) ?_)
  rintro _ w2 ⟨rfl, E1⟩
  refine ⟨_, rfl, ?_⟩
  replace H := H.grow E1
  replace R0 := H.ext
  refine LW.pure rfl rfl (RV.assign rfl) ?_
  refine LW.nil (hK3 _ _ ?_)
  refine CW.seq fun K4 hK4 => ?_
  refine CW.region ?_
  refine LW.pure rfl rfl (RV.move rfl) ?_
  refine LW.pure rfl rfl (RV.nei rfl rfl) ?_
  refine LW.nil (hK4 _ _ ?_)
  by_cases hp1 : r2 = 0
  ·
    replace F := ite_y hp1 F
    have hq1 := dec_t hp1
    refine CW.condF rfl (not_f hq1) ?_
    refine CW.skip (hK2 _ _ ?_)
    refine CW.seq fun K5 hK5 => ?_
    refine CW.seq fun K6 hK6 => ?_
    refine CW.region ?_
    refine LW.pure rfl rfl (RV.move rfl) ?_
    refine LW.pure rfl rfl (RV.len Ts55 rfl) ?_
    refine LW.pure rfl rfl (RV.gtr rfl rfl) ?_
    refine LW.nil (hK6 _ _ ?_)
    by_cases hp2 : (60 : Int) < ((a1.length : Int))
    ·
      replace F := ite_y hp2 F
      have hq2 := dec_t hp2
      refine CW.condT rfl hq2 ?_
      refine CW.seq fun K7 hK7 => ?_
      refine CW.region ?_
      refine LW.pure rfl rfl (RV.assign rfl) ?_
      refine LW.pure rfl rfl (RV.assign rfl) ?_
      refine LW.nil (hK7 _ _ ?_)
      refine CW.ret ?_
      obtain rfl := Option.some.inj F
      refine ⟨_, (ResOK.two rfl rfl), ?_⟩
      refine ⟨(by first | rfl | simp), R0⟩
    ·
      replace F := ite_n hp2 F
      have hq2 := dec_f hp2
      refine CW.condF rfl hq2 ?_
      refine CW.skip (hK5 _ _ ?_)
      refine CW.seq fun K8 hK8 => ?_
      refine CW.region ?_
      refine LW.go rfl rfl (OW.makeMap fun b2 w3 N2 M1 => ?_)
      replace H : Hp w w3 [.mp b2 (encMap ekBlock ekI (([] : List (Block × Int)))), .blk b1 24 [.slice A_a0_worth a0.worth.length c_a0_worth]] := H.newM N2 M1
      replace R0 := H.ext
      refine LW.pure rfl rfl (RV.assign rfl) ?_
      refine LW.nil (hK8 _ _ ?_)
      refine CW.seqJ (fun ρ wl1 => (∃ (m3 : List (Block × Int)), cut_CheckProof_k3 a0 a1 m3 = some res ∧ ρ = [(1, .slice A_a1 a1.length c_a1), (2, .pointer (some (⟨b1, 0, none⟩))), (4, .int .i64 0), (5, .int .i64 0), (7, .map (some b2))] ∧ Hp w wl1 [.mp b2 (encMap ekBlock ekI m3), .blk b1 24 [.slice A_a0_worth a0.worth.length c_a0_worth]])) ?_ ?_
      ·
        rintro _ wl1 ⟨m3, F, rfl, H⟩
        have R0 := H.ext
        unfold cut_CheckProof_k3 at F
        refine CW.seqJ (fun ρ wl2 => (∃ (m1 : List (Block × Int)), cut_CheckProof_k1 m1 = some res ∧ ρ = [(4, .int .i64 0), (5, .int .i64 0), (7, .map (some b2))] ∧ Hp w wl2 [.mp b2 (encMap ekBlock ekI m1)])) ?_ ?_
        ·
          rintro _ wl2 ⟨m1, F, rfl, H⟩
          have R0 := H.ext
          unfold cut_CheckProof_k1 at F
          refine CW.seq fun K9 hK9 => ?_
          obtain ⟨⟨hml, hmb⟩, F⟩ := gd_some F
          refine CW.region ?_
          refine LW.pure rfl rfl (RV.assign rfl) ?_
          refine LW.nil (hK9 _ _ ?_)
          obtain ⟨es, clock, hes, hst, hem⟩ := H.mp 0 rfl
          refine CW.seq fun K90 hK90 => ?_
          refine CW.seq fun K91 hK91 => ?_
          refine CW.region ?_
          refine LW.pure rfl rfl (RV.move rfl) ?_
          refine LW.go rfl rfl (OW.rangeM Tm90 rfl hes fun bi w9 N9 => ?_)
          refine LW.nil (hK91 _ _ ?_)
          have hval : ∀ x ∈ es.toList, ∃ v : Int, x.val = .int .i64 v ∧ -1000000 ≤ v ∧ v ≤ 1000000 := fun x hx => by
            have : (x.key, x.val) ∈ encMap ekBlock ekI m1 := by rw [← hem]; exact List.mem_map.2 ⟨x, hx, rfl⟩
            obtain ⟨p, hp, e⟩ := List.mem_map.1 this
            have e2 : ekI p.2 = x.val := (Prod.mk.inj e).2
            exact ⟨p.2, e2.symm, hmb p hp⟩
          have htot : (es.toList.map fun e => posV e.val).sum = posSum m1 := by
            have : es.toList.map (fun e => posV e.val) = (es.toList.map fun e => (e.key, e.val)).map fun q => posV q.2 := by rw [List.map_map]; rfl
            rw [this, hem]
            unfold encMap posSum
            rw [List.map_map]; rfl
          have hmax : posSum m1 ≤ 1000000000 := posSum_le hml hmb
          have H9 := H.grow N9.ext
          have hm9 : w9.heap[b2]? = some (.map es clock) := N9.ext.block hes
          refine CW.block ?_
          refine CW.loop (fun meas ρ W => ∃ (seen : Array Nat) (c0 : Nat), meas = (leftOf es seen).size ∧ ρ = [(4, .int .i64 0), (5, .int .i64 0), (15, .int .i64 (seenF posV es.toList seen)), (88, .pointer (some ⟨bi, 0, none⟩))] ∧ clock ≤ c0 ∧ W.heap[b2]? = some (.map es clock) ∧ W.heap[bi]? = some (.mapIter (some b2) clock seen c0) ∧ Ext w W) (leftOf es #[]).size ⟨_, ?_, #[], clock, rfl, rfl, Nat.le_refl _, hm9, N9.blk, H9.ext⟩ ?_
          · exact ⟨rfl, rfl, look_int rfl (by rw [seenF_none]), rfl, trivial⟩
          rintro _ _ W ⟨seen, c0, rfl, rfl, hc0, hb, hi, hE⟩
          have hne : b2 ≠ bi := by
            intro h
            rw [h, hi] at hb
            cases hb
          refine CW.seq fun K92 hK92 => ?_
          refine CW.region ?_
          rcases run_nextM (P := Try.prog) 0 hi hb hst.1 hc0 with ⟨h0, hrun⟩ | ⟨e, he, W1, hW1, hrun⟩
          · refine LW.go rfl rfl (OW.nextM rfl hrun ?_)
            refine LW.pure rfl rfl (RV.extract rfl rfl) ?_
            refine LW.nil (hK92 _ _ ?_)
            refine CW.seq fun K93 hK93 => ?_
            refine CW.condF rfl rfl ?_
            refine CW.exit (hK90 _ _ ?_)
            refine CW.seq fun K94 hK94 => ?_
            refine CW.region ?_
            refine LW.pure rfl rfl (RV.move rfl) ?_
            refine LW.pure rfl rfl (RV.assign rfl) ?_
            refine LW.pure rfl rfl (RV.assign rfl) ?_
            refine LW.nil (hK94 _ _ ?_)
            refine CW.ret ?_
            obtain rfl := Option.some.inj F
            refine ⟨_, ResOK.two rfl rfl, ?_⟩
            refine ⟨?_, hE⟩
            rw [seenF_all posV es seen h0, htot]
          · obtain ⟨he1, he2⟩ := mem_left he
            obtain ⟨v, hv, hv1, hv2⟩ := hval e he1
            have hi1 : W1.heap[bi]? = some (.mapIter (some b2) clock seen c0) := by rcases hW1 with rfl | rfl <;> exact hi
            have hb1 : W1.heap[b2]? = some (.map es clock) := by rcases hW1 with rfl | rfl <;> exact hb
            have hE1 : Ext w W1 := by
              rcases hW1 with rfl | rfl
              · exact hE
              · exact hE.trans (Ext.drew (Ext.refl _))
            have hlt : bi < W1.heap.size := (Array.getElem?_eq_some_iff.1 hi1).1
            have hbi : w.heap.size ≤ bi := by rw [N9.at_]; exact Below.size H.ext
            generalize hW2 : ChangeMaps.setBlock W1 bi (.mapIter (some b2) clock (seen.push e.born) clock) = W2 at hrun
            have hi2 : W2.heap[bi]? = some (.mapIter (some b2) clock (seen.push e.born) clock) := by
              rw [← hW2]; simp [ChangeMaps.setBlock, hlt]
            have hb2 : W2.heap[b2]? = some (.map es clock) := by
              rw [← hW2]; simp [ChangeMaps.setBlock, Array.getElem?_setIfInBounds, Ne.symm hne, hb1]
            have hE2 : Ext w W2 := by
              rw [← hW2]
              refine ⟨hE1.os, hE1.tape, hE1.output, ?_, fun k hk => ?_⟩
              · have := Below.size hE1; simpa [ChangeMaps.setBlock] using this
              · rw [← Below.block hE1 k hk]
                simp only [ChangeMaps.setBlock]
                rw [Array.getElem?_setIfInBounds, if_neg (by omega)]
            have hent : (Instr.entry (.pointer (some ⟨bi, 0, none⟩))).run Try.prog W2 = .ok (.tuple #[e.key, .int .i64 v]) W2 := by
              rw [← hv]; exact run_entryI hi2 hb2 he1 hst.2.1
            have hpush := seenF_push posV seen e he2 es.toList hst.2.1 he1
            have hle := seenF_le posV posV_nonneg es.toList (seen.push e.born)
            have hle0 := seenF_le posV posV_nonneg es.toList seen
            have hpv : posV e.val = max 0 v := by rw [hv]; rfl
            rw [htot] at hle hle0
            rw [hpv] at hpush
            refine LW.go rfl rfl (OW.nextM rfl hrun ?_)
            refine LW.pure rfl rfl (RV.extract rfl rfl) ?_
            refine LW.nil (hK92 _ _ ?_)
            refine CW.seq fun K93 hK93 => ?_
            refine CW.condT rfl rfl ?_
            refine CW.skip (hK93 _ _ ?_)
            refine CW.block ?_
            refine CW.seq fun K95 hK95 => ?_
            refine CW.region ?_
            refine LW.pure rfl rfl (RV.entryM rfl hent) ?_
            refine LW.pure rfl rfl (RV.extract rfl rfl) ?_
            refine LW.pure rfl rfl (RV.assign rfl) ?_
            refine LW.nil (hK95 _ _ ?_)
            refine CW.region ?_
            refine LW.pure rfl rfl (RV.move rfl) ?_
            refine LW.pure rfl rfl (RV.move rfl) ?_
            refine LW.pure rfl rfl (RV.max2 rfl rfl) ?_
            refine LW.pure rfl rfl (RV.add rfl rfl (by omega)) ?_
            refine LW.pure rfl rfl (RV.assign rfl) ?_
            refine LW.nil ?_
            refine ⟨_, left_shrinks es seen e he, _, ?_, seen.push e.born, clock, rfl, rfl, Nat.le_refl _, hb2, hi2, hE2⟩
            exact ⟨rfl, rfl, look_int rfl (by omega), rfl, trivial⟩
        ·
          intro K10 hK10 jK388
          refine CW.seq fun K11 hK11 => ?_
          refine CW.region ?_
          refine LW.pure rfl rfl (RV.move rfl) ?_
          refine LW.pure rfl rfl (RV.len Ts55 rfl) ?_
          refine LW.pure rfl rfl (RV.move rfl) ?_
          refine LW.nil (hK11 _ _ ?_)
          refine CW.block ?_
          refine CW.loop (fun meas ρ wl3 => ∃ (t51_1 : Int) (m2 : List (Block × Int)), cut_CheckProof_L1 a0 a1 meas t51_1 m2 = some res ∧ ρ = [(2, .pointer (some (⟨b1, 0, none⟩))), (4, .int .i64 0), (5, .int .i64 0), (7, .map (some b2)), (49, .slice A_a1 a1.length c_a1), (50, .int .i64 ((a1.length : Int))), (51, .int .i64 t51_1)] ∧ Hp w wl3 [.mp b2 (encMap ekBlock ekI m2), .blk b1 24 [.slice A_a0_worth a0.worth.length c_a0_worth]]) FU ⟨_, ?_, ((0 : Int)), m3, F, rfl, H⟩ ?_
          · exact ⟨rfl, rfl, rfl, rfl, rfl, rfl, rfl, trivial⟩
          rintro mk1 _ wl3 ⟨t51_1, m2, F, rfl, H⟩
          have R0 := H.ext
          replace F := cut_CheckProof_L1_s F
          obtain ⟨mk1, rfl, F⟩ := F
          generalize hrec1 : cut_CheckProof_L1 a0 a1 mk1 = rec1 at F
          unfold cut_CheckProof_B1 at F
          refine CW.seq fun K12 hK12 => ?_
          refine CW.region ?_
          refine LW.pure rfl rfl (RV.lss rfl rfl) ?_
          refine LW.nil (hK12 _ _ ?_)
          refine CW.seq fun K13 hK13 => ?_
          by_cases hp3 : t51_1 < ((a1.length : Int))
          ·
            replace F := ite_y hp3 F
            have hq3 := dec_t hp3
            refine CW.condT rfl hq3 ?_
            refine CW.skip (hK13 _ _ ?_)
            refine CW.seq fun K14 hK14 => ?_
            refine CW.block ?_
            refine CW.seq fun K15 hK15 => ?_
            obtain ⟨x1, hbx1, hx1, F⟩ := ix_some F
            refine CW.region ?_
            refine LW.pure rfl rfl (RV.indexAddr Ts55 rfl rfl hbx1 (h_a1.addr_ hx1)) ?_
            refine LW.pure rfl rfl (RV.loadA [.int .i64 x1.column, .int .i64 x1.row, .int .i64 x1.to_, .int .i64 x1.amount] Tk94 rfl ((h_a1.at_ hx1).ext R0) rfl rfl) ?_
            refine LW.go rfl rfl (OW.alloc Tz94 fun b3 w4 N3 => ?_)
            replace H := H.new N3 N3.blk
            replace R0 := H.ext
            refine LW.go rfl rfl (OW.store Tk94 rfl rfl (H.blk 0 rfl) (off := 0) (vs := [.int .i64 x1.column, .int .i64 x1.row, .int .i64 x1.to_, .int .i64 x1.amount]) rfl rfl rfl rfl rfl fun w5 S1 => ?_)
            replace H : Hp w w5 [.blk b3 94 [.int .i64 x1.column, .int .i64 x1.row, .int .i64 x1.to_, .int .i64 x1.amount], .mp b2 (encMap ekBlock ekI m2), .blk b1 24 [.slice A_a0_worth a0.worth.length c_a0_worth]] := H.stored 0 rfl S1
            replace R0 := H.ext
            refine LW.nil (hK15 _ _ ?_)
            refine CW.seq fun K16 hK16 => ?_
            refine CW.seq fun K17 hK17 => ?_
            obtain ⟨r1, hr1, F⟩ := bnd_some F
            refine CW.region ?_
            refine LW.pure rfl rfl (RV.loadA [.slice A_a0_worth a0.worth.length c_a0_worth] Tk24 rfl (H.blk 2 rfl).cells rfl rfl) ?_
            refine LW.pure rfl rfl (RV.loadA [.int .i64 x1.column, .int .i64 x1.row, .int .i64 x1.to_, .int .i64 x1.amount] Tk94 rfl (H.blk 0 rfl).cells rfl rfl) ?_
            refine LW.go rfl rfl (OW.call Tc92 rfl (cut_isPass_ok (a0 := a0) (a1 := x1) (h_a0_worth.ext R0) hr1) ?_)
            rintro _ w6 ⟨rfl, E2⟩
            refine ⟨_, rfl, ?_⟩
            replace H := H.grow E2
            replace R0 := H.ext
            refine LW.pure rfl rfl (RV.assign rfl) ?_
            refine LW.nil (hK17 _ _ ?_)
            refine CW.seq fun K18 hK18 => ?_
            refine CW.region ?_
            refine LW.pure rfl rfl (RV.move rfl) ?_
            refine LW.pure rfl rfl (RV.nei rfl rfl) ?_
            refine LW.nil (hK18 _ _ ?_)
            by_cases hp4 : r1 = 0
            ·
              replace F := ite_y hp4 F
              have hq4 := dec_t hp4
              refine CW.condF rfl (not_f hq4) ?_
              refine CW.skip (hK16 _ _ ?_)
              refine CW.seqJ (fun ρ wl4 => (cut_CheckProof_k2 t51_1 m2 rec1 x1 = some res ∧ ρ = [(2, .pointer (some (⟨b1, 0, none⟩))), (4, .int .i64 0), (5, .int .i64 0), (7, .map (some b2)), (13, .pointer (some (⟨b3, 0, none⟩))), (49, .slice A_a1 a1.length c_a1), (50, .int .i64 ((a1.length : Int))), (51, .int .i64 t51_1)] ∧ Hp w wl4 [.mp b2 (encMap ekBlock ekI ((mset eqBlock m2 ((⟨x1.column, x1.row⟩ : Block)) (((mget eqBlock m2 ((⟨x1.column, x1.row⟩ : Block))).getD 0) - x1.amount)))), .blk b1 24 [.slice A_a0_worth a0.worth.length c_a0_worth], .blk b3 94 [.int .i64 x1.column, .int .i64 x1.row, .int .i64 x1.to_, .int .i64 x1.amount]])) ?_ ?_
              ·
                rintro _ wl4 ⟨F, rfl, H⟩
                have R0 := H.ext
                unfold cut_CheckProof_k2 at F
                obtain ⟨hg1, F⟩ := gd_some F
                obtain ⟨hg2, F⟩ := gd_some F
                refine CW.draw [11, 13] (fun _ => True) (.cons 0 1 (.cons 1 1 (.cons 2 1 (.cons 3 1 (.cons 4 1 (.cons 5 1 (.cons 6 1 (.cons 8 1 (.cons 9 1 (.alt 7 (.cons 10 2 (.cons 11 0 (.cons 12 2 (.cons 13 0 .nil)))) (.cons 11 0 (.cons 12 2 (.cons 7 0 (.cons 10 2 (.cons 13 0 .nil))))))))))))))) mixed (by kernel_rfl) fun w7 E3 => ?_
                replace H := H.grow E3
                replace R0 := H.ext
                refine DW.fix rfl rfl rfl (fun _ EQ => RV.move rfl) ?_
                refine DW.fix rfl rfl rfl (fun _ EQ => RV.fieldAddr Tf94_2 rfl) ?_
                refine DW.fix rfl rfl rfl (fun _ EQ => RV.load1 Tk3 rfl (((H.grow EQ).blk 2 rfl).cells.off 2) rfl) ?_
                refine DW.fix rfl rfl rfl (fun _ EQ => RV.fieldAddr Tf94_1 rfl) ?_
                refine DW.fix rfl rfl rfl (fun _ EQ => RV.load1 Tk3 rfl (((H.grow EQ).blk 2 rfl).cells.off 1) rfl) ?_
                refine DW.fix rfl rfl rfl (fun _ EQ => RV.sub rfl rfl hg1) ?_
                refine DW.fix rfl rfl rfl (fun _ EQ => RV.build (vs := [.int .i64 x1.to_, .int .i64 (x1.row - 1)]) (cs := [.int .i64 x1.to_, .int .i64 (x1.row - 1)]) rfl (fun _ => by kernel_rfl)) ?_
                refine DW.fix rfl rfl rfl (fun _ EQ => RV.fieldAddr Tf94_3 rfl) ?_
                refine DW.fix rfl rfl rfl (fun _ EQ => RV.load1 Tk3 rfl (((H.grow EQ).blk 2 rfl).cells.off 3) rfl) ?_
                refine DW.alt ?_ ?_
                ·
                  refine DW.sole rfl rfl rfl (OW.value (RV.lookupM (ek := ekBlock) (ev' := ekI) (eq := eqBlock) (m := (mset eqBlock m2 ((⟨x1.column, x1.row⟩ : Block)) (((mget eqBlock m2 ((⟨x1.column, x1.row⟩ : Block))).getD 0) - x1.amount))) ((⟨x1.to_, x1.row - 1⟩ : Block)) 0 KO92 Tm90 Tz3 rfl rfl (H.mp 0 rfl)) ⟨fun _ => Ext.refl _, ModX.refl _ _, ?_⟩)
                  refine DW.thru rfl rfl rfl (fun _ EQ => RV.add rfl rfl hg2) ?_
                  refine DW.sole rfl rfl rfl (OW.entryM (ek := ekBlock) (ev' := ekI) (eq := eqBlock) (m := (mset eqBlock m2 ((⟨x1.column, x1.row⟩ : Block)) (((mget eqBlock m2 ((⟨x1.column, x1.row⟩ : Block))).getD 0) - x1.amount))) ((⟨x1.to_, x1.row - 1⟩ : Block)) 0 KO92 Tm90 Tz3 rfl rfl (H.mp 0 rfl) fun w8 bo1 M2 En1 => ?_)
                  refine ⟨fun h => absurd h (by decide), M2.modx (fun _ _ => trivial), ?_⟩
                  replace H : Hp w w8 [eck b2 (encMap ekBlock ekI (ment eqBlock ((mset eqBlock m2 ((⟨x1.column, x1.row⟩ : Block)) (((mget eqBlock m2 ((⟨x1.column, x1.row⟩ : Block))).getD 0) - x1.amount))) ((⟨x1.to_, x1.row - 1⟩ : Block)) 0)) (ekBlock ((⟨x1.to_, x1.row - 1⟩ : Block))) bo1, .blk b1 24 [.slice A_a0_worth a0.worth.length c_a0_worth], .blk b3 94 [.int .i64 x1.column, .int .i64 x1.row, .int .i64 x1.to_, .int .i64 x1.amount]] := H.setE 0 rfl M2 En1
                  replace R0 := H.ext
                  refine DW.thru rfl rfl rfl (fun _ EQ => RV.extract rfl rfl) ?_
                  refine DW.sole rfl rfl rfl (OW.storeEnt (ek := ekBlock) (ev' := ekI) (eq := eqBlock) (m := (mset eqBlock m2 ((⟨x1.column, x1.row⟩ : Block)) (((mget eqBlock m2 ((⟨x1.column, x1.row⟩ : Block))).getD 0) - x1.amount))) ((⟨x1.to_, x1.row - 1⟩ : Block)) 0 (((mget eqBlock ((mset eqBlock m2 ((⟨x1.column, x1.row⟩ : Block)) (((mget eqBlock m2 ((⟨x1.column, x1.row⟩ : Block))).getD 0) - x1.amount))) ((⟨x1.to_, x1.row - 1⟩ : Block))).getD 0) + x1.amount) KO92 rfl rfl rfl (H.ent 0 rfl) fun w9 M3 O1 => ?_)
                  refine ⟨fun h => absurd h (by decide), M3.modx (fun _ _ => trivial), ?_⟩
                  replace H : Hp w w9 [.mp b2 (encMap ekBlock ekI ((mset eqBlock ((mset eqBlock m2 ((⟨x1.column, x1.row⟩ : Block)) (((mget eqBlock m2 ((⟨x1.column, x1.row⟩ : Block))).getD 0) - x1.amount))) ((⟨x1.to_, x1.row - 1⟩ : Block)) (((mget eqBlock ((mset eqBlock m2 ((⟨x1.column, x1.row⟩ : Block)) (((mget eqBlock m2 ((⟨x1.column, x1.row⟩ : Block))).getD 0) - x1.amount))) ((⟨x1.to_, x1.row - 1⟩ : Block))).getD 0) + x1.amount)))), .blk b1 24 [.slice A_a0_worth a0.worth.length c_a0_worth], .blk b3 94 [.int .i64 x1.column, .int .i64 x1.row, .int .i64 x1.to_, .int .i64 x1.amount]] := H.setS 0 rfl M3 O1
                  replace R0 := H.ext
                  refine DW.nil (hK14 _ _ ?_)
                  obtain ⟨hg3, F⟩ := gd_some F
                  refine CW.region ?_
                  refine LW.pure rfl rfl (RV.add rfl rfl hg3) ?_
                  refine LW.pure rfl rfl (RV.move rfl) ?_
                  refine LW.nil ?_
                  replace H := H.pick (L' := [.mp b2 (encMap ekBlock ekI ((mset eqBlock ((mset eqBlock m2 ((⟨x1.column, x1.row⟩ : Block)) (((mget eqBlock m2 ((⟨x1.column, x1.row⟩ : Block))).getD 0) - x1.amount))) ((⟨x1.to_, x1.row - 1⟩ : Block)) (((mget eqBlock ((mset eqBlock m2 ((⟨x1.column, x1.row⟩ : Block)) (((mget eqBlock m2 ((⟨x1.column, x1.row⟩ : Block))).getD 0) - x1.amount))) ((⟨x1.to_, x1.row - 1⟩ : Block))).getD 0) + x1.amount)))), .blk b1 24 [.slice A_a0_worth a0.worth.length c_a0_worth]]) [0, 1] (by decide) rfl
                  replace R0 := H.ext
                  subst hrec1
                  refine ⟨mk1, Nat.lt_succ_self _, _, ?_, (t51_1 + 1), ((mset eqBlock ((mset eqBlock m2 ((⟨x1.column, x1.row⟩ : Block)) (((mget eqBlock m2 ((⟨x1.column, x1.row⟩ : Block))).getD 0) - x1.amount))) ((⟨x1.to_, x1.row - 1⟩ : Block)) (((mget eqBlock ((mset eqBlock m2 ((⟨x1.column, x1.row⟩ : Block)) (((mget eqBlock m2 ((⟨x1.column, x1.row⟩ : Block))).getD 0) - x1.amount))) ((⟨x1.to_, x1.row - 1⟩ : Block))).getD 0) + x1.amount))), F, rfl, H⟩
                  exact ⟨rfl, rfl, rfl, rfl, rfl, rfl, rfl, trivial⟩
                ·
                  refine DW.sole rfl rfl rfl (OW.entryM (ek := ekBlock) (ev' := ekI) (eq := eqBlock) (m := (mset eqBlock m2 ((⟨x1.column, x1.row⟩ : Block)) (((mget eqBlock m2 ((⟨x1.column, x1.row⟩ : Block))).getD 0) - x1.amount))) ((⟨x1.to_, x1.row - 1⟩ : Block)) 0 KO92 Tm90 Tz3 rfl rfl (H.mp 0 rfl) fun w10 bo2 M4 En2 => ?_)
                  refine ⟨fun h => absurd h (by decide), M4.modx (fun _ _ => trivial), ?_⟩
                  replace H : Hp w w10 [eck b2 (encMap ekBlock ekI (ment eqBlock ((mset eqBlock m2 ((⟨x1.column, x1.row⟩ : Block)) (((mget eqBlock m2 ((⟨x1.column, x1.row⟩ : Block))).getD 0) - x1.amount))) ((⟨x1.to_, x1.row - 1⟩ : Block)) 0)) (ekBlock ((⟨x1.to_, x1.row - 1⟩ : Block))) bo2, .blk b1 24 [.slice A_a0_worth a0.worth.length c_a0_worth], .blk b3 94 [.int .i64 x1.column, .int .i64 x1.row, .int .i64 x1.to_, .int .i64 x1.amount]] := H.setE 0 rfl M4 En2
                  replace R0 := H.ext
                  refine DW.thru rfl rfl rfl (fun _ EQ => RV.extract rfl rfl) ?_
                  refine DW.sole rfl rfl rfl (OW.value (RV.lookupE (ek := ekBlock) (ev' := ekI) (eq := eqBlock) (m := (mset eqBlock m2 ((⟨x1.column, x1.row⟩ : Block)) (((mget eqBlock m2 ((⟨x1.column, x1.row⟩ : Block))).getD 0) - x1.amount))) ((⟨x1.to_, x1.row - 1⟩ : Block)) 0 KO92 Tm90 Tz3 rfl rfl (H.ent 0 rfl)) ⟨fun _ => Ext.refl _, ModX.refl _ _, ?_⟩)
                  refine DW.thru rfl rfl rfl (fun _ EQ => RV.add rfl rfl hg2) ?_
                  refine DW.sole rfl rfl rfl (OW.storeEnt (ek := ekBlock) (ev' := ekI) (eq := eqBlock) (m := (mset eqBlock m2 ((⟨x1.column, x1.row⟩ : Block)) (((mget eqBlock m2 ((⟨x1.column, x1.row⟩ : Block))).getD 0) - x1.amount))) ((⟨x1.to_, x1.row - 1⟩ : Block)) 0 (((mget eqBlock ((mset eqBlock m2 ((⟨x1.column, x1.row⟩ : Block)) (((mget eqBlock m2 ((⟨x1.column, x1.row⟩ : Block))).getD 0) - x1.amount))) ((⟨x1.to_, x1.row - 1⟩ : Block))).getD 0) + x1.amount) KO92 rfl rfl rfl (H.ent 0 rfl) fun w11 M5 O2 => ?_)
                  refine ⟨fun h => absurd h (by decide), M5.modx (fun _ _ => trivial), ?_⟩
                  replace H : Hp w w11 [.mp b2 (encMap ekBlock ekI ((mset eqBlock ((mset eqBlock m2 ((⟨x1.column, x1.row⟩ : Block)) (((mget eqBlock m2 ((⟨x1.column, x1.row⟩ : Block))).getD 0) - x1.amount))) ((⟨x1.to_, x1.row - 1⟩ : Block)) (((mget eqBlock ((mset eqBlock m2 ((⟨x1.column, x1.row⟩ : Block)) (((mget eqBlock m2 ((⟨x1.column, x1.row⟩ : Block))).getD 0) - x1.amount))) ((⟨x1.to_, x1.row - 1⟩ : Block))).getD 0) + x1.amount)))), .blk b1 24 [.slice A_a0_worth a0.worth.length c_a0_worth], .blk b3 94 [.int .i64 x1.column, .int .i64 x1.row, .int .i64 x1.to_, .int .i64 x1.amount]] := H.setS 0 rfl M5 O2
                  replace R0 := H.ext
                  refine DW.nil (hK14 _ _ ?_)
                  obtain ⟨hg4, F⟩ := gd_some F
                  refine CW.region ?_
                  refine LW.pure rfl rfl (RV.add rfl rfl hg4) ?_
                  refine LW.pure rfl rfl (RV.move rfl) ?_
                  refine LW.nil ?_
                  replace H := H.pick (L' := [.mp b2 (encMap ekBlock ekI ((mset eqBlock ((mset eqBlock m2 ((⟨x1.column, x1.row⟩ : Block)) (((mget eqBlock m2 ((⟨x1.column, x1.row⟩ : Block))).getD 0) - x1.amount))) ((⟨x1.to_, x1.row - 1⟩ : Block)) (((mget eqBlock ((mset eqBlock m2 ((⟨x1.column, x1.row⟩ : Block)) (((mget eqBlock m2 ((⟨x1.column, x1.row⟩ : Block))).getD 0) - x1.amount))) ((⟨x1.to_, x1.row - 1⟩ : Block))).getD 0) + x1.amount)))), .blk b1 24 [.slice A_a0_worth a0.worth.length c_a0_worth]]) [0, 1] (by decide) rfl
                  replace R0 := H.ext
                  subst hrec1
                  refine ⟨mk1, Nat.lt_succ_self _, _, ?_, (t51_1 + 1), ((mset eqBlock ((mset eqBlock m2 ((⟨x1.column, x1.row⟩ : Block)) (((mget eqBlock m2 ((⟨x1.column, x1.row⟩ : Block))).getD 0) - x1.amount))) ((⟨x1.to_, x1.row - 1⟩ : Block)) (((mget eqBlock ((mset eqBlock m2 ((⟨x1.column, x1.row⟩ : Block)) (((mget eqBlock m2 ((⟨x1.column, x1.row⟩ : Block))).getD 0) - x1.amount))) ((⟨x1.to_, x1.row - 1⟩ : Block))).getD 0) + x1.amount))), F, rfl, H⟩
                  exact ⟨rfl, rfl, rfl, rfl, rfl, rfl, rfl, trivial⟩
              ·
                intro K19 hK19 jK415
                obtain ⟨hg5, F⟩ := gd_some F
                refine CW.draw [10, 12] (fun _ => True) (.cons 0 1 (.cons 1 1 (.cons 2 1 (.cons 3 1 (.cons 4 1 (.cons 5 1 (.cons 7 1 (.cons 8 1 (.alt 6 (.cons 9 2 (.cons 10 0 (.cons 11 2 (.cons 12 0 .nil)))) (.cons 10 0 (.cons 11 2 (.cons 6 0 (.cons 9 2 (.cons 12 0 .nil)))))))))))))) mixed (by kernel_rfl) fun w12 E4 => ?_
                replace H := H.grow E4
                replace R0 := H.ext
                refine DW.fix rfl rfl rfl (fun _ EQ => RV.move rfl) ?_
                refine DW.fix rfl rfl rfl (fun _ EQ => RV.fieldAddr Tf94_0 rfl) ?_
                refine DW.fix rfl rfl rfl (fun _ EQ => RV.load1 Tk3 rfl (((H.grow EQ).blk 0 rfl).cells.off 0) rfl) ?_
                refine DW.fix rfl rfl rfl (fun _ EQ => RV.fieldAddr Tf94_1 rfl) ?_
                refine DW.fix rfl rfl rfl (fun _ EQ => RV.load1 Tk3 rfl (((H.grow EQ).blk 0 rfl).cells.off 1) rfl) ?_
                refine DW.fix rfl rfl rfl (fun _ EQ => RV.build (vs := [.int .i64 x1.column, .int .i64 x1.row]) (cs := [.int .i64 x1.column, .int .i64 x1.row]) rfl (fun _ => by kernel_rfl)) ?_
                refine DW.fix rfl rfl rfl (fun _ EQ => RV.fieldAddr Tf94_3 rfl) ?_
                refine DW.fix rfl rfl rfl (fun _ EQ => RV.load1 Tk3 rfl (((H.grow EQ).blk 0 rfl).cells.off 3) rfl) ?_
                refine DW.alt ?_ ?_
                ·
                  refine DW.sole rfl rfl rfl (OW.value (RV.lookupM (ek := ekBlock) (ev' := ekI) (eq := eqBlock) (m := m2) ((⟨x1.column, x1.row⟩ : Block)) 0 KO92 Tm90 Tz3 rfl rfl (H.mp 1 rfl)) ⟨fun _ => Ext.refl _, ModX.refl _ _, ?_⟩)
                  refine DW.thru rfl rfl rfl (fun _ EQ => RV.sub rfl rfl hg5) ?_
                  refine DW.sole rfl rfl rfl (OW.entryM (ek := ekBlock) (ev' := ekI) (eq := eqBlock) (m := m2) ((⟨x1.column, x1.row⟩ : Block)) 0 KO92 Tm90 Tz3 rfl rfl (H.mp 1 rfl) fun w13 bo3 M6 En3 => ?_)
                  refine ⟨fun h => absurd h (by decide), M6.modx (fun _ _ => trivial), ?_⟩
                  replace H : Hp w w13 [.blk b3 94 [.int .i64 x1.column, .int .i64 x1.row, .int .i64 x1.to_, .int .i64 x1.amount], eck b2 (encMap ekBlock ekI (ment eqBlock m2 ((⟨x1.column, x1.row⟩ : Block)) 0)) (ekBlock ((⟨x1.column, x1.row⟩ : Block))) bo3, .blk b1 24 [.slice A_a0_worth a0.worth.length c_a0_worth]] := H.setE 1 rfl M6 En3
                  replace R0 := H.ext
                  refine DW.thru rfl rfl rfl (fun _ EQ => RV.extract rfl rfl) ?_
                  refine DW.sole rfl rfl rfl (OW.storeEnt (ek := ekBlock) (ev' := ekI) (eq := eqBlock) (m := m2) ((⟨x1.column, x1.row⟩ : Block)) 0 (((mget eqBlock m2 ((⟨x1.column, x1.row⟩ : Block))).getD 0) - x1.amount) KO92 rfl rfl rfl (H.ent 1 rfl) fun w14 M7 O3 => ?_)
                  refine ⟨fun h => absurd h (by decide), M7.modx (fun _ _ => trivial), ?_⟩
                  replace H : Hp w w14 [.blk b3 94 [.int .i64 x1.column, .int .i64 x1.row, .int .i64 x1.to_, .int .i64 x1.amount], .mp b2 (encMap ekBlock ekI ((mset eqBlock m2 ((⟨x1.column, x1.row⟩ : Block)) (((mget eqBlock m2 ((⟨x1.column, x1.row⟩ : Block))).getD 0) - x1.amount)))), .blk b1 24 [.slice A_a0_worth a0.worth.length c_a0_worth]] := H.setS 1 rfl M7 O3
                  replace R0 := H.ext
                  replace H := H.pick (L' := [.mp b2 (encMap ekBlock ekI ((mset eqBlock m2 ((⟨x1.column, x1.row⟩ : Block)) (((mget eqBlock m2 ((⟨x1.column, x1.row⟩ : Block))).getD 0) - x1.amount)))), .blk b1 24 [.slice A_a0_worth a0.worth.length c_a0_worth], .blk b3 94 [.int .i64 x1.column, .int .i64 x1.row, .int .i64 x1.to_, .int .i64 x1.amount]]) [1, 2, 0] (by decide) rfl
                  replace R0 := H.ext
                  refine DW.nil (jK415 _ _ ⟨_, ?_, ⟨F, rfl, H⟩⟩)
                  exact ⟨rfl, rfl, rfl, rfl, rfl, rfl, rfl, rfl, trivial⟩
                ·
                  refine DW.sole rfl rfl rfl (OW.entryM (ek := ekBlock) (ev' := ekI) (eq := eqBlock) (m := m2) ((⟨x1.column, x1.row⟩ : Block)) 0 KO92 Tm90 Tz3 rfl rfl (H.mp 1 rfl) fun w15 bo4 M8 En4 => ?_)
                  refine ⟨fun h => absurd h (by decide), M8.modx (fun _ _ => trivial), ?_⟩
                  replace H : Hp w w15 [.blk b3 94 [.int .i64 x1.column, .int .i64 x1.row, .int .i64 x1.to_, .int .i64 x1.amount], eck b2 (encMap ekBlock ekI (ment eqBlock m2 ((⟨x1.column, x1.row⟩ : Block)) 0)) (ekBlock ((⟨x1.column, x1.row⟩ : Block))) bo4, .blk b1 24 [.slice A_a0_worth a0.worth.length c_a0_worth]] := H.setE 1 rfl M8 En4
                  replace R0 := H.ext
                  refine DW.thru rfl rfl rfl (fun _ EQ => RV.extract rfl rfl) ?_
                  refine DW.sole rfl rfl rfl (OW.value (RV.lookupE (ek := ekBlock) (ev' := ekI) (eq := eqBlock) (m := m2) ((⟨x1.column, x1.row⟩ : Block)) 0 KO92 Tm90 Tz3 rfl rfl (H.ent 1 rfl)) ⟨fun _ => Ext.refl _, ModX.refl _ _, ?_⟩)
                  refine DW.thru rfl rfl rfl (fun _ EQ => RV.sub rfl rfl hg5) ?_
                  refine DW.sole rfl rfl rfl (OW.storeEnt (ek := ekBlock) (ev' := ekI) (eq := eqBlock) (m := m2) ((⟨x1.column, x1.row⟩ : Block)) 0 (((mget eqBlock m2 ((⟨x1.column, x1.row⟩ : Block))).getD 0) - x1.amount) KO92 rfl rfl rfl (H.ent 1 rfl) fun w16 M9 O4 => ?_)
                  refine ⟨fun h => absurd h (by decide), M9.modx (fun _ _ => trivial), ?_⟩
                  replace H : Hp w w16 [.blk b3 94 [.int .i64 x1.column, .int .i64 x1.row, .int .i64 x1.to_, .int .i64 x1.amount], .mp b2 (encMap ekBlock ekI ((mset eqBlock m2 ((⟨x1.column, x1.row⟩ : Block)) (((mget eqBlock m2 ((⟨x1.column, x1.row⟩ : Block))).getD 0) - x1.amount)))), .blk b1 24 [.slice A_a0_worth a0.worth.length c_a0_worth]] := H.setS 1 rfl M9 O4
                  replace R0 := H.ext
                  replace H := H.pick (L' := [.mp b2 (encMap ekBlock ekI ((mset eqBlock m2 ((⟨x1.column, x1.row⟩ : Block)) (((mget eqBlock m2 ((⟨x1.column, x1.row⟩ : Block))).getD 0) - x1.amount)))), .blk b1 24 [.slice A_a0_worth a0.worth.length c_a0_worth], .blk b3 94 [.int .i64 x1.column, .int .i64 x1.row, .int .i64 x1.to_, .int .i64 x1.amount]]) [1, 2, 0] (by decide) rfl
                  replace R0 := H.ext
                  refine DW.nil (jK415 _ _ ⟨_, ?_, ⟨F, rfl, H⟩⟩)
                  exact ⟨rfl, rfl, rfl, rfl, rfl, rfl, rfl, rfl, trivial⟩
            ·
              replace F := ite_n hp4 F
              have hq4 := dec_f hp4
              refine CW.condT rfl (not_t hq4) ?_
              refine CW.seq fun K20 hK20 => ?_
              refine CW.region ?_
              refine LW.pure rfl rfl (RV.move rfl) ?_
              refine LW.pure rfl rfl (RV.assign rfl) ?_
              refine LW.pure rfl rfl (RV.assign rfl) ?_
              refine LW.nil (hK20 _ _ ?_)
              refine CW.ret ?_
              obtain rfl := Option.some.inj F
              refine ⟨_, (ResOK.two rfl rfl), ?_⟩
              refine ⟨(by first | rfl | simp), R0⟩
          ·
            replace F := ite_n hp3 F
            have hq3 := dec_f hp3
            refine CW.condF rfl hq3 ?_
            replace H := H.pick (L' := [.mp b2 (encMap ekBlock ekI m2)]) [0] (by decide) rfl
            replace R0 := H.ext
            refine CW.exit (jK388 _ _ ⟨_, ?_, ⟨m2, F, rfl, H⟩⟩)
            exact ⟨rfl, rfl, rfl, trivial⟩
      ·
        intro K21 hK21 jK417
        refine CW.seq fun K22 hK22 => ?_
        refine CW.region ?_
        refine LW.pure rfl rfl (RV.fieldAddr Tf24_0 rfl) ?_
        refine LW.pure rfl rfl (RV.load1 Tk22 rfl ((H.blk 1 rfl).cells.off 0) rfl) ?_
        refine LW.pure rfl rfl (RV.len Ts22 rfl) ?_
        refine LW.pure rfl rfl (RV.move rfl) ?_
        refine LW.nil (hK22 _ _ ?_)
        refine CW.block ?_
        refine CW.loop (fun meas ρ wl5 => ∃ (t30_1 : Int) (m6 : List (Block × Int)), cut_CheckProof_L3 a0 a1 meas t30_1 m6 = some res ∧ ρ = [(1, .slice A_a1 a1.length c_a1), (2, .pointer (some (⟨b1, 0, none⟩))), (4, .int .i64 0), (5, .int .i64 0), (7, .map (some b2)), (28, .slice A_a0_worth a0.worth.length c_a0_worth), (29, .int .i64 ((a0.worth.length : Int))), (30, .int .i64 t30_1)] ∧ Hp w wl5 [.mp b2 (encMap ekBlock ekI m6), .blk b1 24 [.slice A_a0_worth a0.worth.length c_a0_worth]]) FU ⟨_, ?_, ((0 : Int)), (([] : List (Block × Int))), F, rfl, H⟩ ?_
        · exact ⟨rfl, rfl, rfl, rfl, rfl, rfl, rfl, rfl, trivial⟩
        rintro mk2 _ wl5 ⟨t30_1, m6, F, rfl, H⟩
        have R0 := H.ext
        replace F := cut_CheckProof_L3_s F
        obtain ⟨mk2, rfl, F⟩ := F
        generalize hrec2 : cut_CheckProof_L3 a0 a1 mk2 = rec2 at F
        unfold cut_CheckProof_B3 at F
        refine CW.seq fun K23 hK23 => ?_
        refine CW.region ?_
        refine LW.pure rfl rfl (RV.lss rfl rfl) ?_
        refine LW.nil (hK23 _ _ ?_)
        refine CW.seq fun K24 hK24 => ?_
        by_cases hp5 : t30_1 < ((a0.worth.length : Int))
        ·
          replace F := ite_y hp5 F
          have hq5 := dec_t hp5
          refine CW.condT rfl hq5 ?_
          refine CW.skip (hK24 _ _ ?_)
          refine CW.seqJ (fun ρ wl6 => (∃ (m4 : List (Block × Int)), cut_CheckProof_k4 t30_1 rec2 m4 = some res ∧ ρ = [(1, .slice A_a1 a1.length c_a1), (2, .pointer (some (⟨b1, 0, none⟩))), (4, .int .i64 0), (5, .int .i64 0), (7, .map (some b2)), (28, .slice A_a0_worth a0.worth.length c_a0_worth), (29, .int .i64 ((a0.worth.length : Int))), (30, .int .i64 t30_1)] ∧ Hp w wl6 [.mp b2 (encMap ekBlock ekI m4), .blk b1 24 [.slice A_a0_worth a0.worth.length c_a0_worth]])) ?_ ?_
          ·
            rintro _ wl6 ⟨m4, F, rfl, H⟩
            have R0 := H.ext
            unfold cut_CheckProof_k4 at F
            obtain ⟨hg6, F⟩ := gd_some F
            refine CW.region ?_
            refine LW.pure rfl rfl (RV.add rfl rfl hg6) ?_
            refine LW.pure rfl rfl (RV.move rfl) ?_
            refine LW.nil ?_
            subst hrec2
            refine ⟨mk2, Nat.lt_succ_self _, _, ?_, (t30_1 + 1), m4, F, rfl, H⟩
            exact ⟨rfl, rfl, rfl, rfl, rfl, rfl, rfl, rfl, trivial⟩
          ·
            intro K25 hK25 jK497
            refine CW.block ?_
            refine CW.seq fun K26 hK26 => ?_
            obtain ⟨x2, hbx2, hx2, F⟩ := ix_some F
            refine CW.region ?_
            refine LW.pure rfl rfl (RV.move rfl) ?_
            obtain ⟨A1, c1, hC1, hS1⟩ := h_a0_worth.at_ hx2
            refine LW.pure rfl rfl (RV.indexAddr Ts22 rfl rfl hbx2 (h_a0_worth.addr hbx2)) ?_
            refine LW.pure rfl rfl (RV.load1 Tk25 rfl (hC1.ext R0) rfl) ?_
            refine LW.pure rfl rfl (RV.assign rfl) ?_
            refine LW.pure rfl rfl (RV.assign rfl) ?_
            refine LW.nil (hK26 _ _ ?_)
            refine CW.seq fun K27 hK27 => ?_
            refine CW.region ?_
            refine LW.pure rfl rfl (RV.move rfl) ?_
            refine LW.pure rfl rfl (RV.len Ts25 rfl) ?_
            refine LW.pure rfl rfl (RV.move rfl) ?_
            refine LW.nil (hK27 _ _ ?_)
            refine CW.block ?_
            refine CW.loop (fun meas ρ wl7 => ∃ (t37_1 : Int) (m5 : List (Block × Int)), cut_CheckProof_L2 t30_1 rec2 x2 meas t37_1 m5 = some res ∧ ρ = [(1, .slice A_a1 a1.length c_a1), (2, .pointer (some (⟨b1, 0, none⟩))), (4, .int .i64 0), (5, .int .i64 0), (7, .map (some b2)), (8, .int .i64 t30_1), (28, .slice A_a0_worth a0.worth.length c_a0_worth), (29, .int .i64 ((a0.worth.length : Int))), (30, .int .i64 t30_1), (35, .slice A1 x2.length c1), (36, .int .i64 ((x2.length : Int))), (37, .int .i64 t37_1)] ∧ Hp w wl7 [.mp b2 (encMap ekBlock ekI m5), .blk b1 24 [.slice A_a0_worth a0.worth.length c_a0_worth]]) FU ⟨_, ?_, ((0 : Int)), m6, F, rfl, H⟩ ?_
            · exact ⟨rfl, rfl, rfl, rfl, rfl, rfl, rfl, rfl, rfl, rfl, rfl, rfl, trivial⟩
            rintro mk3 _ wl7 ⟨t37_1, m5, F, rfl, H⟩
            have R0 := H.ext
            replace F := cut_CheckProof_L2_s F
            obtain ⟨mk3, rfl, F⟩ := F
            generalize hrec3 : cut_CheckProof_L2 t30_1 rec2 x2 mk3 = rec3 at F
            unfold cut_CheckProof_B2 at F
            refine CW.seq fun K28 hK28 => ?_
            refine CW.region ?_
            refine LW.pure rfl rfl (RV.lss rfl rfl) ?_
            refine LW.nil (hK28 _ _ ?_)
            refine CW.seq fun K29 hK29 => ?_
            by_cases hp6 : t37_1 < ((x2.length : Int))
            ·
              replace F := ite_y hp6 F
              have hq6 := dec_t hp6
              refine CW.condT rfl hq6 ?_
              refine CW.skip (hK29 _ _ ?_)
              refine CW.seq fun K30 hK30 => ?_
              refine CW.block ?_
              refine CW.seq fun K31 hK31 => ?_
              obtain ⟨x3, hbx3, hx3, F⟩ := ix_some F
              refine CW.region ?_
              refine LW.pure rfl rfl (RV.move rfl) ?_
              refine LW.pure rfl rfl (RV.indexAddr Ts25 rfl rfl hbx3 (hS1.addr_ hx3)) ?_
              refine LW.pure rfl rfl (RV.load1 Tk3 rfl ((hS1.at_ hx3).ext R0) rfl) ?_
              refine LW.pure rfl rfl (RV.assign rfl) ?_
              refine LW.pure rfl rfl (RV.assign rfl) ?_
              refine LW.nil (hK31 _ _ ?_)
              refine CW.region ?_
              refine LW.pure rfl rfl (RV.move rfl) ?_
              refine LW.pure rfl rfl (RV.move rfl) ?_
              refine LW.pure rfl rfl (RV.move rfl) ?_
              refine LW.pure rfl rfl (RV.build (vs := [.int .i64 t30_1, .int .i64 t37_1]) (cs := [.int .i64 t30_1, .int .i64 t37_1]) rfl (fun _ => by kernel_rfl)) ?_
              refine LW.pure rfl rfl (RV.move rfl) ?_
              refine LW.go rfl rfl (OW.updateM (ek := ekBlock) (ev' := ekI) (eq := eqBlock) (m := m5) ((⟨t30_1, t37_1⟩ : Block)) x3 KO92 Tm90 rfl rfl rfl (H.mp 0 rfl) fun w17 M10 O5 => ?_)
              replace H : Hp w w17 [.mp b2 (encMap ekBlock ekI ((mset eqBlock m5 ((⟨t30_1, t37_1⟩ : Block)) x3))), .blk b1 24 [.slice A_a0_worth a0.worth.length c_a0_worth]] := H.setM 0 rfl M10 O5
              replace R0 := H.ext
              refine LW.nil (hK30 _ _ ?_)
              obtain ⟨hg7, F⟩ := gd_some F
              refine CW.region ?_
              refine LW.pure rfl rfl (RV.add rfl rfl hg7) ?_
              refine LW.pure rfl rfl (RV.move rfl) ?_
              refine LW.nil ?_
              subst hrec3
              refine ⟨mk3, Nat.lt_succ_self _, _, ?_, (t37_1 + 1), ((mset eqBlock m5 ((⟨t30_1, t37_1⟩ : Block)) x3)), F, rfl, H⟩
              exact ⟨rfl, rfl, rfl, rfl, rfl, rfl, rfl, rfl, rfl, rfl, rfl, rfl, trivial⟩
            ·
              replace F := ite_n hp6 F
              have hq6 := dec_f hp6
              refine CW.condF rfl hq6 ?_
              refine CW.exit (jK497 _ _ ⟨_, ?_, ⟨m5, F, rfl, H⟩⟩)
              exact ⟨rfl, rfl, rfl, rfl, rfl, rfl, rfl, rfl, trivial⟩
        ·
          replace F := ite_n hp5 F
          have hq5 := dec_f hp5
          refine CW.condF rfl hq5 ?_
          refine CW.exit (jK417 _ _ ⟨_, ?_, ⟨m6, F, rfl, H⟩⟩)
          exact ⟨rfl, rfl, rfl, rfl, rfl, trivial⟩
  ·
    replace F := ite_n hp1 F
    have hq1 := dec_f hp1
    refine CW.condT rfl (not_t hq1) ?_
    refine CW.seq fun K32 hK32 => ?_
    refine CW.region ?_
    refine LW.pure rfl rfl (RV.move rfl) ?_
    refine LW.pure rfl rfl (RV.assign rfl) ?_
    refine LW.pure rfl rfl (RV.assign rfl) ?_
    refine LW.nil (hK32 _ _ ?_)
    refine CW.ret ?_
    obtain rfl := Option.some.inj F
    refine ⟨_, (ResOK.two rfl rfl), ?_⟩
    refine ⟨(by first | rfl | simp), R0⟩
end Go.D4

set_option linter.unusedVariables false
set_option linter.unusedSimpArgs false
namespace Go.D4
open Go.Tb Go.Proofs Go.RowKit
set_option maxRecDepth 20000 in
set_option maxHeartbeats 1000000 in
theorem ref04_CheckProof_ok {a0 : Bog} {a1 : List Pass} {A_a0_worth : Option Addr} {c_a0_worth : Nat} {A_a1 : Option Addr} {c_a1 : Nat} {w : World} {res : Int × Int} (h_a0_worth : Sl2 w A_a0_worth c_a0_worth 1 encN a0.worth) (h_a1 : Sl w A_a1 c_a1 4 (a1.map encPass)) (F : ref04_CheckProof a0 a1 = some res) : Calls Try.prog 56 #[.agg #[.slice A_a0_worth a0.worth.length c_a0_worth], .slice A_a1 a1.length c_a1] w (Rt w (.tuple #[.int .i64 res.1, .int .i64 res.2])) := by
  refine calls_of_cw (args := [.agg #[.slice A_a0_worth a0.worth.length c_a0_worth], .slice A_a1 a1.length c_a1]) Try.func56 rfl rfl rfl rfl ?_
  have H := Hp.start w
  have R0 := H.ext
  unfold ref04_CheckProof at F
  refine CW.seq fun K1 hK1 => ?_
  refine CW.region ?_
  refine LW.go rfl rfl (OW.box rfl fun b1 w1 N1 => ?_)
  replace H := H.new N1 N1.blk
  replace R0 := H.ext
  refine LW.pure rfl rfl (RV.assign rfl) ?_
  refine LW.pure rfl rfl (RV.assign rfl) ?_
  refine LW.nil (hK1 _ _ ?_)
  refine CW.seq fun K2 hK2 => ?_
  obtain ⟨r3, hr3, F⟩ := bnd_some F
  refine CW.region ?_
  refine LW.pure rfl rfl (RV.loadA [.slice A_a0_worth a0.worth.length c_a0_worth] Tk24 rfl (H.blk 0 rfl).cells rfl rfl) ?_
  refine LW.go rfl rfl (OW.call Tc26 rfl (ref04_Validate_ok (a0 := a0) (h_a0_worth.ext R0) hr3) ?_)
  rintro _ w2 ⟨rfl, E1⟩
  refine ⟨_, rfl, ?_⟩
  replace H := H.grow E1
  replace R0 := H.ext
  refine LW.pure rfl rfl (RV.assign rfl) ?_
  refine LW.nil (hK2 _ _ ?_)
  refine CW.seq fun K3 hK3 => ?_
  refine CW.seq fun K4 hK4 => ?_
  refine CW.region ?_
  refine LW.pure rfl rfl (RV.move rfl) ?_
  refine LW.pure rfl rfl (RV.nei rfl rfl) ?_
  refine LW.nil (hK4 _ _ ?_)
  by_cases hp1 : r3 = 0
  ·
    replace F := ite_y hp1 F
    have hq1 := dec_t hp1
    refine CW.condF rfl (not_f hq1) ?_
    refine CW.skip (hK3 _ _ ?_)
    refine CW.seq fun K5 hK5 => ?_
    refine CW.seq fun K6 hK6 => ?_
    refine CW.region ?_
    refine LW.pure rfl rfl (RV.move rfl) ?_
    refine LW.pure rfl rfl (RV.len Ts55 rfl) ?_
    refine LW.pure rfl rfl (RV.gtr rfl rfl) ?_
    refine LW.nil (hK6 _ _ ?_)
    by_cases hp2 : (60 : Int) < ((a1.length : Int))
    ·
      replace F := ite_y hp2 F
      have hq2 := dec_t hp2
      refine CW.condT rfl hq2 ?_
      refine CW.seq fun K7 hK7 => ?_
      refine CW.region ?_
      refine LW.pure rfl rfl (RV.assign rfl) ?_
      refine LW.pure rfl rfl (RV.assign rfl) ?_
      refine LW.nil (hK7 _ _ ?_)
      refine CW.ret ?_
      obtain rfl := Option.some.inj F
      refine ⟨_, (ResOK.two rfl rfl), ?_⟩
      refine ⟨(by first | rfl | simp), R0⟩
    ·
      replace F := ite_n hp2 F
      have hq2 := dec_f hp2
      refine CW.condF rfl hq2 ?_
      refine CW.skip (hK5 _ _ ?_)
      refine CW.seq fun K8 hK8 => ?_
      obtain ⟨r4, hr4, F⟩ := bnd_some F
      refine CW.region ?_
      refine LW.pure rfl rfl (RV.loadA [.slice A_a0_worth a0.worth.length c_a0_worth] Tk24 rfl (H.blk 0 rfl).cells rfl rfl) ?_
      refine LW.go rfl rfl (OW.call Tc43 rfl (ref04_Copy_ok (a0 := a0) (h_a0_worth.ext R0) hr4) ?_)
      rintro _ w3 ⟨A54_0_worth, c54_0_worth, hs54_0_worth, rfl, E2⟩
      refine ⟨_, rfl, ?_⟩
      replace H : Hp w w3 [.tab A54_0_worth c54_0_worth 25 hs54_0_worth 3 1 (encM encN r4.worth), .blk b1 24 [.slice A_a0_worth a0.worth.length c_a0_worth]] := H.append E2
      replace R0 := H.ext
      refine LW.go rfl rfl (OW.alloc Tz24 fun b2 w4 N2 => ?_)
      replace H := H.new N2 N2.blk
      replace R0 := H.ext
      refine LW.go rfl rfl (OW.store Tk24 rfl rfl (H.blk 0 rfl) (off := 0) (vs := [.slice A54_0_worth r4.worth.length c54_0_worth]) rfl rfl rfl rfl rfl fun w5 S1 => ?_)
      replace H : Hp w w5 [.blk b2 24 [.slice A54_0_worth r4.worth.length c54_0_worth], .tab A54_0_worth c54_0_worth 25 hs54_0_worth 3 1 (encM encN r4.worth), .blk b1 24 [.slice A_a0_worth a0.worth.length c_a0_worth]] := H.stored 0 rfl S1
      replace R0 := H.ext
      refine LW.nil (hK8 _ _ ?_)
      refine CW.seq fun K9 hK9 => ?_
      refine CW.region ?_
      refine LW.pure rfl rfl (RV.fieldAddr Tf24_0 rfl) ?_
      refine LW.pure rfl rfl (RV.load1 Tk22 rfl ((H.blk 2 rfl).cells.off 0) rfl) ?_
      refine LW.pure rfl rfl (RV.len Ts22 rfl) ?_
      refine LW.pure rfl rfl (RV.assign rfl) ?_
      refine LW.nil (hK9 _ _ ?_)
      refine CW.seqJ (fun ρ wl1 => (∃ (m1 : List (List Int)), ref04_CheckProof_k3 a0 m1 = some res ∧ ρ = [(2, .pointer (some (⟨b1, 0, none⟩))), (4, .int .i64 0), (5, .int .i64 0), (7, .pointer (some (⟨b2, 0, none⟩))), (8, .int .i64 ((a0.worth.length : Int)))] ∧ Hp w wl1 [.tab A54_0_worth c54_0_worth 25 hs54_0_worth 3 1 (encM encN m1), .blk b1 24 [.slice A_a0_worth a0.worth.length c_a0_worth], .blk b2 24 [.slice A54_0_worth m1.length c54_0_worth]])) ?_ ?_
      ·
        rintro _ wl1 ⟨m1, F, rfl, H⟩
        have R0 := H.ext
        unfold ref04_CheckProof_k3 at F
        refine CW.seq fun K10 hK10 => ?_
        refine CW.region ?_
        refine LW.pure rfl rfl (RV.assign rfl) ?_
        refine LW.nil (hK10 _ _ ?_)
        refine CW.seqJ (fun ρ wl2 => (∃ (t11_1 : Int), ref04_CheckProof_k1 t11_1 = some res ∧ ρ = [(4, .int .i64 0), (5, .int .i64 0), (11, .int .i64 t11_1)] ∧ Hp w wl2 [])) ?_ ?_
        ·
          rintro _ wl2 ⟨t11_1, F, rfl, H⟩
          have R0 := H.ext
          unfold ref04_CheckProof_k1 at F
          refine CW.seq fun K11 hK11 => ?_
          refine CW.region ?_
          refine LW.pure rfl rfl (RV.move rfl) ?_
          refine LW.pure rfl rfl (RV.assign rfl) ?_
          refine LW.pure rfl rfl (RV.assign rfl) ?_
          refine LW.nil (hK11 _ _ ?_)
          refine CW.ret ?_
          obtain rfl := Option.some.inj F
          refine ⟨_, (ResOK.two rfl rfl), ?_⟩
          refine ⟨(by first | rfl | simp), R0⟩
        ·
          intro K12 hK12 jK338
          refine CW.seq fun K13 hK13 => ?_
          refine CW.region ?_
          refine LW.pure rfl rfl (RV.assign rfl) ?_
          refine LW.nil (hK13 _ _ ?_)
          refine CW.block ?_
          refine CW.loop (fun meas ρ wl3 => ∃ (t11_4 : Int) (t12_1 : Int), ref04_CheckProof_L2 a0 m1 meas t11_4 t12_1 = some res ∧ ρ = [(2, .pointer (some (⟨b1, 0, none⟩))), (4, .int .i64 0), (5, .int .i64 0), (7, .pointer (some (⟨b2, 0, none⟩))), (8, .int .i64 ((a0.worth.length : Int))), (11, .int .i64 t11_4), (12, .int .i64 t12_1)] ∧ Hp w wl3 [.tab A54_0_worth c54_0_worth 25 hs54_0_worth 3 1 (encM encN m1), .blk b1 24 [.slice A_a0_worth a0.worth.length c_a0_worth], .blk b2 24 [.slice A54_0_worth m1.length c54_0_worth]]) FU ⟨_, ?_, ((0 : Int)), ((0 : Int)), F, rfl, H⟩ ?_
          · exact ⟨rfl, rfl, rfl, rfl, rfl, rfl, rfl, trivial⟩
          rintro mk1 _ wl3 ⟨t11_4, t12_1, F, rfl, H⟩
          have R0 := H.ext
          replace F := ref04_CheckProof_L2_s F
          obtain ⟨mk1, rfl, F⟩ := F
          generalize hrec1 : ref04_CheckProof_L2 a0 m1 mk1 = rec1 at F
          unfold ref04_CheckProof_B2 at F
          refine CW.seq fun K14 hK14 => ?_
          refine CW.seq fun K15 hK15 => ?_
          refine CW.region ?_
          refine LW.pure rfl rfl (RV.move rfl) ?_
          refine LW.pure rfl rfl (RV.move rfl) ?_
          refine LW.pure rfl rfl (RV.lss rfl rfl) ?_
          refine LW.nil (hK15 _ _ ?_)
          by_cases hp3 : t12_1 < ((a0.worth.length : Int))
          ·
            replace F := ite_y hp3 F
            have hq3 := dec_t hp3
            refine CW.condT rfl hq3 ?_
            refine CW.skip (hK14 _ _ ?_)
            refine CW.seqJ (fun ρ wl4 => (∃ (t11_2 : Int), ref04_CheckProof_k2 t12_1 rec1 t11_2 = some res ∧ ρ = [(2, .pointer (some (⟨b1, 0, none⟩))), (4, .int .i64 0), (5, .int .i64 0), (7, .pointer (some (⟨b2, 0, none⟩))), (8, .int .i64 ((a0.worth.length : Int))), (11, .int .i64 t11_2), (12, .int .i64 t12_1)] ∧ Hp w wl4 [.tab A54_0_worth c54_0_worth 25 hs54_0_worth 3 1 (encM encN m1), .blk b1 24 [.slice A_a0_worth a0.worth.length c_a0_worth], .blk b2 24 [.slice A54_0_worth m1.length c54_0_worth]])) ?_ ?_
            ·
              rintro _ wl4 ⟨t11_2, F, rfl, H⟩
              have R0 := H.ext
              unfold ref04_CheckProof_k2 at F
              obtain ⟨hg1, F⟩ := gd_some F
              refine CW.region ?_
              refine LW.pure rfl rfl (RV.move rfl) ?_
              refine LW.pure rfl rfl (RV.add rfl rfl hg1) ?_
              refine LW.pure rfl rfl (RV.assign rfl) ?_
              refine LW.nil ?_
              subst hrec1
              refine ⟨mk1, Nat.lt_succ_self _, _, ?_, t11_2, (t12_1 + 1), F, rfl, H⟩
              exact ⟨rfl, rfl, rfl, rfl, rfl, rfl, rfl, trivial⟩
            ·
              intro K16 hK16 jK398
              refine CW.block ?_
              refine CW.seq fun K17 hK17 => ?_
              refine CW.region ?_
              refine LW.pure rfl rfl (RV.assign rfl) ?_
              refine LW.nil (hK17 _ _ ?_)
              refine CW.block ?_
              refine CW.loop (fun meas ρ wl5 => ∃ (t11_3 : Int) (t13_1 : Int), ref04_CheckProof_L1 a0 m1 t12_1 rec1 meas t11_3 t13_1 = some res ∧ ρ = [(2, .pointer (some (⟨b1, 0, none⟩))), (4, .int .i64 0), (5, .int .i64 0), (7, .pointer (some (⟨b2, 0, none⟩))), (8, .int .i64 ((a0.worth.length : Int))), (11, .int .i64 t11_3), (12, .int .i64 t12_1), (13, .int .i64 t13_1)] ∧ Hp w wl5 [.tab A54_0_worth c54_0_worth 25 hs54_0_worth 3 1 (encM encN m1), .blk b1 24 [.slice A_a0_worth a0.worth.length c_a0_worth], .blk b2 24 [.slice A54_0_worth m1.length c54_0_worth]]) FU ⟨_, ?_, t11_4, ((0 : Int)), F, rfl, H⟩ ?_
              · exact ⟨rfl, rfl, rfl, rfl, rfl, rfl, rfl, rfl, trivial⟩
              rintro mk2 _ wl5 ⟨t11_3, t13_1, F, rfl, H⟩
              have R0 := H.ext
              replace F := ref04_CheckProof_L1_s F
              obtain ⟨mk2, rfl, F⟩ := F
              generalize hrec2 : ref04_CheckProof_L1 a0 m1 t12_1 rec1 mk2 = rec2 at F
              unfold ref04_CheckProof_B1 at F
              refine CW.seq fun K18 hK18 => ?_
              refine CW.seq fun K19 hK19 => ?_
              obtain ⟨r1, hr1, F⟩ := bnd_some F
              refine CW.region ?_
              refine LW.pure rfl rfl (RV.move rfl) ?_
              refine LW.pure rfl rfl (RV.loadA [.slice A_a0_worth a0.worth.length c_a0_worth] Tk24 rfl (H.blk 1 rfl).cells rfl rfl) ?_
              refine LW.go rfl rfl (OW.call Tc93 rfl (ref04_depth_ok (a0 := a0) (h_a0_worth.ext R0) hr1) ?_)
              rintro _ w6 ⟨rfl, E3⟩
              refine ⟨_, rfl, ?_⟩
              replace H := H.grow E3
              replace R0 := H.ext
              refine LW.pure rfl rfl (RV.lss rfl rfl) ?_
              refine LW.nil (hK19 _ _ ?_)
              by_cases hp4 : t13_1 < r1
              ·
                replace F := ite_y hp4 F
                have hq4 := dec_t hp4
                refine CW.condT rfl hq4 ?_
                refine CW.skip (hK18 _ _ ?_)
                refine CW.seq fun K20 hK20 => ?_
                refine CW.block ?_
                obtain ⟨x1, hbx1, hx1, F⟩ := ix_some F
                obtain ⟨x2, hbx2, hx2, F⟩ := ix_some F
                obtain ⟨hg2, F⟩ := gd_some F
                refine CW.region ?_
                refine LW.pure rfl rfl (RV.move rfl) ?_
                refine LW.pure rfl rfl (RV.fieldAddr Tf24_0 rfl) ?_
                refine LW.pure rfl rfl (RV.load1 Tk22 rfl ((H.blk 2 rfl).cells.off 0) rfl) ?_
                refine LW.pure rfl rfl (RV.move rfl) ?_
                obtain ⟨B1, e1, hh1⟩ := (H.tab 0 rfl).hd hx1
                refine LW.pure rfl rfl (RV.indexAddr Ts22 rfl rfl hbx1 ((H.tab 0 rfl).addr_ hx1)) ?_
                refine LW.pure rfl rfl (RV.load1 Tk25 rfl ((H.tab 0 rfl).cell hx1 hh1) rfl) ?_
                refine LW.pure rfl rfl (RV.move rfl) ?_
                refine LW.pure rfl rfl (RV.indexAddr Ts25 rfl rfl hbx2 (((H.tab 0 rfl).rowO hx1 hh1).sl.addr_ hx2)) ?_
                refine LW.pure rfl rfl (RV.load1 Tk3 rfl (((H.tab 0 rfl).rowO hx1 hh1).sl.at_ hx2) rfl) ?_
                refine LW.pure rfl rfl (RV.max2 rfl rfl) ?_
                refine LW.pure rfl rfl (RV.add rfl rfl hg2) ?_
                refine LW.pure rfl rfl (RV.assign rfl) ?_
                refine LW.nil (hK20 _ _ ?_)
                obtain ⟨hg3, F⟩ := gd_some F
                refine CW.region ?_
                refine LW.pure rfl rfl (RV.move rfl) ?_
                refine LW.pure rfl rfl (RV.add rfl rfl hg3) ?_
                refine LW.pure rfl rfl (RV.assign rfl) ?_
                refine LW.nil ?_
                subst hrec2
                refine ⟨mk2, Nat.lt_succ_self _, _, ?_, (t11_3 + (max 0 x2)), (t13_1 + 1), F, rfl, H⟩
                exact ⟨rfl, rfl, rfl, rfl, rfl, rfl, rfl, rfl, trivial⟩
              ·
                replace F := ite_n hp4 F
                have hq4 := dec_f hp4
                refine CW.condF rfl hq4 ?_
                refine CW.exit (jK398 _ _ ⟨_, ?_, ⟨t11_3, F, rfl, H⟩⟩)
                exact ⟨rfl, rfl, rfl, rfl, rfl, rfl, rfl, trivial⟩
          ·
            replace F := ite_n hp3 F
            have hq3 := dec_f hp3
            refine CW.condF rfl hq3 ?_
            replace H := H.pick (L' := []) [] (by decide) rfl
            replace R0 := H.ext
            refine CW.exit (jK338 _ _ ⟨_, ?_, ⟨t11_4, F, rfl, H⟩⟩)
            exact ⟨rfl, rfl, rfl, trivial⟩
      ·
        intro K21 hK21 jK409
        refine CW.seq fun K22 hK22 => ?_
        refine CW.region ?_
        refine LW.pure rfl rfl (RV.assign rfl) ?_
        refine LW.nil (hK22 _ _ ?_)
        refine CW.block ?_
        replace H := H.pick (L' := [.tab A54_0_worth c54_0_worth 25 hs54_0_worth 3 1 (encM encN r4.worth), .blk b1 24 [.slice A_a0_worth a0.worth.length c_a0_worth], .blk b2 24 [.slice A54_0_worth r4.worth.length c54_0_worth]]) [1, 2, 0] (by decide) rfl
        replace R0 := H.ext
        refine CW.loop (fun meas ρ wl6 => ∃ (t9_1 : Int) (m2 : List (List Int)), ref04_CheckProof_L3 a0 a1 meas t9_1 m2 = some res ∧ ρ = [(1, .slice A_a1 a1.length c_a1), (2, .pointer (some (⟨b1, 0, none⟩))), (4, .int .i64 0), (5, .int .i64 0), (7, .pointer (some (⟨b2, 0, none⟩))), (8, .int .i64 ((a0.worth.length : Int))), (9, .int .i64 t9_1)] ∧ Hp w wl6 [.tab A54_0_worth c54_0_worth 25 hs54_0_worth 3 1 (encM encN m2), .blk b1 24 [.slice A_a0_worth a0.worth.length c_a0_worth], .blk b2 24 [.slice A54_0_worth m2.length c54_0_worth]]) FU ⟨_, ?_, ((0 : Int)), r4.worth, F, rfl, H⟩ ?_
        · exact ⟨rfl, rfl, rfl, rfl, rfl, rfl, rfl, trivial⟩
        rintro mk3 _ wl6 ⟨t9_1, m2, F, rfl, H⟩
        have R0 := H.ext
        replace F := ref04_CheckProof_L3_s F
        obtain ⟨mk3, rfl, F⟩ := F
        generalize hrec3 : ref04_CheckProof_L3 a0 a1 mk3 = rec3 at F
        unfold ref04_CheckProof_B3 at F
        refine CW.seq fun K23 hK23 => ?_
        refine CW.seq fun K24 hK24 => ?_
        refine CW.region ?_
        refine LW.pure rfl rfl (RV.move rfl) ?_
        refine LW.pure rfl rfl (RV.move rfl) ?_
        refine LW.pure rfl rfl (RV.len Ts55 rfl) ?_
        refine LW.pure rfl rfl (RV.lss rfl rfl) ?_
        refine LW.nil (hK24 _ _ ?_)
        by_cases hp5 : t9_1 < ((a1.length : Int))
        ·
          replace F := ite_y hp5 F
          have hq5 := dec_t hp5
          refine CW.condT rfl hq5 ?_
          refine CW.skip (hK23 _ _ ?_)
          refine CW.seq fun K25 hK25 => ?_
          refine CW.block ?_
          refine CW.seq fun K26 hK26 => ?_
          obtain ⟨x3, hbx3, hx3, F⟩ := ix_some F
          refine CW.region ?_
          refine LW.pure rfl rfl (RV.move rfl) ?_
          refine LW.pure rfl rfl (RV.move rfl) ?_
          refine LW.pure rfl rfl (RV.indexAddr Ts55 rfl rfl hbx3 (h_a1.addr_ hx3)) ?_
          refine LW.pure rfl rfl (RV.loadA [.int .i64 x3.column, .int .i64 x3.row, .int .i64 x3.to_, .int .i64 x3.amount] Tk94 rfl ((h_a1.at_ hx3).ext R0) rfl rfl) ?_
          refine LW.go rfl rfl (OW.alloc Tz94 fun b3 w7 N3 => ?_)
          replace H := H.new N3 N3.blk
          replace R0 := H.ext
          refine LW.go rfl rfl (OW.store Tk94 rfl rfl (H.blk 0 rfl) (off := 0) (vs := [.int .i64 x3.column, .int .i64 x3.row, .int .i64 x3.to_, .int .i64 x3.amount]) rfl rfl rfl rfl rfl fun w8 S2 => ?_)
          replace H : Hp w w8 [.blk b3 94 [.int .i64 x3.column, .int .i64 x3.row, .int .i64 x3.to_, .int .i64 x3.amount], .tab A54_0_worth c54_0_worth 25 hs54_0_worth 3 1 (encM encN m2), .blk b1 24 [.slice A_a0_worth a0.worth.length c_a0_worth], .blk b2 24 [.slice A54_0_worth m2.length c54_0_worth]] := H.stored 0 rfl S2
          replace R0 := H.ext
          refine LW.nil (hK26 _ _ ?_)
          refine CW.seq fun K27 hK27 => ?_
          refine CW.seqJ (fun ρ wl7 => (∃ (t77_1 : Bool), ref04_CheckProof_k5 t9_1 m2 rec3 x3 t77_1 = some res ∧ ρ = [(1, .slice A_a1 a1.length c_a1), (2, .pointer (some (⟨b1, 0, none⟩))), (4, .int .i64 0), (5, .int .i64 0), (7, .pointer (some (⟨b2, 0, none⟩))), (8, .int .i64 ((a0.worth.length : Int))), (9, .int .i64 t9_1), (10, .pointer (some (⟨b3, 0, none⟩))), (77, .bool t77_1)] ∧ Hp w wl7 [.tab A54_0_worth c54_0_worth 25 hs54_0_worth 3 1 (encM encN m2), .blk b1 24 [.slice A_a0_worth a0.worth.length c_a0_worth], .blk b2 24 [.slice A54_0_worth m2.length c54_0_worth], .blk b3 94 [.int .i64 x3.column, .int .i64 x3.row, .int .i64 x3.to_, .int .i64 x3.amount]])) ?_ ?_
          ·
            rintro _ wl7 ⟨t77_1, F, rfl, H⟩
            have R0 := H.ext
            unfold ref04_CheckProof_k5 at F
            by_cases hp6 : t77_1 = true
            ·
              replace F := ite_y hp6 F
              have hq6 : t77_1 = true := hp6
              refine CW.condT rfl hq6 ?_
              refine CW.seq fun K28 hK28 => ?_
              refine CW.region ?_
              refine LW.pure rfl rfl (RV.assign rfl) ?_
              refine LW.pure rfl rfl (RV.assign rfl) ?_
              refine LW.nil (hK28 _ _ ?_)
              refine CW.ret ?_
              obtain rfl := Option.some.inj F
              refine ⟨_, (ResOK.two rfl rfl), ?_⟩
              refine ⟨(by first | rfl | simp), R0⟩
            ·
              replace F := ite_n hp6 F
              have hq6 : t77_1 = false := raw_f hp6
              refine CW.condF rfl hq6 ?_
              refine CW.skip (hK27 _ _ ?_)
              refine CW.seq fun K29 hK29 => ?_
              refine CW.seqJ (fun ρ wl8 => (∃ (t85_1 : Bool), ref04_CheckProof_k4 t9_1 m2 rec3 x3 t85_1 = some res ∧ ρ = [(1, .slice A_a1 a1.length c_a1), (2, .pointer (some (⟨b1, 0, none⟩))), (4, .int .i64 0), (5, .int .i64 0), (7, .pointer (some (⟨b2, 0, none⟩))), (8, .int .i64 ((a0.worth.length : Int))), (9, .int .i64 t9_1), (10, .pointer (some (⟨b3, 0, none⟩))), (85, .bool t85_1)] ∧ Hp w wl8 [.tab A54_0_worth c54_0_worth 25 hs54_0_worth 3 1 (encM encN m2), .blk b1 24 [.slice A_a0_worth a0.worth.length c_a0_worth], .blk b2 24 [.slice A54_0_worth m2.length c54_0_worth], .blk b3 94 [.int .i64 x3.column, .int .i64 x3.row, .int .i64 x3.to_, .int .i64 x3.amount]])) ?_ ?_
              ·
                rintro _ wl8 ⟨t85_1, F, rfl, H⟩
                have R0 := H.ext
                unfold ref04_CheckProof_k4 at F
                by_cases hp7 : t85_1 = true
                ·
                  replace F := ite_y hp7 F
                  have hq7 : t85_1 = true := hp7
                  refine CW.condT rfl hq7 ?_
                  refine CW.seq fun K30 hK30 => ?_
                  refine CW.region ?_
                  refine LW.pure rfl rfl (RV.assign rfl) ?_
                  refine LW.pure rfl rfl (RV.assign rfl) ?_
                  refine LW.nil (hK30 _ _ ?_)
                  refine CW.ret ?_
                  obtain rfl := Option.some.inj F
                  refine ⟨_, (ResOK.two rfl rfl), ?_⟩
                  refine ⟨(by first | rfl | simp), R0⟩
                ·
                  replace F := ite_n hp7 F
                  have hq7 : t85_1 = false := raw_f hp7
                  refine CW.condF rfl hq7 ?_
                  refine CW.skip (hK29 _ _ ?_)
                  refine CW.seq fun K31 hK31 => ?_
                  obtain ⟨x4, hbx4, hx4, F⟩ := ix_some F
                  obtain ⟨x5, hbx5, hx5, F⟩ := ix_some F
                  obtain ⟨hg4, F⟩ := gd_some F
                  obtain ⟨x6, hbx6, hx6, F⟩ := ix_some F
                  refine CW.draw [14] (fun _ => True) (.cons 0 1 (.cons 1 1 (.cons 2 1 (.cons 3 1 (.cons 4 1 (.cons 5 1 (.cons 6 1 (.cons 7 1 (.cons 8 1 (.cons 9 1 (.cons 10 1 (.cons 11 1 (.cons 12 1 (.cons 13 1 (.cons 14 0 .nil))))))))))))))) mixed (by kernel_rfl) fun w9 E4 => ?_
                  replace H := H.grow E4
                  replace R0 := H.ext
                  refine DW.fix rfl rfl rfl (fun _ EQ => RV.fieldAddr Tf24_0 rfl) ?_
                  refine DW.fix rfl rfl rfl (fun _ EQ => RV.load1 Tk22 rfl (((H.grow EQ).blk 2 rfl).cells.off 0) rfl) ?_
                  refine DW.fix rfl rfl rfl (fun _ EQ => RV.fieldAddr Tf94_0 rfl) ?_
                  refine DW.fix rfl rfl rfl (fun _ EQ => RV.load1 Tk3 rfl (((H.grow EQ).blk 3 rfl).cells.off 0) rfl) ?_
                  obtain ⟨B2, e2, hh2⟩ := (H.tab 0 rfl).hd hx4
                  refine DW.fix rfl rfl rfl (fun _ EQ => RV.indexAddr Ts22 rfl rfl hbx4 ((H.tab 0 rfl).addr_ hx4)) ?_
                  refine DW.fix rfl rfl rfl (fun _ EQ => RV.load1 Tk25 rfl (((H.grow EQ).tab 0 rfl).cell hx4 hh2) rfl) ?_
                  refine DW.fix rfl rfl rfl (fun _ EQ => RV.fieldAddr Tf94_1 rfl) ?_
                  refine DW.fix rfl rfl rfl (fun _ EQ => RV.load1 Tk3 rfl (((H.grow EQ).blk 3 rfl).cells.off 1) rfl) ?_
                  refine DW.fix rfl rfl rfl (fun _ EQ => RV.indexAddr Ts25 rfl rfl hbx5 (((H.tab 0 rfl).rowO hx4 hh2).sl.addr_ hx5)) ?_
                  refine DW.fix rfl rfl rfl (fun _ EQ => RV.load1 Tk3 rfl ((((H.grow EQ).tab 0 rfl).rowO hx4 hh2).sl.at_ hx5) rfl) ?_
                  refine DW.fix rfl rfl rfl (fun _ EQ => RV.fieldAddr Tf94_3 rfl) ?_
                  refine DW.fix rfl rfl rfl (fun _ EQ => RV.load1 Tk3 rfl (((H.grow EQ).blk 3 rfl).cells.off 3) rfl) ?_
                  refine DW.fix rfl rfl rfl (fun _ EQ => RV.sub rfl rfl hg4) ?_
                  refine DW.fix rfl rfl rfl (fun _ EQ => RV.indexAddr Ts25 rfl rfl hbx6 (((H.tab 0 rfl).rowO hx4 hh2).sl.addr_ hx6)) ?_
                  refine DW.sole rfl rfl rfl (OW.storeO (enc := encN) (vs := [.int .i64 (x5 - x3.amount)]) 0 (x5 - x3.amount) Tk3 rfl rfl ((H.tab 0 rfl).rowO hx4 hh2) (fun _ => rfl) rfl hx6 rfl rfl (by decide) rfl rfl fun w10 M1 O1 => ?_)
                  refine ⟨fun h => absurd h (by decide), M1.modx (fun _ _ => trivial), ?_⟩
                  replace H : Hp w w10 [.tab A54_0_worth c54_0_worth 25 hs54_0_worth 3 1 (encM encN ((m2.set (Int.toNat x3.column) (x4.set (Int.toNat x3.row) (x5 - x3.amount))))), .blk b1 24 [.slice A_a0_worth a0.worth.length c_a0_worth], .blk b2 24 [.slice A54_0_worth m2.length c54_0_worth], .blk b3 94 [.int .i64 x3.column, .int .i64 x3.row, .int .i64 x3.to_, .int .i64 x3.amount]] := H.tabRow 0 rfl hh2 hx4 (by simp) M1 O1
                  replace R0 := H.ext
                  have hrw1 : ((m2.set (Int.toNat x3.column) (x4.set (Int.toNat x3.row) (x5 - x3.amount))))[Int.toNat x3.column]? = some (x4.set (Int.toNat x3.row) (x5 - x3.amount)) := List.getElem?_set_self (lt_of_at hx4)
                  refine DW.nil (hK31 _ _ ?_)
                  obtain ⟨x7, hbx7, hx7, F⟩ := ix_some F
                  obtain ⟨hg5, F⟩ := gd_some F
                  obtain ⟨x8, hbx8, hx8, F⟩ := ix_some F
                  obtain ⟨hg6, F⟩ := gd_some F
                  obtain ⟨x9, hbx9, hx9, F⟩ := ix_some F
                  refine CW.draw [15] (fun _ => True) (.cons 0 1 (.cons 1 1 (.cons 2 1 (.cons 3 1 (.cons 4 1 (.cons 5 1 (.cons 6 1 (.cons 7 1 (.cons 8 1 (.cons 9 1 (.cons 10 1 (.cons 11 1 (.cons 12 1 (.cons 13 1 (.cons 14 1 (.cons 15 0 .nil)))))))))))))))) mixed (by kernel_rfl) fun w11 E5 => ?_
                  replace H := H.grow E5
                  replace R0 := H.ext
                  refine DW.fix rfl rfl rfl (fun _ EQ => RV.fieldAddr Tf24_0 rfl) ?_
                  refine DW.fix rfl rfl rfl (fun _ EQ => RV.load1 Tk22 rfl (((H.grow EQ).blk 2 rfl).cells.off 0) rfl) ?_
                  refine DW.fix rfl rfl rfl (fun _ EQ => RV.fieldAddr Tf94_2 rfl) ?_
                  refine DW.fix rfl rfl rfl (fun _ EQ => RV.load1 Tk3 rfl (((H.grow EQ).blk 3 rfl).cells.off 2) rfl) ?_
                  obtain ⟨B3, e3, hh3⟩ := (H.tab 0 rfl).hd hx7
                  refine DW.fix rfl rfl rfl (fun _ EQ => RV.indexAddr Ts22 rfl rfl (by first | exact hbx7 | omega | (simp at hbx7 ⊢; omega)) ((H.tab 0 rfl).addr_ hx7)) ?_
                  refine DW.fix rfl rfl rfl (fun _ EQ => RV.load1 Tk25 rfl (((H.grow EQ).tab 0 rfl).cell hx7 hh3) rfl) ?_
                  refine DW.fix rfl rfl rfl (fun _ EQ => RV.fieldAddr Tf94_1 rfl) ?_
                  refine DW.fix rfl rfl rfl (fun _ EQ => RV.load1 Tk3 rfl (((H.grow EQ).blk 3 rfl).cells.off 1) rfl) ?_
                  refine DW.fix rfl rfl rfl (fun _ EQ => RV.sub rfl rfl hg5) ?_
                  refine DW.fix rfl rfl rfl (fun _ EQ => RV.indexAddr Ts25 rfl rfl hbx8 (((H.tab 0 rfl).rowO hx7 hh3).sl.addr_ hx8)) ?_
                  refine DW.fix rfl rfl rfl (fun _ EQ => RV.load1 Tk3 rfl ((((H.grow EQ).tab 0 rfl).rowO hx7 hh3).sl.at_ hx8) rfl) ?_
                  refine DW.fix rfl rfl rfl (fun _ EQ => RV.fieldAddr Tf94_3 rfl) ?_
                  refine DW.fix rfl rfl rfl (fun _ EQ => RV.load1 Tk3 rfl (((H.grow EQ).blk 3 rfl).cells.off 3) rfl) ?_
                  refine DW.fix rfl rfl rfl (fun _ EQ => RV.add rfl rfl hg6) ?_
                  refine DW.fix rfl rfl rfl (fun _ EQ => RV.indexAddr Ts25 rfl rfl hbx9 (((H.tab 0 rfl).rowO hx7 hh3).sl.addr_ hx9)) ?_
                  refine DW.sole rfl rfl rfl (OW.storeO (enc := encN) (vs := [.int .i64 (x8 + x3.amount)]) 0 (x8 + x3.amount) Tk3 rfl rfl ((H.tab 0 rfl).rowO hx7 hh3) (fun _ => rfl) rfl hx9 rfl rfl (by decide) rfl rfl fun w12 M2 O2 => ?_)
                  refine ⟨fun h => absurd h (by decide), M2.modx (fun _ _ => trivial), ?_⟩
                  replace H : Hp w w12 [.tab A54_0_worth c54_0_worth 25 hs54_0_worth 3 1 (encM encN ((((m2.set (Int.toNat x3.column) (x4.set (Int.toNat x3.row) (x5 - x3.amount)))).set (Int.toNat x3.to_) (x7.set (Int.toNat (x3.row - 1)) (x8 + x3.amount))))), .blk b1 24 [.slice A_a0_worth a0.worth.length c_a0_worth], .blk b2 24 [.slice A54_0_worth m2.length c54_0_worth], .blk b3 94 [.int .i64 x3.column, .int .i64 x3.row, .int .i64 x3.to_, .int .i64 x3.amount]] := H.tabRow 0 rfl hh3 hx7 (by simp) M2 O2
                  replace R0 := H.ext
                  have hrw2 : ((((m2.set (Int.toNat x3.column) (x4.set (Int.toNat x3.row) (x5 - x3.amount)))).set (Int.toNat x3.to_) (x7.set (Int.toNat (x3.row - 1)) (x8 + x3.amount))))[Int.toNat x3.to_]? = some (x7.set (Int.toNat (x3.row - 1)) (x8 + x3.amount)) := List.getElem?_set_self (lt_of_at hx7)
                  refine DW.nil (hK25 _ _ ?_)
                  obtain ⟨hg7, F⟩ := gd_some F
                  refine CW.region ?_
                  refine LW.pure rfl rfl (RV.move rfl) ?_
                  refine LW.pure rfl rfl (RV.add rfl rfl hg7) ?_
                  refine LW.pure rfl rfl (RV.assign rfl) ?_
                  refine LW.nil ?_
                  replace H := H.pick (L' := [.tab A54_0_worth c54_0_worth 25 hs54_0_worth 3 1 (encM encN ((((m2.set (Int.toNat x3.column) (x4.set (Int.toNat x3.row) (x5 - x3.amount)))).set (Int.toNat x3.to_) (x7.set (Int.toNat (x3.row - 1)) (x8 + x3.amount))))), .blk b1 24 [.slice A_a0_worth a0.worth.length c_a0_worth], .blk b2 24 [.slice A54_0_worth m2.length c54_0_worth]]) [0, 1, 2] (by decide) rfl
                  replace R0 := H.ext
                  replace H := H.cast (L' := [.tab A54_0_worth c54_0_worth 25 hs54_0_worth 3 1 (encM encN ((((m2.set (Int.toNat x3.column) (x4.set (Int.toNat x3.row) (x5 - x3.amount)))).set (Int.toNat x3.to_) (x7.set (Int.toNat (x3.row - 1)) (x8 + x3.amount))))), .blk b1 24 [.slice A_a0_worth a0.worth.length c_a0_worth], .blk b2 24 [.slice A54_0_worth (((((m2.set (Int.toNat x3.column) (x4.set (Int.toNat x3.row) (x5 - x3.amount)))).set (Int.toNat x3.to_) (x7.set (Int.toNat (x3.row - 1)) (x8 + x3.amount)))).length) c54_0_worth]]) (by first | rfl | (simp only [List.length_set]; done) | simp)
                  subst hrec3
                  refine ⟨mk3, Nat.lt_succ_self _, _, ?_, (t9_1 + 1), ((((m2.set (Int.toNat x3.column) (x4.set (Int.toNat x3.row) (x5 - x3.amount)))).set (Int.toNat x3.to_) (x7.set (Int.toNat (x3.row - 1)) (x8 + x3.amount)))), F, rfl, H⟩
                  exact ⟨rfl, rfl, rfl, rfl, rfl, rfl, rfl, trivial⟩
              ·
                intro K32 hK32 jK442
                by_cases hp8 : x3.amount < 1
                ·
                  replace F := ite_y hp8 F
                  have hq8 := dec_t hp8
                  refine CW.region ?_
                  refine LW.pure rfl rfl (RV.fieldAddr Tf94_3 rfl) ?_
                  refine LW.pure rfl rfl (RV.load1 Tk3 rfl ((H.blk 3 rfl).cells.off 3) rfl) ?_
                  refine LW.pure rfl rfl (RV.lss rfl rfl) ?_
                  refine LW.pure rfl rfl (RV.move rfl) ?_
                  refine LW.noB rfl rfl rfl rfl (ne_beq (v := true) hq8 rfl) ?_
                  refine LW.noB rfl rfl rfl rfl (ne_beq (v := true) hq8 rfl) ?_
                  refine LW.noB rfl rfl rfl rfl (ne_beq (v := true) hq8 rfl) ?_
                  refine LW.pure rfl rfl (RV.pickTB rfl hq8 rfl) ?_
                  refine LW.nil (jK442 _ _ ⟨_, ?_, ⟨true, F, rfl, H⟩⟩)
                  exact ⟨rfl, rfl, rfl, rfl, rfl, rfl, rfl, rfl, rfl, trivial⟩
                ·
                  replace F := ite_n hp8 F
                  have hq8 := dec_f hp8
                  refine CW.region ?_
                  refine LW.pure rfl rfl (RV.fieldAddr Tf94_3 rfl) ?_
                  refine LW.pure rfl rfl (RV.load1 Tk3 rfl ((H.blk 3 rfl).cells.off 3) rfl) ?_
                  refine LW.pure rfl rfl (RV.lss rfl rfl) ?_
                  refine LW.pure rfl rfl (RV.move rfl) ?_
                  refine LW.pureYB rfl rfl rfl rfl hq8 (RV.fieldAddr Tf94_3 rfl) ?_
                  refine LW.pureYB rfl rfl rfl rfl hq8 (RV.load1 Tk3 rfl ((H.blk 3 rfl).cells.off 3) rfl) ?_
                  refine LW.pureYB rfl rfl rfl rfl hq8 (RV.gtr rfl rfl) ?_
                  refine LW.pure rfl rfl (RV.pickFB rfl hq8 rfl) ?_
                  refine LW.nil (jK442 _ _ ⟨_, ?_, ⟨(decide ((1000 : Int) < x3.amount)), F, rfl, H⟩⟩)
                  exact ⟨rfl, rfl, rfl, rfl, rfl, rfl, rfl, rfl, rfl, trivial⟩
          ·
            intro K33 hK33 jK443
            by_cases hp9 : x3.column < 0
            ·
              replace F := ite_y hp9 F
              have hq9 := dec_t hp9
              refine CW.draw [] (fun _ => True) (.cons 0 1 (.cons 1 1 (.cons 2 1 (.cons 3 1 (.cons 4 1 (.cons 5 1 (.cons 6 1 (.cons 7 1 (.cons 8 1 (.cons 9 1 (.cons 10 1 (.cons 11 1 (.cons 12 1 (.cons 13 1 (.cons 14 1 (.cons 15 1 (.cons 16 1 (.cons 17 1 (.cons 18 0 (.cons 19 1 (.cons 20 1 (.cons 21 1 (.cons 22 1 (.cons 23 1 (.cons 24 1 (.cons 25 1 (.cons 26 1 (.cons 27 1 (.cons 28 1 (.cons 29 1 (.cons 30 1 (.cons 31 1 (.cons 32 1 (.cons 33 1 (.cons 34 1 (.cons 35 1 (.cons 36 1 (.cons 37 1 (.cons 38 1 (.cons 39 1 (.cons 40 1 .nil))))))))))))))))))))))))))))))))))))))))) mixed (by kernel_rfl) fun w13 E6 => ?_
              replace H := H.grow E6
              replace R0 := H.ext
              refine DW.fix rfl rfl rfl (fun _ EQ => RV.fieldAddr Tf94_0 rfl) ?_
              refine DW.fix rfl rfl rfl (fun _ EQ => RV.load1 Tk3 rfl (((H.grow EQ).blk 0 rfl).cells.off 0) rfl) ?_
              refine DW.fix rfl rfl rfl (fun _ EQ => RV.lss rfl rfl) ?_
              refine DW.fix rfl rfl rfl (fun _ EQ => RV.move rfl) ?_
              refine DW.fixNB rfl rfl rfl rfl rfl (ne_beq (v := true) hq9 rfl) ?_
              refine DW.fixNB rfl rfl rfl rfl rfl (ne_beq (v := true) hq9 rfl) ?_
              refine DW.fixNB rfl rfl rfl rfl rfl (ne_beq (v := true) hq9 rfl) ?_
              refine DW.fixNB rfl rfl rfl rfl rfl (ne_beq (v := true) hq9 rfl) ?_
              refine DW.fix rfl rfl rfl (fun _ EQ => RV.pickTB rfl hq9 rfl) ?_
              refine DW.fix rfl rfl rfl (fun _ EQ => RV.move rfl) ?_
              refine DW.fixNB rfl rfl rfl rfl rfl (ne_beq (v := true) rfl rfl) ?_
              refine DW.fixNB rfl rfl rfl rfl rfl (ne_beq (v := true) rfl rfl) ?_
              refine DW.fixNB rfl rfl rfl rfl rfl (ne_beq (v := true) rfl rfl) ?_
              refine DW.fix rfl rfl rfl (fun _ EQ => RV.pickTB rfl rfl rfl) ?_
              refine DW.fix rfl rfl rfl (fun _ EQ => RV.move rfl) ?_
              refine DW.fixNB rfl rfl rfl rfl rfl (ne_beq (v := true) rfl rfl) ?_
              refine DW.fixNB rfl rfl rfl rfl rfl (ne_beq (v := true) rfl rfl) ?_
              refine DW.fixNB rfl rfl rfl rfl rfl (ne_beq (v := true) rfl rfl) ?_
              refine DW.soleNB rfl rfl rfl rfl rfl (ne_beq (v := true) rfl rfl) ?_
              refine DW.fixNB rfl rfl rfl rfl rfl (ne_beq (v := true) rfl rfl) ?_
              refine DW.fix rfl rfl rfl (fun _ EQ => RV.pickTB rfl rfl rfl) ?_
              refine DW.fix rfl rfl rfl (fun _ EQ => RV.move rfl) ?_
              refine DW.fixNB rfl rfl rfl rfl rfl (ne_beq (v := true) rfl rfl) ?_
              refine DW.fixNB rfl rfl rfl rfl rfl (ne_beq (v := true) rfl rfl) ?_
              refine DW.fixNB rfl rfl rfl rfl rfl (ne_beq (v := true) rfl rfl) ?_
              refine DW.fixNB rfl rfl rfl rfl rfl (ne_beq (v := true) rfl rfl) ?_
              refine DW.fixNB rfl rfl rfl rfl rfl (ne_beq (v := true) rfl rfl) ?_
              refine DW.fixNB rfl rfl rfl rfl rfl (ne_beq (v := true) rfl rfl) ?_
              refine DW.fixNB rfl rfl rfl rfl rfl (ne_beq (v := true) rfl rfl) ?_
              refine DW.fix rfl rfl rfl (fun _ EQ => RV.pickTB rfl rfl rfl) ?_
              refine DW.fix rfl rfl rfl (fun _ EQ => RV.move rfl) ?_
              refine DW.fixNB rfl rfl rfl rfl rfl (ne_beq (v := true) rfl rfl) ?_
              refine DW.fixNB rfl rfl rfl rfl rfl (ne_beq (v := true) rfl rfl) ?_
              refine DW.fixNB rfl rfl rfl rfl rfl (ne_beq (v := true) rfl rfl) ?_
              refine DW.fixNB rfl rfl rfl rfl rfl (ne_beq (v := true) rfl rfl) ?_
              refine DW.fixNB rfl rfl rfl rfl rfl (ne_beq (v := true) rfl rfl) ?_
              refine DW.fixNB rfl rfl rfl rfl rfl (ne_beq (v := true) rfl rfl) ?_
              refine DW.fixNB rfl rfl rfl rfl rfl (ne_beq (v := true) rfl rfl) ?_
              refine DW.fixNB rfl rfl rfl rfl rfl (ne_beq (v := true) rfl rfl) ?_
              refine DW.fixNB rfl rfl rfl rfl rfl (ne_beq (v := true) rfl rfl) ?_
              refine DW.fix rfl rfl rfl (fun _ EQ => RV.pickTB rfl rfl rfl) ?_
              replace H := H.pick (L' := [.tab A54_0_worth c54_0_worth 25 hs54_0_worth 3 1 (encM encN m2), .blk b1 24 [.slice A_a0_worth a0.worth.length c_a0_worth], .blk b2 24 [.slice A54_0_worth m2.length c54_0_worth], .blk b3 94 [.int .i64 x3.column, .int .i64 x3.row, .int .i64 x3.to_, .int .i64 x3.amount]]) [1, 2, 3, 0] (by decide) rfl
              replace R0 := H.ext
              refine DW.nil (jK443 _ _ ⟨_, ?_, ⟨true, F, rfl, H⟩⟩)
              exact ⟨rfl, rfl, rfl, rfl, rfl, rfl, rfl, rfl, rfl, trivial⟩
            ·
              replace F := ite_n hp9 F
              have hq9 := dec_f hp9
              by_cases hp10 : ((a0.worth.length : Int)) ≤ x3.column
              ·
                replace F := ite_y hp10 F
                have hq10 := dec_t hp10
                refine CW.draw [] (fun _ => True) (.cons 0 1 (.cons 1 1 (.cons 2 1 (.cons 3 1 (.cons 4 1 (.cons 5 1 (.cons 6 1 (.cons 7 1 (.cons 8 1 (.cons 9 1 (.cons 10 1 (.cons 11 1 (.cons 12 1 (.cons 13 1 (.cons 14 1 (.cons 15 1 (.cons 16 1 (.cons 17 1 (.cons 18 0 (.cons 19 1 (.cons 20 1 (.cons 21 1 (.cons 22 1 (.cons 23 1 (.cons 24 1 (.cons 25 1 (.cons 26 1 (.cons 27 1 (.cons 28 1 (.cons 29 1 (.cons 30 1 (.cons 31 1 (.cons 32 1 (.cons 33 1 (.cons 34 1 (.cons 35 1 (.cons 36 1 (.cons 37 1 (.cons 38 1 (.cons 39 1 (.cons 40 1 .nil))))))))))))))))))))))))))))))))))))))))) mixed (by kernel_rfl) fun w14 E7 => ?_
                replace H := H.grow E7
                replace R0 := H.ext
                refine DW.fix rfl rfl rfl (fun _ EQ => RV.fieldAddr Tf94_0 rfl) ?_
                refine DW.fix rfl rfl rfl (fun _ EQ => RV.load1 Tk3 rfl (((H.grow EQ).blk 0 rfl).cells.off 0) rfl) ?_
                refine DW.fix rfl rfl rfl (fun _ EQ => RV.lss rfl rfl) ?_
                refine DW.fix rfl rfl rfl (fun _ EQ => RV.move rfl) ?_
                refine DW.fixYB rfl rfl rfl rfl rfl hq9 (fun _ EQ => RV.fieldAddr Tf94_0 rfl) ?_
                refine DW.fixYB rfl rfl rfl rfl rfl hq9 (fun _ EQ => RV.load1 Tk3 rfl (((H.grow EQ).blk 0 rfl).cells.off 0) rfl) ?_
                refine DW.fixYB rfl rfl rfl rfl rfl hq9 (fun _ EQ => RV.move rfl) ?_
                refine DW.fixYB rfl rfl rfl rfl rfl hq9 (fun _ EQ => RV.geq rfl rfl) ?_
                refine DW.fix rfl rfl rfl (fun _ EQ => RV.pickFB rfl hq9 rfl) ?_
                refine DW.fix rfl rfl rfl (fun _ EQ => RV.move rfl) ?_
                refine DW.fixNB rfl rfl rfl rfl rfl (ne_beq (v := true) hq10 rfl) ?_
                refine DW.fixNB rfl rfl rfl rfl rfl (ne_beq (v := true) hq10 rfl) ?_
                refine DW.fixNB rfl rfl rfl rfl rfl (ne_beq (v := true) hq10 rfl) ?_
                refine DW.fix rfl rfl rfl (fun _ EQ => RV.pickTB rfl hq10 rfl) ?_
                refine DW.fix rfl rfl rfl (fun _ EQ => RV.move rfl) ?_
                refine DW.fixNB rfl rfl rfl rfl rfl (ne_beq (v := true) rfl rfl) ?_
                refine DW.fixNB rfl rfl rfl rfl rfl (ne_beq (v := true) rfl rfl) ?_
                refine DW.fixNB rfl rfl rfl rfl rfl (ne_beq (v := true) rfl rfl) ?_
                refine DW.soleNB rfl rfl rfl rfl rfl (ne_beq (v := true) rfl rfl) ?_
                refine DW.fixNB rfl rfl rfl rfl rfl (ne_beq (v := true) rfl rfl) ?_
                refine DW.fix rfl rfl rfl (fun _ EQ => RV.pickTB rfl rfl rfl) ?_
                refine DW.fix rfl rfl rfl (fun _ EQ => RV.move rfl) ?_
                refine DW.fixNB rfl rfl rfl rfl rfl (ne_beq (v := true) rfl rfl) ?_
                refine DW.fixNB rfl rfl rfl rfl rfl (ne_beq (v := true) rfl rfl) ?_
                refine DW.fixNB rfl rfl rfl rfl rfl (ne_beq (v := true) rfl rfl) ?_
                refine DW.fixNB rfl rfl rfl rfl rfl (ne_beq (v := true) rfl rfl) ?_
                refine DW.fixNB rfl rfl rfl rfl rfl (ne_beq (v := true) rfl rfl) ?_
                refine DW.fixNB rfl rfl rfl rfl rfl (ne_beq (v := true) rfl rfl) ?_
                refine DW.fixNB rfl rfl rfl rfl rfl (ne_beq (v := true) rfl rfl) ?_
                refine DW.fix rfl rfl rfl (fun _ EQ => RV.pickTB rfl rfl rfl) ?_
                refine DW.fix rfl rfl rfl (fun _ EQ => RV.move rfl) ?_
                refine DW.fixNB rfl rfl rfl rfl rfl (ne_beq (v := true) rfl rfl) ?_
                refine DW.fixNB rfl rfl rfl rfl rfl (ne_beq (v := true) rfl rfl) ?_
                refine DW.fixNB rfl rfl rfl rfl rfl (ne_beq (v := true) rfl rfl) ?_
                refine DW.fixNB rfl rfl rfl rfl rfl (ne_beq (v := true) rfl rfl) ?_
                refine DW.fixNB rfl rfl rfl rfl rfl (ne_beq (v := true) rfl rfl) ?_
                refine DW.fixNB rfl rfl rfl rfl rfl (ne_beq (v := true) rfl rfl) ?_
                refine DW.fixNB rfl rfl rfl rfl rfl (ne_beq (v := true) rfl rfl) ?_
                refine DW.fixNB rfl rfl rfl rfl rfl (ne_beq (v := true) rfl rfl) ?_
                refine DW.fixNB rfl rfl rfl rfl rfl (ne_beq (v := true) rfl rfl) ?_
                refine DW.fix rfl rfl rfl (fun _ EQ => RV.pickTB rfl rfl rfl) ?_
                replace H := H.pick (L' := [.tab A54_0_worth c54_0_worth 25 hs54_0_worth 3 1 (encM encN m2), .blk b1 24 [.slice A_a0_worth a0.worth.length c_a0_worth], .blk b2 24 [.slice A54_0_worth m2.length c54_0_worth], .blk b3 94 [.int .i64 x3.column, .int .i64 x3.row, .int .i64 x3.to_, .int .i64 x3.amount]]) [1, 2, 3, 0] (by decide) rfl
                replace R0 := H.ext
                refine DW.nil (jK443 _ _ ⟨_, ?_, ⟨true, F, rfl, H⟩⟩)
                exact ⟨rfl, rfl, rfl, rfl, rfl, rfl, rfl, rfl, rfl, trivial⟩
              ·
                replace F := ite_n hp10 F
                have hq10 := dec_f hp10
                by_cases hp11 : x3.row < 1
                ·
                  replace F := ite_y hp11 F
                  have hq11 := dec_t hp11
                  refine CW.draw [] (fun _ => True) (.cons 0 1 (.cons 1 1 (.cons 2 1 (.cons 3 1 (.cons 4 1 (.cons 5 1 (.cons 6 1 (.cons 7 1 (.cons 8 1 (.cons 9 1 (.cons 10 1 (.cons 11 1 (.cons 12 1 (.cons 13 1 (.cons 14 1 (.cons 15 1 (.cons 16 1 (.cons 17 1 (.cons 18 0 (.cons 19 1 (.cons 20 1 (.cons 21 1 (.cons 22 1 (.cons 23 1 (.cons 24 1 (.cons 25 1 (.cons 26 1 (.cons 27 1 (.cons 28 1 (.cons 29 1 (.cons 30 1 (.cons 31 1 (.cons 32 1 (.cons 33 1 (.cons 34 1 (.cons 35 1 (.cons 36 1 (.cons 37 1 (.cons 38 1 (.cons 39 1 (.cons 40 1 .nil))))))))))))))))))))))))))))))))))))))))) mixed (by kernel_rfl) fun w15 E8 => ?_
                  replace H := H.grow E8
                  replace R0 := H.ext
                  refine DW.fix rfl rfl rfl (fun _ EQ => RV.fieldAddr Tf94_0 rfl) ?_
                  refine DW.fix rfl rfl rfl (fun _ EQ => RV.load1 Tk3 rfl (((H.grow EQ).blk 0 rfl).cells.off 0) rfl) ?_
                  refine DW.fix rfl rfl rfl (fun _ EQ => RV.lss rfl rfl) ?_
                  refine DW.fix rfl rfl rfl (fun _ EQ => RV.move rfl) ?_
                  refine DW.fixYB rfl rfl rfl rfl rfl hq9 (fun _ EQ => RV.fieldAddr Tf94_0 rfl) ?_
                  refine DW.fixYB rfl rfl rfl rfl rfl hq9 (fun _ EQ => RV.load1 Tk3 rfl (((H.grow EQ).blk 0 rfl).cells.off 0) rfl) ?_
                  refine DW.fixYB rfl rfl rfl rfl rfl hq9 (fun _ EQ => RV.move rfl) ?_
                  refine DW.fixYB rfl rfl rfl rfl rfl hq9 (fun _ EQ => RV.geq rfl rfl) ?_
                  refine DW.fix rfl rfl rfl (fun _ EQ => RV.pickFB rfl hq9 rfl) ?_
                  refine DW.fix rfl rfl rfl (fun _ EQ => RV.move rfl) ?_
                  refine DW.fixYB rfl rfl rfl rfl rfl hq10 (fun _ EQ => RV.fieldAddr Tf94_1 rfl) ?_
                  refine DW.fixYB rfl rfl rfl rfl rfl hq10 (fun _ EQ => RV.load1 Tk3 rfl (((H.grow EQ).blk 0 rfl).cells.off 1) rfl) ?_
                  refine DW.fixYB rfl rfl rfl rfl rfl hq10 (fun _ EQ => RV.lss rfl rfl) ?_
                  refine DW.fix rfl rfl rfl (fun _ EQ => RV.pickFB rfl hq10 rfl) ?_
                  refine DW.fix rfl rfl rfl (fun _ EQ => RV.move rfl) ?_
                  refine DW.fixNB rfl rfl rfl rfl rfl (ne_beq (v := true) hq11 rfl) ?_
                  refine DW.fixNB rfl rfl rfl rfl rfl (ne_beq (v := true) hq11 rfl) ?_
                  refine DW.fixNB rfl rfl rfl rfl rfl (ne_beq (v := true) hq11 rfl) ?_
                  refine DW.soleNB rfl rfl rfl rfl rfl (ne_beq (v := true) hq11 rfl) ?_
                  refine DW.fixNB rfl rfl rfl rfl rfl (ne_beq (v := true) hq11 rfl) ?_
                  refine DW.fix rfl rfl rfl (fun _ EQ => RV.pickTB rfl hq11 rfl) ?_
                  refine DW.fix rfl rfl rfl (fun _ EQ => RV.move rfl) ?_
                  refine DW.fixNB rfl rfl rfl rfl rfl (ne_beq (v := true) rfl rfl) ?_
                  refine DW.fixNB rfl rfl rfl rfl rfl (ne_beq (v := true) rfl rfl) ?_
                  refine DW.fixNB rfl rfl rfl rfl rfl (ne_beq (v := true) rfl rfl) ?_
                  refine DW.fixNB rfl rfl rfl rfl rfl (ne_beq (v := true) rfl rfl) ?_
                  refine DW.fixNB rfl rfl rfl rfl rfl (ne_beq (v := true) rfl rfl) ?_
                  refine DW.fixNB rfl rfl rfl rfl rfl (ne_beq (v := true) rfl rfl) ?_
                  refine DW.fixNB rfl rfl rfl rfl rfl (ne_beq (v := true) rfl rfl) ?_
                  refine DW.fix rfl rfl rfl (fun _ EQ => RV.pickTB rfl rfl rfl) ?_
                  refine DW.fix rfl rfl rfl (fun _ EQ => RV.move rfl) ?_
                  refine DW.fixNB rfl rfl rfl rfl rfl (ne_beq (v := true) rfl rfl) ?_
                  refine DW.fixNB rfl rfl rfl rfl rfl (ne_beq (v := true) rfl rfl) ?_
                  refine DW.fixNB rfl rfl rfl rfl rfl (ne_beq (v := true) rfl rfl) ?_
                  refine DW.fixNB rfl rfl rfl rfl rfl (ne_beq (v := true) rfl rfl) ?_
                  refine DW.fixNB rfl rfl rfl rfl rfl (ne_beq (v := true) rfl rfl) ?_
                  refine DW.fixNB rfl rfl rfl rfl rfl (ne_beq (v := true) rfl rfl) ?_
                  refine DW.fixNB rfl rfl rfl rfl rfl (ne_beq (v := true) rfl rfl) ?_
                  refine DW.fixNB rfl rfl rfl rfl rfl (ne_beq (v := true) rfl rfl) ?_
                  refine DW.fixNB rfl rfl rfl rfl rfl (ne_beq (v := true) rfl rfl) ?_
                  refine DW.fix rfl rfl rfl (fun _ EQ => RV.pickTB rfl rfl rfl) ?_
                  replace H := H.pick (L' := [.tab A54_0_worth c54_0_worth 25 hs54_0_worth 3 1 (encM encN m2), .blk b1 24 [.slice A_a0_worth a0.worth.length c_a0_worth], .blk b2 24 [.slice A54_0_worth m2.length c54_0_worth], .blk b3 94 [.int .i64 x3.column, .int .i64 x3.row, .int .i64 x3.to_, .int .i64 x3.amount]]) [1, 2, 3, 0] (by decide) rfl
                  replace R0 := H.ext
                  refine DW.nil (jK443 _ _ ⟨_, ?_, ⟨true, F, rfl, H⟩⟩)
                  exact ⟨rfl, rfl, rfl, rfl, rfl, rfl, rfl, rfl, rfl, trivial⟩
                ·
                  replace F := ite_n hp11 F
                  have hq11 := dec_f hp11
                  obtain ⟨r2, hr2, F⟩ := bnd_some F
                  by_cases hp12 : r2 ≤ x3.row
                  ·
                    replace F := ite_y hp12 F
                    have hq12 := dec_t hp12
                    refine CW.draw [] (fun _ => True) (.cons 0 1 (.cons 1 1 (.cons 2 1 (.cons 3 1 (.cons 4 1 (.cons 5 1 (.cons 6 1 (.cons 7 1 (.cons 8 1 (.cons 9 1 (.cons 10 1 (.cons 11 1 (.cons 12 1 (.cons 13 1 (.cons 14 1 (.cons 15 1 (.cons 16 1 (.cons 17 1 (.cons 18 0 (.cons 19 1 (.cons 20 1 (.cons 21 1 (.cons 22 1 (.cons 23 1 (.cons 24 1 (.cons 25 1 (.cons 26 1 (.cons 27 1 (.cons 28 1 (.cons 29 1 (.cons 30 1 (.cons 31 1 (.cons 32 1 (.cons 33 1 (.cons 34 1 (.cons 35 1 (.cons 36 1 (.cons 37 1 (.cons 38 1 (.cons 39 1 (.cons 40 1 .nil))))))))))))))))))))))))))))))))))))))))) mixed (by kernel_rfl) fun w16 E9 => ?_
                    replace H := H.grow E9
                    replace R0 := H.ext
                    refine DW.fix rfl rfl rfl (fun _ EQ => RV.fieldAddr Tf94_0 rfl) ?_
                    refine DW.fix rfl rfl rfl (fun _ EQ => RV.load1 Tk3 rfl (((H.grow EQ).blk 0 rfl).cells.off 0) rfl) ?_
                    refine DW.fix rfl rfl rfl (fun _ EQ => RV.lss rfl rfl) ?_
                    refine DW.fix rfl rfl rfl (fun _ EQ => RV.move rfl) ?_
                    refine DW.fixYB rfl rfl rfl rfl rfl hq9 (fun _ EQ => RV.fieldAddr Tf94_0 rfl) ?_
                    refine DW.fixYB rfl rfl rfl rfl rfl hq9 (fun _ EQ => RV.load1 Tk3 rfl (((H.grow EQ).blk 0 rfl).cells.off 0) rfl) ?_
                    refine DW.fixYB rfl rfl rfl rfl rfl hq9 (fun _ EQ => RV.move rfl) ?_
                    refine DW.fixYB rfl rfl rfl rfl rfl hq9 (fun _ EQ => RV.geq rfl rfl) ?_
                    refine DW.fix rfl rfl rfl (fun _ EQ => RV.pickFB rfl hq9 rfl) ?_
                    refine DW.fix rfl rfl rfl (fun _ EQ => RV.move rfl) ?_
                    refine DW.fixYB rfl rfl rfl rfl rfl hq10 (fun _ EQ => RV.fieldAddr Tf94_1 rfl) ?_
                    refine DW.fixYB rfl rfl rfl rfl rfl hq10 (fun _ EQ => RV.load1 Tk3 rfl (((H.grow EQ).blk 0 rfl).cells.off 1) rfl) ?_
                    refine DW.fixYB rfl rfl rfl rfl rfl hq10 (fun _ EQ => RV.lss rfl rfl) ?_
                    refine DW.fix rfl rfl rfl (fun _ EQ => RV.pickFB rfl hq10 rfl) ?_
                    refine DW.fix rfl rfl rfl (fun _ EQ => RV.move rfl) ?_
                    refine DW.fixYB rfl rfl rfl rfl rfl hq11 (fun _ EQ => RV.fieldAddr Tf94_1 rfl) ?_
                    refine DW.fixYB rfl rfl rfl rfl rfl hq11 (fun _ EQ => RV.load1 Tk3 rfl (((H.grow EQ).blk 0 rfl).cells.off 1) rfl) ?_
                    refine DW.fixYB rfl rfl rfl rfl rfl hq11 (fun _ EQ => RV.loadA [.slice A_a0_worth a0.worth.length c_a0_worth] Tk24 rfl ((H.grow EQ).blk 2 rfl).cells rfl rfl) ?_
                    refine DW.soleYB rfl rfl rfl rfl rfl hq11 (OW.call Tc93 rfl (ref04_depth_ok (a0 := a0) (h_a0_worth.ext R0) hr2) ?_)
                    rintro _ w17 ⟨rfl, E10⟩
                    refine ⟨_, rfl, fun _ => E10, ModX.ext E10, ?_⟩
                    replace H := H.grow E10
                    replace R0 := H.ext
                    refine DW.fixYB rfl rfl rfl rfl rfl hq11 (fun _ EQ => RV.geq rfl rfl) ?_
                    refine DW.fix rfl rfl rfl (fun _ EQ => RV.pickFB rfl hq11 rfl) ?_
                    refine DW.fix rfl rfl rfl (fun _ EQ => RV.move rfl) ?_
                    refine DW.fixNB rfl rfl rfl rfl rfl (ne_beq (v := true) hq12 rfl) ?_
                    refine DW.fixNB rfl rfl rfl rfl rfl (ne_beq (v := true) hq12 rfl) ?_
                    refine DW.fixNB rfl rfl rfl rfl rfl (ne_beq (v := true) hq12 rfl) ?_
                    refine DW.fixNB rfl rfl rfl rfl rfl (ne_beq (v := true) hq12 rfl) ?_
                    refine DW.fixNB rfl rfl rfl rfl rfl (ne_beq (v := true) hq12 rfl) ?_
                    refine DW.fixNB rfl rfl rfl rfl rfl (ne_beq (v := true) hq12 rfl) ?_
                    refine DW.fixNB rfl rfl rfl rfl rfl (ne_beq (v := true) hq12 rfl) ?_
                    refine DW.fix rfl rfl rfl (fun _ EQ => RV.pickTB rfl hq12 rfl) ?_
                    refine DW.fix rfl rfl rfl (fun _ EQ => RV.move rfl) ?_
                    refine DW.fixNB rfl rfl rfl rfl rfl (ne_beq (v := true) rfl rfl) ?_
                    refine DW.fixNB rfl rfl rfl rfl rfl (ne_beq (v := true) rfl rfl) ?_
                    refine DW.fixNB rfl rfl rfl rfl rfl (ne_beq (v := true) rfl rfl) ?_
                    refine DW.fixNB rfl rfl rfl rfl rfl (ne_beq (v := true) rfl rfl) ?_
                    refine DW.fixNB rfl rfl rfl rfl rfl (ne_beq (v := true) rfl rfl) ?_
                    refine DW.fixNB rfl rfl rfl rfl rfl (ne_beq (v := true) rfl rfl) ?_
                    refine DW.fixNB rfl rfl rfl rfl rfl (ne_beq (v := true) rfl rfl) ?_
                    refine DW.fixNB rfl rfl rfl rfl rfl (ne_beq (v := true) rfl rfl) ?_
                    refine DW.fixNB rfl rfl rfl rfl rfl (ne_beq (v := true) rfl rfl) ?_
                    refine DW.fix rfl rfl rfl (fun _ EQ => RV.pickTB rfl rfl rfl) ?_
                    replace H := H.pick (L' := [.tab A54_0_worth c54_0_worth 25 hs54_0_worth 3 1 (encM encN m2), .blk b1 24 [.slice A_a0_worth a0.worth.length c_a0_worth], .blk b2 24 [.slice A54_0_worth m2.length c54_0_worth], .blk b3 94 [.int .i64 x3.column, .int .i64 x3.row, .int .i64 x3.to_, .int .i64 x3.amount]]) [1, 2, 3, 0] (by decide) rfl
                    replace R0 := H.ext
                    refine DW.nil (jK443 _ _ ⟨_, ?_, ⟨true, F, rfl, H⟩⟩)
                    exact ⟨rfl, rfl, rfl, rfl, rfl, rfl, rfl, rfl, rfl, trivial⟩
                  ·
                    replace F := ite_n hp12 F
                    have hq12 := dec_f hp12
                    obtain ⟨hg8, F⟩ := gd_some F
                    by_cases hp13 : x3.to_ < (max 0 (x3.column - 1))
                    ·
                      replace F := ite_y hp13 F
                      have hq13 := dec_t hp13
                      refine CW.draw [] (fun _ => True) (.cons 0 1 (.cons 1 1 (.cons 2 1 (.cons 3 1 (.cons 4 1 (.cons 5 1 (.cons 6 1 (.cons 7 1 (.cons 8 1 (.cons 9 1 (.cons 10 1 (.cons 11 1 (.cons 12 1 (.cons 13 1 (.cons 14 1 (.cons 15 1 (.cons 16 1 (.cons 17 1 (.cons 18 0 (.cons 19 1 (.cons 20 1 (.cons 21 1 (.cons 22 1 (.cons 23 1 (.cons 24 1 (.cons 25 1 (.cons 26 1 (.cons 27 1 (.cons 28 1 (.cons 29 1 (.cons 30 1 (.cons 31 1 (.cons 32 1 (.cons 33 1 (.cons 34 1 (.cons 35 1 (.cons 36 1 (.cons 37 1 (.cons 38 1 (.cons 39 1 (.cons 40 1 .nil))))))))))))))))))))))))))))))))))))))))) mixed (by kernel_rfl) fun w18 E11 => ?_
                      replace H := H.grow E11
                      replace R0 := H.ext
                      refine DW.fix rfl rfl rfl (fun _ EQ => RV.fieldAddr Tf94_0 rfl) ?_
                      refine DW.fix rfl rfl rfl (fun _ EQ => RV.load1 Tk3 rfl (((H.grow EQ).blk 0 rfl).cells.off 0) rfl) ?_
                      refine DW.fix rfl rfl rfl (fun _ EQ => RV.lss rfl rfl) ?_
                      refine DW.fix rfl rfl rfl (fun _ EQ => RV.move rfl) ?_
                      refine DW.fixYB rfl rfl rfl rfl rfl hq9 (fun _ EQ => RV.fieldAddr Tf94_0 rfl) ?_
                      refine DW.fixYB rfl rfl rfl rfl rfl hq9 (fun _ EQ => RV.load1 Tk3 rfl (((H.grow EQ).blk 0 rfl).cells.off 0) rfl) ?_
                      refine DW.fixYB rfl rfl rfl rfl rfl hq9 (fun _ EQ => RV.move rfl) ?_
                      refine DW.fixYB rfl rfl rfl rfl rfl hq9 (fun _ EQ => RV.geq rfl rfl) ?_
                      refine DW.fix rfl rfl rfl (fun _ EQ => RV.pickFB rfl hq9 rfl) ?_
                      refine DW.fix rfl rfl rfl (fun _ EQ => RV.move rfl) ?_
                      refine DW.fixYB rfl rfl rfl rfl rfl hq10 (fun _ EQ => RV.fieldAddr Tf94_1 rfl) ?_
                      refine DW.fixYB rfl rfl rfl rfl rfl hq10 (fun _ EQ => RV.load1 Tk3 rfl (((H.grow EQ).blk 0 rfl).cells.off 1) rfl) ?_
                      refine DW.fixYB rfl rfl rfl rfl rfl hq10 (fun _ EQ => RV.lss rfl rfl) ?_
                      refine DW.fix rfl rfl rfl (fun _ EQ => RV.pickFB rfl hq10 rfl) ?_
                      refine DW.fix rfl rfl rfl (fun _ EQ => RV.move rfl) ?_
                      refine DW.fixYB rfl rfl rfl rfl rfl hq11 (fun _ EQ => RV.fieldAddr Tf94_1 rfl) ?_
                      refine DW.fixYB rfl rfl rfl rfl rfl hq11 (fun _ EQ => RV.load1 Tk3 rfl (((H.grow EQ).blk 0 rfl).cells.off 1) rfl) ?_
                      refine DW.fixYB rfl rfl rfl rfl rfl hq11 (fun _ EQ => RV.loadA [.slice A_a0_worth a0.worth.length c_a0_worth] Tk24 rfl ((H.grow EQ).blk 2 rfl).cells rfl rfl) ?_
                      refine DW.soleYB rfl rfl rfl rfl rfl hq11 (OW.call Tc93 rfl (ref04_depth_ok (a0 := a0) (h_a0_worth.ext R0) hr2) ?_)
                      rintro _ w19 ⟨rfl, E12⟩
                      refine ⟨_, rfl, fun _ => E12, ModX.ext E12, ?_⟩
                      replace H := H.grow E12
                      replace R0 := H.ext
                      refine DW.fixYB rfl rfl rfl rfl rfl hq11 (fun _ EQ => RV.geq rfl rfl) ?_
                      refine DW.fix rfl rfl rfl (fun _ EQ => RV.pickFB rfl hq11 rfl) ?_
                      refine DW.fix rfl rfl rfl (fun _ EQ => RV.move rfl) ?_
                      refine DW.fixYB rfl rfl rfl rfl rfl hq12 (fun _ EQ => RV.fieldAddr Tf94_2 rfl) ?_
                      refine DW.fixYB rfl rfl rfl rfl rfl hq12 (fun _ EQ => RV.load1 Tk3 rfl (((H.grow EQ).blk 0 rfl).cells.off 2) rfl) ?_
                      refine DW.fixYB rfl rfl rfl rfl rfl hq12 (fun _ EQ => RV.fieldAddr Tf94_0 rfl) ?_
                      refine DW.fixYB rfl rfl rfl rfl rfl hq12 (fun _ EQ => RV.load1 Tk3 rfl (((H.grow EQ).blk 0 rfl).cells.off 0) rfl) ?_
                      refine DW.fixYB rfl rfl rfl rfl rfl hq12 (fun _ EQ => RV.sub rfl rfl hg8) ?_
                      refine DW.fixYB rfl rfl rfl rfl rfl hq12 (fun _ EQ => RV.max2 rfl rfl) ?_
                      refine DW.fixYB rfl rfl rfl rfl rfl hq12 (fun _ EQ => RV.lss rfl rfl) ?_
                      refine DW.fix rfl rfl rfl (fun _ EQ => RV.pickFB rfl hq12 rfl) ?_
                      refine DW.fix rfl rfl rfl (fun _ EQ => RV.move rfl) ?_
                      refine DW.fixNB rfl rfl rfl rfl rfl (ne_beq (v := true) hq13 rfl) ?_
                      refine DW.fixNB rfl rfl rfl rfl rfl (ne_beq (v := true) hq13 rfl) ?_
                      refine DW.fixNB rfl rfl rfl rfl rfl (ne_beq (v := true) hq13 rfl) ?_
                      refine DW.fixNB rfl rfl rfl rfl rfl (ne_beq (v := true) hq13 rfl) ?_
                      refine DW.fixNB rfl rfl rfl rfl rfl (ne_beq (v := true) hq13 rfl) ?_
                      refine DW.fixNB rfl rfl rfl rfl rfl (ne_beq (v := true) hq13 rfl) ?_
                      refine DW.fixNB rfl rfl rfl rfl rfl (ne_beq (v := true) hq13 rfl) ?_
                      refine DW.fixNB rfl rfl rfl rfl rfl (ne_beq (v := true) hq13 rfl) ?_
                      refine DW.fixNB rfl rfl rfl rfl rfl (ne_beq (v := true) hq13 rfl) ?_
                      refine DW.fix rfl rfl rfl (fun _ EQ => RV.pickTB rfl hq13 rfl) ?_
                      replace H := H.pick (L' := [.tab A54_0_worth c54_0_worth 25 hs54_0_worth 3 1 (encM encN m2), .blk b1 24 [.slice A_a0_worth a0.worth.length c_a0_worth], .blk b2 24 [.slice A54_0_worth m2.length c54_0_worth], .blk b3 94 [.int .i64 x3.column, .int .i64 x3.row, .int .i64 x3.to_, .int .i64 x3.amount]]) [1, 2, 3, 0] (by decide) rfl
                      replace R0 := H.ext
                      refine DW.nil (jK443 _ _ ⟨_, ?_, ⟨true, F, rfl, H⟩⟩)
                      exact ⟨rfl, rfl, rfl, rfl, rfl, rfl, rfl, rfl, rfl, trivial⟩
                    ·
                      replace F := ite_n hp13 F
                      have hq13 := dec_f hp13
                      obtain ⟨hg9, F⟩ := gd_some F
                      obtain ⟨hg10, F⟩ := gd_some F
                      refine CW.draw [] (fun _ => True) (.cons 0 1 (.cons 1 1 (.cons 2 1 (.cons 3 1 (.cons 4 1 (.cons 5 1 (.cons 6 1 (.cons 7 1 (.cons 8 1 (.cons 9 1 (.cons 10 1 (.cons 11 1 (.cons 12 1 (.cons 13 1 (.cons 14 1 (.cons 15 1 (.cons 16 1 (.cons 17 1 (.cons 18 0 (.cons 19 1 (.cons 20 1 (.cons 21 1 (.cons 22 1 (.cons 23 1 (.cons 24 1 (.cons 25 1 (.cons 26 1 (.cons 27 1 (.cons 28 1 (.cons 29 1 (.cons 30 1 (.cons 31 1 (.cons 32 1 (.cons 33 1 (.cons 34 1 (.cons 35 1 (.cons 36 1 (.cons 37 1 (.cons 38 1 (.cons 39 1 (.cons 40 1 .nil))))))))))))))))))))))))))))))))))))))))) mixed (by kernel_rfl) fun w20 E13 => ?_
                      replace H := H.grow E13
                      replace R0 := H.ext
                      refine DW.fix rfl rfl rfl (fun _ EQ => RV.fieldAddr Tf94_0 rfl) ?_
                      refine DW.fix rfl rfl rfl (fun _ EQ => RV.load1 Tk3 rfl (((H.grow EQ).blk 0 rfl).cells.off 0) rfl) ?_
                      refine DW.fix rfl rfl rfl (fun _ EQ => RV.lss rfl rfl) ?_
                      refine DW.fix rfl rfl rfl (fun _ EQ => RV.move rfl) ?_
                      refine DW.fixYB rfl rfl rfl rfl rfl hq9 (fun _ EQ => RV.fieldAddr Tf94_0 rfl) ?_
                      refine DW.fixYB rfl rfl rfl rfl rfl hq9 (fun _ EQ => RV.load1 Tk3 rfl (((H.grow EQ).blk 0 rfl).cells.off 0) rfl) ?_
                      refine DW.fixYB rfl rfl rfl rfl rfl hq9 (fun _ EQ => RV.move rfl) ?_
                      refine DW.fixYB rfl rfl rfl rfl rfl hq9 (fun _ EQ => RV.geq rfl rfl) ?_
                      refine DW.fix rfl rfl rfl (fun _ EQ => RV.pickFB rfl hq9 rfl) ?_
                      refine DW.fix rfl rfl rfl (fun _ EQ => RV.move rfl) ?_
                      refine DW.fixYB rfl rfl rfl rfl rfl hq10 (fun _ EQ => RV.fieldAddr Tf94_1 rfl) ?_
                      refine DW.fixYB rfl rfl rfl rfl rfl hq10 (fun _ EQ => RV.load1 Tk3 rfl (((H.grow EQ).blk 0 rfl).cells.off 1) rfl) ?_
                      refine DW.fixYB rfl rfl rfl rfl rfl hq10 (fun _ EQ => RV.lss rfl rfl) ?_
                      refine DW.fix rfl rfl rfl (fun _ EQ => RV.pickFB rfl hq10 rfl) ?_
                      refine DW.fix rfl rfl rfl (fun _ EQ => RV.move rfl) ?_
                      refine DW.fixYB rfl rfl rfl rfl rfl hq11 (fun _ EQ => RV.fieldAddr Tf94_1 rfl) ?_
                      refine DW.fixYB rfl rfl rfl rfl rfl hq11 (fun _ EQ => RV.load1 Tk3 rfl (((H.grow EQ).blk 0 rfl).cells.off 1) rfl) ?_
                      refine DW.fixYB rfl rfl rfl rfl rfl hq11 (fun _ EQ => RV.loadA [.slice A_a0_worth a0.worth.length c_a0_worth] Tk24 rfl ((H.grow EQ).blk 2 rfl).cells rfl rfl) ?_
                      refine DW.soleYB rfl rfl rfl rfl rfl hq11 (OW.call Tc93 rfl (ref04_depth_ok (a0 := a0) (h_a0_worth.ext R0) hr2) ?_)
                      rintro _ w21 ⟨rfl, E14⟩
                      refine ⟨_, rfl, fun _ => E14, ModX.ext E14, ?_⟩
                      replace H := H.grow E14
                      replace R0 := H.ext
                      refine DW.fixYB rfl rfl rfl rfl rfl hq11 (fun _ EQ => RV.geq rfl rfl) ?_
                      refine DW.fix rfl rfl rfl (fun _ EQ => RV.pickFB rfl hq11 rfl) ?_
                      refine DW.fix rfl rfl rfl (fun _ EQ => RV.move rfl) ?_
                      refine DW.fixYB rfl rfl rfl rfl rfl hq12 (fun _ EQ => RV.fieldAddr Tf94_2 rfl) ?_
                      refine DW.fixYB rfl rfl rfl rfl rfl hq12 (fun _ EQ => RV.load1 Tk3 rfl (((H.grow EQ).blk 0 rfl).cells.off 2) rfl) ?_
                      refine DW.fixYB rfl rfl rfl rfl rfl hq12 (fun _ EQ => RV.fieldAddr Tf94_0 rfl) ?_
                      refine DW.fixYB rfl rfl rfl rfl rfl hq12 (fun _ EQ => RV.load1 Tk3 rfl (((H.grow EQ).blk 0 rfl).cells.off 0) rfl) ?_
                      refine DW.fixYB rfl rfl rfl rfl rfl hq12 (fun _ EQ => RV.sub rfl rfl hg8) ?_
                      refine DW.fixYB rfl rfl rfl rfl rfl hq12 (fun _ EQ => RV.max2 rfl rfl) ?_
                      refine DW.fixYB rfl rfl rfl rfl rfl hq12 (fun _ EQ => RV.lss rfl rfl) ?_
                      refine DW.fix rfl rfl rfl (fun _ EQ => RV.pickFB rfl hq12 rfl) ?_
                      refine DW.fix rfl rfl rfl (fun _ EQ => RV.move rfl) ?_
                      refine DW.fixYB rfl rfl rfl rfl rfl hq13 (fun _ EQ => RV.fieldAddr Tf94_2 rfl) ?_
                      refine DW.fixYB rfl rfl rfl rfl rfl hq13 (fun _ EQ => RV.load1 Tk3 rfl (((H.grow EQ).blk 0 rfl).cells.off 2) rfl) ?_
                      refine DW.fixYB rfl rfl rfl rfl rfl hq13 (fun _ EQ => RV.move rfl) ?_
                      refine DW.fixYB rfl rfl rfl rfl rfl hq13 (fun _ EQ => RV.sub rfl rfl hg9) ?_
                      refine DW.fixYB rfl rfl rfl rfl rfl hq13 (fun _ EQ => RV.fieldAddr Tf94_0 rfl) ?_
                      refine DW.fixYB rfl rfl rfl rfl rfl hq13 (fun _ EQ => RV.load1 Tk3 rfl (((H.grow EQ).blk 0 rfl).cells.off 0) rfl) ?_
                      refine DW.fixYB rfl rfl rfl rfl rfl hq13 (fun _ EQ => RV.add rfl rfl hg10) ?_
                      refine DW.fixYB rfl rfl rfl rfl rfl hq13 (fun _ EQ => RV.min2 rfl rfl) ?_
                      refine DW.fixYB rfl rfl rfl rfl rfl hq13 (fun _ EQ => RV.gtr rfl rfl) ?_
                      refine DW.fix rfl rfl rfl (fun _ EQ => RV.pickFB rfl hq13 rfl) ?_
                      replace H := H.pick (L' := [.tab A54_0_worth c54_0_worth 25 hs54_0_worth 3 1 (encM encN m2), .blk b1 24 [.slice A_a0_worth a0.worth.length c_a0_worth], .blk b2 24 [.slice A54_0_worth m2.length c54_0_worth], .blk b3 94 [.int .i64 x3.column, .int .i64 x3.row, .int .i64 x3.to_, .int .i64 x3.amount]]) [1, 2, 3, 0] (by decide) rfl
                      replace R0 := H.ext
                      refine DW.nil (jK443 _ _ ⟨_, ?_, ⟨(decide ((min (((a0.worth.length : Int)) - 1) (x3.column + 1)) < x3.to_)), F, rfl, H⟩⟩)
                      exact ⟨rfl, rfl, rfl, rfl, rfl, rfl, rfl, rfl, rfl, trivial⟩
        ·
          replace F := ite_n hp5 F
          have hq5 := dec_f hp5
          refine CW.condF rfl hq5 ?_
          refine CW.exit (jK409 _ _ ⟨_, ?_, ⟨m2, F, rfl, H⟩⟩)
          exact ⟨rfl, rfl, rfl, rfl, rfl, trivial⟩
  ·
    replace F := ite_n hp1 F
    have hq1 := dec_f hp1
    refine CW.condT rfl (not_t hq1) ?_
    refine CW.seq fun K34 hK34 => ?_
    refine CW.region ?_
    refine LW.pure rfl rfl (RV.move rfl) ?_
    refine LW.pure rfl rfl (RV.assign rfl) ?_
    refine LW.pure rfl rfl (RV.assign rfl) ?_
    refine LW.nil (hK34 _ _ ?_)
    refine CW.ret ?_
    obtain rfl := Option.some.inj F
    refine ⟨_, (ResOK.two rfl rfl), ?_⟩
    refine ⟨(by first | rfl | simp), R0⟩
end Go.D4

set_option linter.unusedVariables false
set_option linter.unusedSimpArgs false
namespace Go.D4
open Go.Tb Go.Proofs Go.RowKit
theorem Tc55 : callable Try.prog 55 = true := by kernel_rfl
theorem Tc56 : callable Try.prog 56 = true := by kernel_rfl
set_option maxRecDepth 20000 in
set_option maxHeartbeats 1000000 in
theorem law04_CutProofs_ok {a0 : Bog} {a1 : List Pass} {a2 : List Int} {A_a0_worth : Option Addr} {c_a0_worth : Nat} {A_a1 : Option Addr} {c_a1 : Nat} {A_a2 : Option Addr} {c_a2 : Nat} {w : World} {res : Bool} (h_a0_worth : Sl2 w A_a0_worth c_a0_worth 1 encN a0.worth) (h_a1 : Sl w A_a1 c_a1 4 (a1.map encPass)) (h_a2 : Sl w A_a2 c_a2 1 (a2.map encN)) (F : law04_CutProofs a0 a1 a2 = some res) : Calls Try.prog 13 #[.agg #[.slice A_a0_worth a0.worth.length c_a0_worth], .slice A_a1 a1.length c_a1, .slice A_a2 a2.length c_a2] w (Rt w (.bool res)) := by
  refine calls_of_cw (args := [.agg #[.slice A_a0_worth a0.worth.length c_a0_worth], .slice A_a1 a1.length c_a1, .slice A_a2 a2.length c_a2]) Try.func13 rfl rfl rfl rfl ?_
  have H := Hp.start w
  have R0 := H.ext
  unfold law04_CutProofs at F
  refine CW.seq fun K1 hK1 => ?_
  refine CW.region ?_
  refine LW.go rfl rfl (OW.box rfl fun b1 w1 N1 => ?_)
  replace H := H.new N1 N1.blk
  replace R0 := H.ext
  refine LW.pure rfl rfl (RV.assign rfl) ?_
  refine LW.nil (hK1 _ _ ?_)
  refine CW.seq fun K2 hK2 => ?_
  refine CW.seqJ (fun ρ wl1 => (∃ (t24_1 : Bool), law04_CutProofs_k2 a0 a1 a2 t24_1 = some res ∧ ρ = [(1, .slice A_a1 a1.length c_a1), (2, .slice A_a2 a2.length c_a2), (3, .pointer (some (⟨b1, 0, none⟩))), (6, .bool false), (24, .bool t24_1)] ∧ Hp w wl1 [.blk b1 24 [.slice A_a0_worth a0.worth.length c_a0_worth]])) ?_ ?_
  ·
    rintro _ wl1 ⟨t24_1, F, rfl, H⟩
    have R0 := H.ext
    unfold law04_CutProofs_k2 at F
    by_cases hp1 : t24_1 = true
    ·
      replace F := ite_y hp1 F
      have hq1 : t24_1 = true := hp1
      refine CW.condT rfl hq1 ?_
      refine CW.seq fun K3 hK3 => ?_
      obtain ⟨r7, hr7, F⟩ := bnd_some F
      refine CW.region ?_
      refine LW.go rfl rfl (OW.call Tc18 rfl (law04_sane_ok hr7) ?_)
      rintro _ w2 ⟨rfl, E1⟩
      refine ⟨_, rfl, ?_⟩
      replace H := H.grow E1
      replace R0 := H.ext
      refine LW.pure rfl rfl (RV.assign rfl) ?_
      refine LW.nil (hK3 _ _ ?_)
      refine CW.ret ?_
      obtain rfl := Option.some.inj F
      refine ⟨_, (ResOK.one rfl), ?_⟩
      refine ⟨(by first | rfl | simp), R0⟩
    ·
      replace F := ite_n hp1 F
      have hq1 : t24_1 = false := raw_f hp1
      refine CW.condF rfl hq1 ?_
      refine CW.skip (hK2 _ _ ?_)
      refine CW.seq fun K4 hK4 => ?_
      obtain ⟨r1, hr1, F⟩ := bnd_some F
      refine CW.region ?_
      refine LW.pure rfl rfl (RV.loadA [.slice A_a0_worth a0.worth.length c_a0_worth] Tk24 rfl (H.blk 0 rfl).cells rfl rfl) ?_
      refine LW.pure rfl rfl (RV.move rfl) ?_
      refine LW.go rfl rfl (OW.call Tc55 rfl (cut_CheckProof_ok (a0 := a0) (a1 := a1) (h_a0_worth.ext R0) (h_a1.ext R0) hr1) ?_)
      rintro _ w3 ⟨rfl, E2⟩
      refine ⟨_, rfl, ?_⟩
      replace H := H.grow E2
      replace R0 := H.ext
      refine LW.pure rfl rfl (RV.move rfl) ?_
      refine LW.pure rfl rfl (RV.extract rfl rfl) ?_
      refine LW.pure rfl rfl (RV.extract rfl rfl) ?_
      refine LW.pure rfl rfl (RV.assign rfl) ?_
      refine LW.pure rfl rfl (RV.assign rfl) ?_
      refine LW.nil (hK4 _ _ ?_)
      refine CW.seq fun K5 hK5 => ?_
      obtain ⟨r8, hr8, F⟩ := bnd_some F
      refine CW.region ?_
      refine LW.pure rfl rfl (RV.loadA [.slice A_a0_worth a0.worth.length c_a0_worth] Tk24 rfl (H.blk 0 rfl).cells rfl rfl) ?_
      refine LW.pure rfl rfl (RV.move rfl) ?_
      refine LW.go rfl rfl (OW.call Tc56 rfl (ref04_CheckProof_ok (a0 := a0) (a1 := a1) (h_a0_worth.ext R0) (h_a1.ext R0) hr8) ?_)
      rintro _ w4 ⟨rfl, E3⟩
      refine ⟨_, rfl, ?_⟩
      replace H := H.grow E3
      replace R0 := H.ext
      refine LW.pure rfl rfl (RV.move rfl) ?_
      refine LW.pure rfl rfl (RV.extract rfl rfl) ?_
      refine LW.pure rfl rfl (RV.extract rfl rfl) ?_
      refine LW.pure rfl rfl (RV.assign rfl) ?_
      refine LW.pure rfl rfl (RV.assign rfl) ?_
      refine LW.nil (hK5 _ _ ?_)
      refine CW.seq fun K6 hK6 => ?_
      refine CW.seqJ (fun ρ wl2 => (∃ (t45_1 : Bool), law04_CutProofs_k1 a0 a2 r1 t45_1 = some res ∧ ρ = [(2, .slice A_a2 a2.length c_a2), (3, .pointer (some (⟨b1, 0, none⟩))), (6, .bool false), (7, .int .i64 r1.1), (8, .int .i64 r1.2), (45, .bool t45_1)] ∧ Hp w wl2 [.blk b1 24 [.slice A_a0_worth a0.worth.length c_a0_worth]])) ?_ ?_
      ·
        rintro _ wl2 ⟨t45_1, F, rfl, H⟩
        have R0 := H.ext
        unfold law04_CutProofs_k1 at F
        by_cases hp2 : t45_1 = true
        ·
          replace F := ite_y hp2 F
          have hq2 : t45_1 = true := hp2
          refine CW.condT rfl hq2 ?_
          refine CW.seq fun K7 hK7 => ?_
          refine CW.region ?_
          refine LW.pure rfl rfl (RV.assign rfl) ?_
          refine LW.nil (hK7 _ _ ?_)
          refine CW.ret ?_
          obtain rfl := Option.some.inj F
          refine ⟨_, (ResOK.one rfl), ?_⟩
          refine ⟨(by first | rfl | simp), R0⟩
        ·
          replace F := ite_n hp2 F
          have hq2 : t45_1 = false := raw_f hp2
          refine CW.condF rfl hq2 ?_
          refine CW.skip (hK6 _ _ ?_)
          refine CW.seq fun K8 hK8 => ?_
          obtain ⟨r2, hr2, F⟩ := bnd_some F
          refine CW.region ?_
          refine LW.pure rfl rfl (RV.loadA [.slice A_a0_worth a0.worth.length c_a0_worth] Tk24 rfl (H.blk 0 rfl).cells rfl rfl) ?_
          refine LW.pure rfl rfl (RV.move rfl) ?_
          refine LW.go rfl rfl (OW.call Tc23 rfl (cut_Worth_ok (a0 := a0) (a1 := a2) (h_a0_worth.ext R0) (h_a2.ext R0) hr2) ?_)
          rintro _ w5 ⟨rfl, E4⟩
          refine ⟨_, rfl, ?_⟩
          replace H := H.grow E4
          replace R0 := H.ext
          refine LW.pure rfl rfl (RV.move rfl) ?_
          refine LW.pure rfl rfl (RV.extract rfl rfl) ?_
          refine LW.pure rfl rfl (RV.extract rfl rfl) ?_
          refine LW.pure rfl rfl (RV.assign rfl) ?_
          refine LW.pure rfl rfl (RV.assign rfl) ?_
          refine LW.nil (hK8 _ _ ?_)
          refine CW.seq fun K9 hK9 => ?_
          obtain ⟨r3, hr3, F⟩ := bnd_some F
          refine CW.region ?_
          refine LW.pure rfl rfl (RV.loadA [.slice A_a0_worth a0.worth.length c_a0_worth] Tk24 rfl (H.blk 0 rfl).cells rfl rfl) ?_
          refine LW.go rfl rfl (OW.call Tc28 rfl (cut_Best_ok (a0 := a0) (h_a0_worth.ext R0) hr3) ?_)
          rintro _ w6 ⟨A21_0, c21_0, rfl, E5⟩
          refine ⟨_, rfl, ?_⟩
          replace H : Hp w w6 [.own A21_0 c21_0 3 1 (List.map encN r3.1), .blk b1 24 [.slice A_a0_worth a0.worth.length c_a0_worth]] := H.append E5
          replace R0 := H.ext
          refine LW.pure rfl rfl (RV.move rfl) ?_
          refine LW.pure rfl rfl (RV.extract rfl rfl) ?_
          refine LW.pure rfl rfl (RV.extract rfl rfl) ?_
          refine LW.pure rfl rfl (RV.extract rfl rfl) ?_
          refine LW.pure rfl rfl (RV.assign rfl) ?_
          refine LW.pure rfl rfl (RV.assign rfl) ?_
          refine LW.pure rfl rfl (RV.assign rfl) ?_
          refine LW.nil (hK9 _ _ ?_)
          refine CW.seq fun K10 hK10 => ?_
          by_cases hp3 : r1.2 = 0
          ·
            replace F := ite_y hp3 F
            have hq3 := dec_t hp3
            by_cases hp4 : r3.2.2 = 0
            ·
              replace F := ite_y hp4 F
              have hq4 := dec_t hp4
              by_cases hp5 : r3.2.1 ≤ r1.1
              ·
                replace F := ite_y hp5 F
                have hq5 := dec_t hp5
                by_cases hp6 : r2.2 = 0
                ·
                  replace F := ite_y hp6 F
                  have hq6 := dec_t hp6
                  by_cases hp7 : r2.1 ≤ r1.1
                  ·
                    replace F := ite_y hp7 F
                    have hq7 := dec_t hp7
                    obtain ⟨r4, hr4, F⟩ := bnd_some F
                    refine CW.region ?_
                    refine LW.pure rfl rfl (RV.move rfl) ?_
                    refine LW.pure rfl rfl (RV.nei rfl rfl) ?_
                    refine LW.pure rfl rfl (RV.move rfl) ?_
                    refine LW.pureYB rfl rfl rfl rfl (not_f hq3) (RV.move rfl) ?_
                    refine LW.pureYB rfl rfl rfl rfl (not_f hq3) (RV.eqi rfl rfl) ?_
                    refine LW.pureYB rfl rfl rfl rfl (not_f hq3) (RV.move rfl) ?_
                    refine LW.pureYB rfl rfl rfl rfl hq4 (RV.move rfl) ?_
                    refine LW.pureYB rfl rfl rfl rfl hq4 (RV.move rfl) ?_
                    refine LW.pureYB rfl rfl rfl rfl hq4 (RV.leq rfl rfl) ?_
                    refine LW.pureYB rfl rfl rfl rfl (not_f hq3) (RV.pickTB rfl hq4 rfl) ?_
                    refine LW.pureYB rfl rfl rfl rfl (not_f hq3) (RV.move rfl) ?_
                    refine LW.pureYB rfl rfl rfl rfl hq5 (RV.move rfl) ?_
                    refine LW.pureYB rfl rfl rfl rfl hq5 (RV.nei rfl rfl) ?_
                    refine LW.pureYB rfl rfl rfl rfl hq5 (RV.move rfl) ?_
                    refine LW.pureYB rfl rfl rfl rfl (not_f hq6) (RV.move rfl) ?_
                    refine LW.pureYB rfl rfl rfl rfl (not_f hq6) (RV.move rfl) ?_
                    refine LW.pureYB rfl rfl rfl rfl (not_f hq6) (RV.leq rfl rfl) ?_
                    refine LW.pureYB rfl rfl rfl rfl hq5 (RV.pickFB rfl (not_f hq6) rfl) ?_
                    refine LW.pureYB rfl rfl rfl rfl (not_f hq3) (RV.pickTB rfl hq5 rfl) ?_
                    refine LW.pure rfl rfl (RV.pickFB rfl (not_f hq3) rfl) ?_
                    refine LW.pure rfl rfl (RV.move rfl) ?_
                    refine LW.yesB rfl rfl rfl rfl hq7 (OW.call Tc18 rfl (law04_sane_ok hr4) ?_)
                    rintro _ w7 ⟨rfl, E6⟩
                    refine ⟨_, rfl, ?_⟩
                    replace H := H.grow E6
                    replace R0 := H.ext
                    refine LW.pure rfl rfl (RV.pickTB rfl hq7 rfl) ?_
                    refine LW.pure rfl rfl (RV.assign rfl) ?_
                    refine LW.nil (hK10 _ _ ?_)
                    refine CW.ret ?_
                    obtain rfl := Option.some.inj F
                    refine ⟨_, (ResOK.one rfl), ?_⟩
                    refine ⟨(by first | rfl | simp), R0⟩
                  ·
                    replace F := ite_n hp7 F
                    have hq7 := dec_f hp7
                    refine CW.region ?_
                    refine LW.pure rfl rfl (RV.move rfl) ?_
                    refine LW.pure rfl rfl (RV.nei rfl rfl) ?_
                    refine LW.pure rfl rfl (RV.move rfl) ?_
                    refine LW.pureYB rfl rfl rfl rfl (not_f hq3) (RV.move rfl) ?_
                    refine LW.pureYB rfl rfl rfl rfl (not_f hq3) (RV.eqi rfl rfl) ?_
                    refine LW.pureYB rfl rfl rfl rfl (not_f hq3) (RV.move rfl) ?_
                    refine LW.pureYB rfl rfl rfl rfl hq4 (RV.move rfl) ?_
                    refine LW.pureYB rfl rfl rfl rfl hq4 (RV.move rfl) ?_
                    refine LW.pureYB rfl rfl rfl rfl hq4 (RV.leq rfl rfl) ?_
                    refine LW.pureYB rfl rfl rfl rfl (not_f hq3) (RV.pickTB rfl hq4 rfl) ?_
                    refine LW.pureYB rfl rfl rfl rfl (not_f hq3) (RV.move rfl) ?_
                    refine LW.pureYB rfl rfl rfl rfl hq5 (RV.move rfl) ?_
                    refine LW.pureYB rfl rfl rfl rfl hq5 (RV.nei rfl rfl) ?_
                    refine LW.pureYB rfl rfl rfl rfl hq5 (RV.move rfl) ?_
                    refine LW.pureYB rfl rfl rfl rfl (not_f hq6) (RV.move rfl) ?_
                    refine LW.pureYB rfl rfl rfl rfl (not_f hq6) (RV.move rfl) ?_
                    refine LW.pureYB rfl rfl rfl rfl (not_f hq6) (RV.leq rfl rfl) ?_
                    refine LW.pureYB rfl rfl rfl rfl hq5 (RV.pickFB rfl (not_f hq6) rfl) ?_
                    refine LW.pureYB rfl rfl rfl rfl (not_f hq3) (RV.pickTB rfl hq5 rfl) ?_
                    refine LW.pure rfl rfl (RV.pickFB rfl (not_f hq3) rfl) ?_
                    refine LW.pure rfl rfl (RV.move rfl) ?_
                    refine LW.noB rfl rfl rfl rfl (ne_beq (v := false) hq7 rfl) ?_
                    refine LW.pure rfl rfl (RV.pickFB rfl hq7 rfl) ?_
                    refine LW.pure rfl rfl (RV.assign rfl) ?_
                    refine LW.nil (hK10 _ _ ?_)
                    refine CW.ret ?_
                    obtain rfl := Option.some.inj F
                    refine ⟨_, (ResOK.one rfl), ?_⟩
                    refine ⟨(by first | rfl | simp), R0⟩
                ·
                  replace F := ite_n hp6 F
                  have hq6 := dec_f hp6
                  obtain ⟨r5, hr5, F⟩ := bnd_some F
                  refine CW.region ?_
                  refine LW.pure rfl rfl (RV.move rfl) ?_
                  refine LW.pure rfl rfl (RV.nei rfl rfl) ?_
                  refine LW.pure rfl rfl (RV.move rfl) ?_
                  refine LW.pureYB rfl rfl rfl rfl (not_f hq3) (RV.move rfl) ?_
                  refine LW.pureYB rfl rfl rfl rfl (not_f hq3) (RV.eqi rfl rfl) ?_
                  refine LW.pureYB rfl rfl rfl rfl (not_f hq3) (RV.move rfl) ?_
                  refine LW.pureYB rfl rfl rfl rfl hq4 (RV.move rfl) ?_
                  refine LW.pureYB rfl rfl rfl rfl hq4 (RV.move rfl) ?_
                  refine LW.pureYB rfl rfl rfl rfl hq4 (RV.leq rfl rfl) ?_
                  refine LW.pureYB rfl rfl rfl rfl (not_f hq3) (RV.pickTB rfl hq4 rfl) ?_
                  refine LW.pureYB rfl rfl rfl rfl (not_f hq3) (RV.move rfl) ?_
                  refine LW.pureYB rfl rfl rfl rfl hq5 (RV.move rfl) ?_
                  refine LW.pureYB rfl rfl rfl rfl hq5 (RV.nei rfl rfl) ?_
                  refine LW.pureYB rfl rfl rfl rfl hq5 (RV.move rfl) ?_
                  refine LW.noB rfl rfl rfl rfl (ne_beq (v := true) (not_t hq6) rfl) ?_
                  refine LW.noB rfl rfl rfl rfl (ne_beq (v := true) (not_t hq6) rfl) ?_
                  refine LW.noB rfl rfl rfl rfl (ne_beq (v := true) (not_t hq6) rfl) ?_
                  refine LW.pureYB rfl rfl rfl rfl hq5 (RV.pickTB rfl (not_t hq6) rfl) ?_
                  refine LW.pureYB rfl rfl rfl rfl (not_f hq3) (RV.pickTB rfl hq5 rfl) ?_
                  refine LW.pure rfl rfl (RV.pickFB rfl (not_f hq3) rfl) ?_
                  refine LW.pure rfl rfl (RV.move rfl) ?_
                  refine LW.yesB rfl rfl rfl rfl rfl (OW.call Tc18 rfl (law04_sane_ok hr5) ?_)
                  rintro _ w8 ⟨rfl, E7⟩
                  refine ⟨_, rfl, ?_⟩
                  replace H := H.grow E7
                  replace R0 := H.ext
                  refine LW.pure rfl rfl (RV.pickTB rfl rfl rfl) ?_
                  refine LW.pure rfl rfl (RV.assign rfl) ?_
                  refine LW.nil (hK10 _ _ ?_)
                  refine CW.ret ?_
                  obtain rfl := Option.some.inj F
                  refine ⟨_, (ResOK.one rfl), ?_⟩
                  refine ⟨(by first | rfl | simp), R0⟩
              ·
                replace F := ite_n hp5 F
                have hq5 := dec_f hp5
                refine CW.region ?_
                refine LW.pure rfl rfl (RV.move rfl) ?_
                refine LW.pure rfl rfl (RV.nei rfl rfl) ?_
                refine LW.pure rfl rfl (RV.move rfl) ?_
                refine LW.pureYB rfl rfl rfl rfl (not_f hq3) (RV.move rfl) ?_
                refine LW.pureYB rfl rfl rfl rfl (not_f hq3) (RV.eqi rfl rfl) ?_
                refine LW.pureYB rfl rfl rfl rfl (not_f hq3) (RV.move rfl) ?_
                refine LW.pureYB rfl rfl rfl rfl hq4 (RV.move rfl) ?_
                refine LW.pureYB rfl rfl rfl rfl hq4 (RV.move rfl) ?_
                refine LW.pureYB rfl rfl rfl rfl hq4 (RV.leq rfl rfl) ?_
                refine LW.pureYB rfl rfl rfl rfl (not_f hq3) (RV.pickTB rfl hq4 rfl) ?_
                refine LW.pureYB rfl rfl rfl rfl (not_f hq3) (RV.move rfl) ?_
                refine LW.noB rfl rfl rfl rfl (ne_beq (v := false) hq5 rfl) ?_
                refine LW.noB rfl rfl rfl rfl (ne_beq (v := false) hq5 rfl) ?_
                refine LW.noB rfl rfl rfl rfl (ne_beq (v := false) hq5 rfl) ?_
                refine LW.noU rfl rfl rfl rfl ?_
                refine LW.noU rfl rfl rfl rfl ?_
                refine LW.noU rfl rfl rfl rfl ?_
                refine LW.noB rfl rfl rfl rfl (ne_beq (v := false) hq5 rfl) ?_
                refine LW.pureYB rfl rfl rfl rfl (not_f hq3) (RV.pickFB rfl hq5 rfl) ?_
                refine LW.pure rfl rfl (RV.pickFB rfl (not_f hq3) rfl) ?_
                refine LW.pure rfl rfl (RV.move rfl) ?_
                refine LW.noB rfl rfl rfl rfl (ne_beq (v := false) rfl rfl) ?_
                refine LW.pure rfl rfl (RV.pickFB rfl rfl rfl) ?_
                refine LW.pure rfl rfl (RV.assign rfl) ?_
                refine LW.nil (hK10 _ _ ?_)
                refine CW.ret ?_
                obtain rfl := Option.some.inj F
                refine ⟨_, (ResOK.one rfl), ?_⟩
                refine ⟨(by first | rfl | simp), R0⟩
            ·
              replace F := ite_n hp4 F
              have hq4 := dec_f hp4
              refine CW.region ?_
              refine LW.pure rfl rfl (RV.move rfl) ?_
              refine LW.pure rfl rfl (RV.nei rfl rfl) ?_
              refine LW.pure rfl rfl (RV.move rfl) ?_
              refine LW.pureYB rfl rfl rfl rfl (not_f hq3) (RV.move rfl) ?_
              refine LW.pureYB rfl rfl rfl rfl (not_f hq3) (RV.eqi rfl rfl) ?_
              refine LW.pureYB rfl rfl rfl rfl (not_f hq3) (RV.move rfl) ?_
              refine LW.noB rfl rfl rfl rfl (ne_beq (v := false) hq4 rfl) ?_
              refine LW.noB rfl rfl rfl rfl (ne_beq (v := false) hq4 rfl) ?_
              refine LW.noB rfl rfl rfl rfl (ne_beq (v := false) hq4 rfl) ?_
              refine LW.pureYB rfl rfl rfl rfl (not_f hq3) (RV.pickFB rfl hq4 rfl) ?_
              refine LW.pureYB rfl rfl rfl rfl (not_f hq3) (RV.move rfl) ?_
              refine LW.noB rfl rfl rfl rfl (ne_beq (v := false) rfl rfl) ?_
              refine LW.noB rfl rfl rfl rfl (ne_beq (v := false) rfl rfl) ?_
              refine LW.noB rfl rfl rfl rfl (ne_beq (v := false) rfl rfl) ?_
              refine LW.noU rfl rfl rfl rfl ?_
              refine LW.noU rfl rfl rfl rfl ?_
              refine LW.noU rfl rfl rfl rfl ?_
              refine LW.noB rfl rfl rfl rfl (ne_beq (v := false) rfl rfl) ?_
              refine LW.pureYB rfl rfl rfl rfl (not_f hq3) (RV.pickFB rfl rfl rfl) ?_
              refine LW.pure rfl rfl (RV.pickFB rfl (not_f hq3) rfl) ?_
              refine LW.pure rfl rfl (RV.move rfl) ?_
              refine LW.noB rfl rfl rfl rfl (ne_beq (v := false) rfl rfl) ?_
              refine LW.pure rfl rfl (RV.pickFB rfl rfl rfl) ?_
              refine LW.pure rfl rfl (RV.assign rfl) ?_
              refine LW.nil (hK10 _ _ ?_)
              refine CW.ret ?_
              obtain rfl := Option.some.inj F
              refine ⟨_, (ResOK.one rfl), ?_⟩
              refine ⟨(by first | rfl | simp), R0⟩
          ·
            replace F := ite_n hp3 F
            have hq3 := dec_f hp3
            obtain ⟨r6, hr6, F⟩ := bnd_some F
            refine CW.region ?_
            refine LW.pure rfl rfl (RV.move rfl) ?_
            refine LW.pure rfl rfl (RV.nei rfl rfl) ?_
            refine LW.pure rfl rfl (RV.move rfl) ?_
            refine LW.noB rfl rfl rfl rfl (ne_beq (v := true) (not_t hq3) rfl) ?_
            refine LW.noB rfl rfl rfl rfl (ne_beq (v := true) (not_t hq3) rfl) ?_
            refine LW.noB rfl rfl rfl rfl (ne_beq (v := true) (not_t hq3) rfl) ?_
            refine LW.noU rfl rfl rfl rfl ?_
            refine LW.noU rfl rfl rfl rfl ?_
            refine LW.noU rfl rfl rfl rfl ?_
            refine LW.noB rfl rfl rfl rfl (ne_beq (v := true) (not_t hq3) rfl) ?_
            refine LW.noB rfl rfl rfl rfl (ne_beq (v := true) (not_t hq3) rfl) ?_
            refine LW.noU rfl rfl rfl rfl ?_
            refine LW.noU rfl rfl rfl rfl ?_
            refine LW.noU rfl rfl rfl rfl ?_
            refine LW.noU rfl rfl rfl rfl ?_
            refine LW.noU rfl rfl rfl rfl ?_
            refine LW.noU rfl rfl rfl rfl ?_
            refine LW.noU rfl rfl rfl rfl ?_
            refine LW.noB rfl rfl rfl rfl (ne_beq (v := true) (not_t hq3) rfl) ?_
            refine LW.pure rfl rfl (RV.pickTB rfl (not_t hq3) rfl) ?_
            refine LW.pure rfl rfl (RV.move rfl) ?_
            refine LW.yesB rfl rfl rfl rfl rfl (OW.call Tc18 rfl (law04_sane_ok hr6) ?_)
            rintro _ w9 ⟨rfl, E8⟩
            refine ⟨_, rfl, ?_⟩
            replace H := H.grow E8
            replace R0 := H.ext
            refine LW.pure rfl rfl (RV.pickTB rfl rfl rfl) ?_
            refine LW.pure rfl rfl (RV.assign rfl) ?_
            refine LW.nil (hK10 _ _ ?_)
            refine CW.ret ?_
            obtain rfl := Option.some.inj F
            refine ⟨_, (ResOK.one rfl), ?_⟩
            refine ⟨(by first | rfl | simp), R0⟩
      ·
        intro K11 hK11 jK23
        by_cases hp8 : r1.1 = r8.1
        ·
          replace F := ite_y hp8 F
          have hq8 := dec_t hp8
          refine CW.region ?_
          refine LW.pure rfl rfl (RV.move rfl) ?_
          refine LW.pure rfl rfl (RV.move rfl) ?_
          refine LW.pure rfl rfl (RV.nei rfl rfl) ?_
          refine LW.pure rfl rfl (RV.move rfl) ?_
          refine LW.pureYB rfl rfl rfl rfl (not_f hq8) (RV.move rfl) ?_
          refine LW.pureYB rfl rfl rfl rfl (not_f hq8) (RV.move rfl) ?_
          refine LW.pureYB rfl rfl rfl rfl (not_f hq8) (RV.nei rfl rfl) ?_
          refine LW.pure rfl rfl (RV.pickFB rfl (not_f hq8) rfl) ?_
          refine LW.nil (jK23 _ _ ⟨_, ?_, ⟨(!(decide (r1.2 = r8.2))), F, rfl, H⟩⟩)
          exact ⟨rfl, rfl, rfl, rfl, rfl, rfl, trivial⟩
        ·
          replace F := ite_n hp8 F
          have hq8 := dec_f hp8
          refine CW.region ?_
          refine LW.pure rfl rfl (RV.move rfl) ?_
          refine LW.pure rfl rfl (RV.move rfl) ?_
          refine LW.pure rfl rfl (RV.nei rfl rfl) ?_
          refine LW.pure rfl rfl (RV.move rfl) ?_
          refine LW.noB rfl rfl rfl rfl (ne_beq (v := true) (not_t hq8) rfl) ?_
          refine LW.noB rfl rfl rfl rfl (ne_beq (v := true) (not_t hq8) rfl) ?_
          refine LW.noB rfl rfl rfl rfl (ne_beq (v := true) (not_t hq8) rfl) ?_
          refine LW.pure rfl rfl (RV.pickTB rfl (not_t hq8) rfl) ?_
          refine LW.nil (jK23 _ _ ⟨_, ?_, ⟨true, F, rfl, H⟩⟩)
          exact ⟨rfl, rfl, rfl, rfl, rfl, rfl, trivial⟩
  ·
    intro K12 hK12 jK24
    obtain ⟨r9, hr9, F⟩ := bnd_some F
    by_cases hp9 : r9 = true
    ·
      replace F := ite_y hp9 F
      have hq9 : r9 = true := hp9
      refine CW.region ?_
      refine LW.pure rfl rfl (RV.loadA [.slice A_a0_worth a0.worth.length c_a0_worth] Tk24 rfl (H.blk 0 rfl).cells rfl rfl) ?_
      refine LW.pure rfl rfl (RV.move rfl) ?_
      refine LW.go rfl rfl (OW.buildSlice (e := 25) (vs := [.slice A_a2 a2.length c_a2]) (cs := [.slice A_a2 a2.length c_a2]) rfl (fun _ => by kernel_rfl) fun b2 w10 N2 => ?_)
      replace H := H.made' (k := 1) (t := 25) (enc := encH) (l := ([((A_a2, c_a2), a2)] : List ((Option Addr × Nat) × List Int))) N2 (by have q := N2.blk; simp only [List.flatMap_cons, List.flatMap_nil, encH, List.length_nil, List.append_nil, List.cons_append, List.nil_append]; first | done | exact q) (fun _ => rfl) rfl (by first | decide | omega | (simp; done) | (simp; omega))
      replace R0 := H.ext
      have hS25 : Sl2 w10 (some ⟨b2, 0, none⟩) 1 1 encN [a2] := Sl2.one (H.own 0 rfl).sl (h_a2.ext R0)
      refine LW.go rfl rfl (OW.call Tc17 (evs_cast rfl (by first | rfl | (simp; done) | (simp; omega))) (law04_Long_ok (a0 := a0) (a1 := ([a2] : List (List Int))) (h_a0_worth.ext R0) hS25 hr9) ?_)
      rintro _ w11 ⟨rfl, E9⟩
      refine ⟨_, rfl, ?_⟩
      have hS25 := hS25.ext E9
      replace H := H.grow E9
      replace R0 := H.ext
      refine LW.pure rfl rfl (RV.move rfl) ?_
      refine LW.noB rfl rfl rfl rfl (ne_beq (v := true) hq9 rfl) ?_
      refine LW.noB rfl rfl rfl rfl (ne_beq (v := true) hq9 rfl) ?_
      refine LW.noB rfl rfl rfl rfl (ne_beq (v := true) hq9 rfl) ?_
      refine LW.pure rfl rfl (RV.pickTB rfl hq9 rfl) ?_
      replace H := H.pick (L' := [.blk b1 24 [.slice A_a0_worth a0.worth.length c_a0_worth]]) [1] (by decide) rfl
      replace R0 := H.ext
      refine LW.nil (jK24 _ _ ⟨_, ?_, ⟨true, F, rfl, H⟩⟩)
      exact ⟨rfl, rfl, rfl, rfl, rfl, trivial⟩
    ·
      replace F := ite_n hp9 F
      have hq9 : r9 = false := raw_f hp9
      refine CW.region ?_
      refine LW.pure rfl rfl (RV.loadA [.slice A_a0_worth a0.worth.length c_a0_worth] Tk24 rfl (H.blk 0 rfl).cells rfl rfl) ?_
      refine LW.pure rfl rfl (RV.move rfl) ?_
      refine LW.go rfl rfl (OW.buildSlice (e := 25) (vs := [.slice A_a2 a2.length c_a2]) (cs := [.slice A_a2 a2.length c_a2]) rfl (fun _ => by kernel_rfl) fun b3 w12 N3 => ?_)
      replace H := H.made' (k := 1) (t := 25) (enc := encH) (l := ([((A_a2, c_a2), a2)] : List ((Option Addr × Nat) × List Int))) N3 (by have q := N3.blk; simp only [List.flatMap_cons, List.flatMap_nil, encH, List.length_nil, List.append_nil, List.cons_append, List.nil_append]; first | done | exact q) (fun _ => rfl) rfl (by first | decide | omega | (simp; done) | (simp; omega))
      replace R0 := H.ext
      have hS26 : Sl2 w12 (some ⟨b3, 0, none⟩) 1 1 encN [a2] := Sl2.one (H.own 0 rfl).sl (h_a2.ext R0)
      refine LW.go rfl rfl (OW.call Tc17 (evs_cast rfl (by first | rfl | (simp; done) | (simp; omega))) (law04_Long_ok (a0 := a0) (a1 := ([a2] : List (List Int))) (h_a0_worth.ext R0) hS26 hr9) ?_)
      rintro _ w13 ⟨rfl, E10⟩
      refine ⟨_, rfl, ?_⟩
      have hS26 := hS26.ext E10
      replace H := H.grow E10
      replace R0 := H.ext
      refine LW.pure rfl rfl (RV.move rfl) ?_
      refine LW.pureYB rfl rfl rfl rfl hq9 (RV.move rfl) ?_
      refine LW.pureYB rfl rfl rfl rfl hq9 (RV.len Ts55 rfl) ?_
      refine LW.pureYB rfl rfl rfl rfl hq9 (RV.gtr rfl rfl) ?_
      refine LW.pure rfl rfl (RV.pickFB rfl hq9 rfl) ?_
      replace H := H.pick (L' := [.blk b1 24 [.slice A_a0_worth a0.worth.length c_a0_worth]]) [1] (by decide) rfl
      replace R0 := H.ext
      refine LW.nil (jK24 _ _ ⟨_, ?_, ⟨(decide ((200 : Int) < ((a1.length : Int)))), F, rfl, H⟩⟩)
      exact ⟨rfl, rfl, rfl, rfl, rfl, trivial⟩
end Go.D4

namespace Go.Tb
/-- A loop over 0 .. N - 1 with a state, that is left at the first i for which p does not hold. -/
theorem scan_loop {S R : Type} (N : Nat) (p : Nat → Bool) (g : Nat → S) (L : Nat → S → Int → Option R) (yes : Option R) (no : Nat → Option R)
    (step : ∀ n i : Nat, i < N → L (n + 1) (g i) (i : Int) = if p i = true then L n (g (i + 1)) ((i + 1 : Nat) : Int) else no i)
    (stop : ∀ n : Nat, L (n + 1) (g N) (N : Int) = yes) : ∀ (d n i : Nat), N = i + d → d < n → L n (g i) (i : Int) = match (List.range' i d).find? (fun j => !p j) with | none => yes | some j => no j
  | 0, n + 1, i, hd, hn => by
    have hi : i = N := by omega
    subst hi
    rw [stop n]; rfl
  | d + 1, n + 1, i, hd, hn => by
    rw [step n i (by omega), List.range'_succ, List.find?_cons]
    cases hp : p i
    · simp
    · simp only [if_true, Bool.not_true]
      exact scan_loop N p g L yes no step stop d n (i + 1) (by omega) (by omega)
theorem find_all {p : Nat → Bool} {i d : Nat} : (List.range' i d).find? (fun j => !p j) = none ↔ ∀ j, i ≤ j → j < i + d → p j = true := by
  rw [List.find?_eq_none]
  constructor
  · intro h j h1 h2
    have := h j (by rw [List.mem_range'_1]; omega)
    simpa using this
  · intro h x hx
    rw [List.mem_range'_1] at hx
    simp [h x hx.1 hx.2]
/-- A loop over 0 .. N - 1 with a state and no way out. -/
theorem for_loop {S R : Type} (N : Nat) (g : Nat → S) (L : Nat → S → Int → Option R) (yes : Option R)
    (step : ∀ n i : Nat, i < N → L (n + 1) (g i) (i : Int) = L n (g (i + 1)) ((i + 1 : Nat) : Int))
    (stop : ∀ n : Nat, L (n + 1) (g N) (N : Int) = yes) : ∀ (d n i : Nat), N = i + d → d < n → L n (g i) (i : Int) = yes
  | 0, n + 1, i, hd, hn => by
    have hi : i = N := by omega
    subst hi
    exact stop n
  | d + 1, n + 1, i, hd, hn => by
    rw [step n i (by omega)]
    exact for_loop N g L yes step stop d n (i + 1) (by omega) (by omega)
theorem for_loop0 {S R : Type} (N : Nat) (g : Nat → S) (L : Nat → S → Int → Option R) (yes : Option R)
    (step : ∀ n i : Nat, i < N → L (n + 1) (g i) (i : Int) = L n (g (i + 1)) ((i + 1 : Nat) : Int))
    (stop : ∀ n : Nat, L (n + 1) (g N) (N : Int) = yes) (hN : N ≤ 9223372036854775807) : L FU (g 0) 0 = yes :=
  for_loop N g L yes step stop N FU 0 (by omega) (by have := FU_pos; omega)
theorem scan_loop0 {S R : Type} (N : Nat) (p : Nat → Bool) (g : Nat → S) (L : Nat → S → Int → Option R) (yes no : Option R)
    (step : ∀ n i : Nat, i < N → L (n + 1) (g i) (i : Int) = if p i = true then L n (g (i + 1)) ((i + 1 : Nat) : Int) else no)
    (stop : ∀ n : Nat, L (n + 1) (g N) (N : Int) = yes) (hN : N ≤ 9223372036854775807) : L FU (g 0) 0 = if (∀ j, j < N → p j = true) then yes else no := by
  have h := scan_loop N p g L yes (fun _ => no) step stop N FU 0 (by omega) (by have := FU_pos; omega)
  refine Eq.trans h ?_
  cases hf : (List.range' 0 N).find? (fun j => !p j) with
  | none => rw [if_pos (fun j hj => find_all.1 hf j (by omega) (by omega))]
  | some j =>
    have h1 := List.find?_some hf
    have h2 := List.mem_of_find?_eq_some hf
    rw [List.mem_range'_1] at h2
    rw [if_neg]
    intro hall
    have := hall j (by omega)
    simp [this] at h1
/-- The same over the elements of a list. -/
theorem list_loop0 {α R : Type} (l : List α) (p : α → Bool) (L : Nat → Int → Option R) (yes no : Option R)
    (step : ∀ (n i : Nat) (x : α), l[i]? = some x → L (n + 1) (i : Int) = if p x = true then L n ((i + 1 : Nat) : Int) else no)
    (stop : ∀ n : Nat, L (n + 1) (l.length : Int) = yes) (hl : l.length ≤ 9223372036854775807) : L FU 0 = if l.all p = true then yes else no := by
  have h := scan_loop0 l.length (fun i => (l[i]?.map p).getD true) (fun _ => ()) (fun n _ i => L n i) yes no (fun n i hi => by
    have hx : l[i]? = some l[i] := by simp [hi]
    rw [step n i _ hx]; simp [hx]) stop hl
  refine Eq.trans h ?_
  by_cases ha : l.all p = true
  · rw [if_pos ha, if_pos]
    intro j hj
    have := List.all_eq_true.1 ha l[j] (List.getElem_mem hj)
    simp [hj, this]
  · rw [if_neg ha, if_neg]
    intro hc
    refine ha (List.all_eq_true.2 fun x hx => ?_)
    obtain ⟨j, hj⟩ := List.getElem?_of_mem hx
    have := hc j (lt_of_at hj)
    simpa [hj] using this
end Go.Tb

set_option linter.unusedVariables false
set_option linter.unusedSimpArgs false
namespace Go.D4
open Go.Tb
theorem sane_eq : law04_sane = some true := by decide +kernel
theorem scan_from {R : Type} (N s : Nat) (p : Nat → Bool) (L : Nat → Int → Option R) (yes no : Option R)
    (step : ∀ n i : Nat, s ≤ i → i < N → L (n + 1) (i : Int) = if p i = true then L n ((i + 1 : Nat) : Int) else no)
    (stop : ∀ n i : Nat, N ≤ i → L (n + 1) (i : Int) = yes) : ∀ (d n i : Nat), s ≤ i → N ≤ i + d → d < n → L n (i : Int) = if (∀ j, j < N → i ≤ j → p j = true) then yes else no
  | 0, n + 1, i, hs, hd, hn => by
    rw [stop n i (by omega), if_pos (fun j h1 h2 => by omega)]
  | d + 1, n + 1, i, hs, hd, hn => by
    by_cases hi : N ≤ i
    · rw [stop n i hi, if_pos (fun j h1 h2 => by omega)]
    · rw [step n i hs (by omega)]
      cases hp : p i
      · rw [if_neg (by simp), if_neg (fun h => by have := h i (by omega) (Nat.le_refl _); simp [hp] at this)]
      · rw [if_pos rfl, scan_from N s p L yes no step stop d n (i + 1) (by omega) (by omega) (by omega)]
        by_cases hall : ∀ j, j < N → i + 1 ≤ j → p j = true
        · rw [if_pos hall, if_pos (fun j h1 h2 => by
            by_cases hj : j = i
            · subst hj; exact hp
            · exact hall j h1 (by omega))]
        · rw [if_neg hall, if_neg (fun h => hall fun j h1 h2 => h j h1 (by omega))]
theorem scan1 {R : Type} (N : Nat) (p : Nat → Bool) (L : Nat → Int → Option R) (yes no : Option R)
    (step : ∀ n i : Nat, 1 ≤ i → i < N → L (n + 1) (i : Int) = if p i = true then L n ((i + 1 : Nat) : Int) else no)
    (stop : ∀ n i : Nat, N ≤ i → L (n + 1) (i : Int) = yes) (hN : N ≤ 9223372036854775807) : L FU 1 = if (∀ j, j < N → 1 ≤ j → p j = true) then yes else no :=
  scan_from N 1 p L yes no step stop N FU 1 (by omega) (by omega) (by have := FU_pos; omega)
theorem for0 {S R : Type} (N : Nat) (g : Nat → S) (L : Nat → S → Int → Option R) (yes : Option R) {s0 : S} (h0 : g 0 = s0)
    (step : ∀ n i : Nat, i < N → L (n + 1) (g i) (i : Int) = L n (g (i + 1)) ((i + 1 : Nat) : Int))
    (stop : ∀ n : Nat, L (n + 1) (g N) (N : Int) = yes) (hN : N ≤ 9223372036854775807) : L FU s0 0 = yes := by
  rw [← h0]; exact for_loop0 N g L yes step stop hN
/-- A library loop: is there an element for which f holds? -/
theorem ContainsFunc_eq (l : List Int) (f : Int → Option Bool) (q : Int → Bool) (hf : ∀ x, f x = some (q x)) (hl : l.length ≤ 1000000) : slices_ContainsFunc_int l f = some (l.any q) := by
  unfold slices_ContainsFunc_int slices_IndexFunc_int
  have h := scan_loop l.length (fun i => (l[i]?.map fun x => !q x).getD true) (fun _ => ()) (fun n _ i => slices_IndexFunc_int_L1 l f n i) (some (-1)) (fun j => some (j : Int)) (fun n i hi => ?_) (fun n => ?_) l.length FU 0 (by omega) (by have := FU_pos; omega)
  · rw [bnd_eq (x := match (List.range' 0 l.length).find? (fun j => !((l[j]?.map fun x => !q x).getD true)) with | none => -1 | some j => (j : Int)) (by
      refine Eq.trans h ?_
      cases (List.range' 0 l.length).find? (fun j => !((l[j]?.map fun x => !q x).getD true)) <;> rfl)]
    congr 1
    cases hf : (List.range' 0 l.length).find? (fun j => !((l[j]?.map fun x => !q x).getD true)) with
    | none =>
      have := find_all.1 hf
      have ha : l.any q = false := List.any_eq_false.2 fun x hx => by
        obtain ⟨j, hj⟩ := List.getElem?_of_mem hx
        have := this j (by omega) (by have := lt_of_at hj; omega)
        simpa [hj] using this
      simp [ha]
    | some j =>
      have h1 := List.find?_some hf
      have h2 := List.mem_of_find?_eq_some hf
      rw [List.mem_range'_1] at h2
      have hx : l[j]? = some l[j] := List.getElem?_eq_getElem (by omega)
      rw [hx] at h1
      have ha : l.any q = true := by
        rw [List.any_eq_true]
        exact ⟨l[j], List.getElem_mem _, by simpa using h1⟩
      simp [ha]
  · show slices_IndexFunc_int_B1 l f (slices_IndexFunc_int_L1 l f n) _ = _
    have hx : l[i]? = some l[i] := by simp [hi]
    unfold slices_IndexFunc_int_B1
    rw [if_pos (by omega), ix_nat hx, bnd_eq (hf _), gd_pos (by omega), hx]
    cases h : q l[i] <;> simp [h]
  · show slices_IndexFunc_int_B1 l f (slices_IndexFunc_int_L1 l f n) _ = _
    unfold slices_IndexFunc_int_B1
    rw [if_neg (by omega)]; rfl
def within (n lo hi : Int) : Bool := decide (lo ≤ n) && decide (n ≤ hi)
theorem within_iff {n lo hi : Int} : within n lo hi = true ↔ lo ≤ n ∧ n ≤ hi := by unfold within; simp
theorem from_eq (n lo hi : Int) : cut_from n lo hi = some (within n lo hi) := by
  unfold cut_from within
  by_cases h : lo ≤ n <;> simp [h]
def dep (b : Bog) : Int := ((b.worth[0]?.getD []).length : Int)
theorem ix0 {α β : Type} {l : List α} {k : α → Option β} {x : α} (h : l[0]? = some x) : ix l 0 k = k x := ix_nat (i := 0) h
theorem depth_eq {b : Bog} (h : 1 ≤ b.worth.length) : cut_depth b = some (dep b) := by
  have hx : b.worth[0]? = some b.worth[0] := by simp
  unfold cut_depth dep
  rw [ix0 hx, hx]; rfl
theorem rdepth_eq {b : Bog} (h : 1 ≤ b.worth.length) : ref04_depth b = some (dep b) := by
  have hx : b.worth[0]? = some b.worth[0] := by simp
  unfold ref04_depth dep
  rw [ix0 hx, hx]; rfl
def okW (w : Int) : Bool := within w (-50) 50
def okCol (d : Int) (c : List Int) : Bool := decide ((c.length : Int) = d) && c.all okW
def okB (b : Bog) : Bool := within b.worth.length 1 6 && within (dep b) 1 4 && b.worth.all (okCol (dep b))
def validate (b : Bog) : Int := if okB b = true then 0 else 1
def Short (b : Bog) : Prop := b.worth.length ≤ 50 ∧ ∀ c ∈ b.worth, c.length ≤ 50
theorem Validate_1_eq (w : Int) : cut_Validate_1 w = some (!okW w) := by
  unfold cut_Validate_1; rw [bnd_eq (from_eq _ _ _)]; rfl
theorem any_not {l : List Int} : (l.any fun x => !okW x) = !(l.all okW) := by
  induction l with
  | nil => rfl
  | cons x r ih => simp [ih]
theorem Validate_eq {b : Bog} (hs : Short b) : cut_Validate b = some (validate b) := by
  unfold cut_Validate validate okB
  rw [bnd_eq (from_eq _ _ _)]
  cases h1 : within b.worth.length 1 6
  · rw [if_neg (by simp)]; unfold cut_Validate_k3; simp
  have h1' := within_iff.1 h1
  rw [if_pos rfl, bnd_eq (depth_eq (by omega)), bnd_eq (from_eq _ _ _)]
  cases h2 : within (dep b) 1 4
  · unfold cut_Validate_k3; simp
  unfold cut_Validate_k3
  rw [if_neg (by simp), list_loop0 b.worth (okCol (dep b)) (cut_Validate_L1 b) (some 0) (some 1) (fun n i x hx => ?_) (fun n => ?_) (by omega)]
  · cases b.worth.all (okCol (dep b)) <;> simp
  · have := lt_of_at hx
    have hxl := hs.2 x (List.mem_of_getElem? hx)
    show cut_Validate_B1 b (cut_Validate_L1 b n) _ = _
    unfold cut_Validate_B1 okCol
    rw [if_pos (by omega), ix_nat hx, bnd_eq (depth_eq (by omega))]
    unfold cut_Validate_k2
    by_cases hd : (x.length : Int) = dep b
    · rw [if_pos hd, bnd_eq (ContainsFunc_eq x _ _ Validate_1_eq (by omega)), any_not, gd_pos (by omega)]
      cases x.all okW <;> simp [hd]
    · rw [if_neg hd, gd_pos (by omega)]; simp [hd]
  · show cut_Validate_B1 b (cut_Validate_L1 b n) _ = _
    unfold cut_Validate_B1
    rw [if_neg (by omega)]; rfl
theorem rValidate_eq {b : Bog} (hs : Short b) : ref04_Validate b = some (validate b) := by
  unfold ref04_Validate validate okB
  by_cases h1 : (b.worth.length : Int) < 1
  · have : within b.worth.length 1 6 = false := by simp [within]; omega
    rw [if_pos h1, this]; unfold ref04_Validate_k4; simp
  rw [if_neg h1]
  by_cases h2 : (6 : Int) < b.worth.length
  · have : within b.worth.length 1 6 = false := by simp [within]; omega
    rw [if_pos h2, this]; unfold ref04_Validate_k4; simp
  rw [if_neg h2]
  have h3 : within b.worth.length 1 6 = true := within_iff.2 (by omega)
  have h0 : b.worth[0]? = some b.worth[0] := by simp
  have hd : dep b = (b.worth[0].length : Int) := by unfold dep; rw [h0]; rfl
  rw [ix0 h0, ix0 h0, h3, ← hd]
  by_cases h4 : dep b < 1
  · have : within (dep b) 1 4 = false := by simp [within]; omega
    rw [if_pos h4, this]; unfold ref04_Validate_k4; simp
  rw [if_neg h4]
  by_cases h5 : 4 < dep b
  · have : within (dep b) 1 4 = false := by simp [within]; omega
    simp only [h5, this]; unfold ref04_Validate_k4; simp
  have h6 : within (dep b) 1 4 = true := within_iff.2 (by omega)
  simp only [h5, h6, decide_false, Bool.true_and]
  unfold ref04_Validate_k4
  rw [if_neg (by simp), list_loop0 b.worth (okCol (dep b)) (ref04_Validate_L2 b) (some 0) (some 1) (fun n i x hx => ?_) (fun n => ?_) (by omega)]
  · cases b.worth.all (okCol (dep b)) <;> simp
  · have := lt_of_at hx
    have hxl := hs.2 x (List.mem_of_getElem? hx)
    show ref04_Validate_B2 b (ref04_Validate_L2 b n) _ = _
    unfold ref04_Validate_B2 okCol
    rw [if_pos (by omega), ix_nat hx, ix0 h0, ← hd]
    by_cases hdd : (x.length : Int) = dep b
    · rw [if_pos hdd, list_loop0 x okW (ref04_Validate_L1 b i (ref04_Validate_L2 b n)) (ref04_Validate_L2 b n ((i + 1 : Nat) : Int)) (some 1) (fun m j v hv => ?_) (fun m => ?_) (by omega)]
      · cases x.all okW <;> simp [hdd]
      · have := lt_of_at hv
        show ref04_Validate_B1 b i (ref04_Validate_L2 b n) (ref04_Validate_L1 b i (ref04_Validate_L2 b n) m) _ = _
        unfold ref04_Validate_B1
        rw [ix_nat hx, if_pos (by omega), ix_nat hx, ix_nat hv]
        unfold ref04_Validate_k3
        by_cases hb : (50 : Int) < v
        · rw [if_pos hb]; simp [okW, within]; omega
        · rw [if_neg hb, ix_nat hx, ix_nat hv, gd_pos (by omega)]
          by_cases hc : v < -50
          · simp [hc, okW, within]; omega
          · have : okW v = true := within_iff.2 (by omega)
            simp [hc, this]
      · show ref04_Validate_B1 b i (ref04_Validate_L2 b n) (ref04_Validate_L1 b i (ref04_Validate_L2 b n) m) _ = _
        unfold ref04_Validate_B1
        rw [ix_nat hx, if_neg (by omega)]
        unfold ref04_Validate_k2
        rw [gd_pos (by omega)]; rfl
    · rw [if_neg hdd]; simp [hdd]
  · show ref04_Validate_B2 b (ref04_Validate_L2 b n) _ = _
    unfold ref04_Validate_B2
    rw [if_neg (by omega)]; rfl
end Go.D4
