/- Lemmas and walks that the proof of this claim uses: D4m3, D4m5, D4m15, D4m16, Tb22, D4p1, D4p2, D4p3, D4p4, D4p5, D4p6, D4p7, D4p8, D4p9, D4pA, D4pB, D4pC, D4q1. -/
import Derived.Test.YtihcdffakmnkdaaCutNumbers1
set_option linter.unusedVariables false
set_option linter.unusedSimpArgs false
namespace Go.D4
open Go.Tb Go.Proofs Go.RowKit
theorem Tc19 : callable Try.prog 19 = true := by kernel_rfl
theorem Tc21 : callable Try.prog 21 = true := by kernel_rfl
theorem Tc22 : callable Try.prog 22 = true := by kernel_rfl
theorem Tc28 : callable Try.prog 28 = true := by kernel_rfl
theorem Tc49 : callable Try.prog 49 = true := by kernel_rfl
theorem Tc61 : callable Try.prog 61 = true := by kernel_rfl
theorem Tc63 : callable Try.prog 63 = true := by kernel_rfl
theorem Tc64 : callable Try.prog 64 = true := by kernel_rfl
theorem Tc96 : callable Try.prog 96 = true := by kernel_rfl
set_option maxRecDepth 20000 in
set_option maxHeartbeats 1000000 in
theorem cut_isList_1_ok {cap0 : Bog} {a0 : Int} {A_cap0_worth : Option Addr} {c_cap0_worth : Nat} {b_cap0 : Nat} {w : World} {res : Bool} (h_cap0_worth : Sl2 w A_cap0_worth c_cap0_worth 1 encN cap0.worth) (hc_cap0 : Cells w ⟨b_cap0, 0, none⟩ [.slice A_cap0_worth cap0.worth.length c_cap0_worth]) (F : cut_isList_1 cap0 a0 = some res) : Calls Try.prog 96 #[.int .i64 a0, .pointer (some (⟨b_cap0, 0, none⟩))] w (Rt w (.bool res)) := by
  refine calls_of_cw (args := [.int .i64 a0, .pointer (some (⟨b_cap0, 0, none⟩))]) Try.func96 rfl rfl rfl rfl ?_
  have H := Hp.start w
  have R0 := H.ext
  unfold cut_isList_1 at F
  refine CW.seq fun K1 hK1 => ?_
  refine CW.region ?_
  refine LW.pure rfl rfl (RV.assign rfl) ?_
  refine LW.nil (hK1 _ _ ?_)
  refine CW.seq fun K2 hK2 => ?_
  obtain ⟨r1, hr1, F⟩ := bnd_some F
  obtain ⟨r2, hr2, F⟩ := bnd_some F
  refine CW.region ?_
  refine LW.pure rfl rfl (RV.move rfl) ?_
  refine LW.pure rfl rfl (RV.loadA [.slice A_cap0_worth cap0.worth.length c_cap0_worth] Tk24 rfl (hc_cap0.ext R0) rfl rfl) ?_
  refine LW.go rfl rfl (OW.call Tc68 rfl (cut_depth_ok (a0 := cap0) (h_cap0_worth.ext R0) hr1) ?_)
  rintro _ w1 ⟨rfl, E1⟩
  refine ⟨_, rfl, ?_⟩
  replace H := H.grow E1
  replace R0 := H.ext
  refine LW.go rfl rfl (OW.call Tc67 rfl (cut_from_ok (a0 := a0) (a1 := (0 : Int)) (a2 := r1) hr2) ?_)
  rintro _ w2 ⟨rfl, E2⟩
  refine ⟨_, rfl, ?_⟩
  replace H := H.grow E2
  replace R0 := H.ext
  refine LW.pure rfl rfl (RV.not rfl) ?_
  refine LW.pure rfl rfl (RV.assign rfl) ?_
  refine LW.nil (hK2 _ _ ?_)
  refine CW.ret ?_
  obtain rfl := Option.some.inj F
  refine ⟨_, (ResOK.one rfl), ?_⟩
  refine ⟨(by first | rfl | simp), R0⟩
set_option maxRecDepth 20000 in
set_option maxHeartbeats 1000000 in
theorem cut_isList_ok {a0 : Bog} {a1 : List Int} {A_a0_worth : Option Addr} {c_a0_worth : Nat} {A_a1 : Option Addr} {c_a1 : Nat} {w : World} {res : Int} (h_a0_worth : Sl2 w A_a0_worth c_a0_worth 1 encN a0.worth) (h_a1 : Sl w A_a1 c_a1 1 (a1.map encN)) (F : cut_isList a0 a1 = some res) : Calls Try.prog 63 #[.agg #[.slice A_a0_worth a0.worth.length c_a0_worth], .slice A_a1 a1.length c_a1] w (Rt w (.int .i64 res)) := by
  refine calls_of_cw (args := [.agg #[.slice A_a0_worth a0.worth.length c_a0_worth], .slice A_a1 a1.length c_a1]) Try.func63 rfl rfl rfl rfl ?_
  have H := Hp.start w
  have R0 := H.ext
  unfold cut_isList at F
  refine CW.seq fun K1 hK1 => ?_
  refine CW.region ?_
  refine LW.go rfl rfl (OW.box rfl fun b1 w1 N1 => ?_)
  replace H := H.new N1 N1.blk
  replace R0 := H.ext
  refine LW.pure rfl rfl (RV.assign rfl) ?_
  refine LW.nil (hK1 _ _ ?_)
  refine CW.seq fun K2 hK2 => ?_
  refine CW.seq fun K3 hK3 => ?_
  obtain ⟨r1, hr1, F⟩ := bnd_some F
  refine CW.region ?_
  refine LW.pure rfl rfl (RV.loadA [.slice A_a0_worth a0.worth.length c_a0_worth] Tk24 rfl (H.blk 0 rfl).cells rfl rfl) ?_
  refine LW.go rfl rfl (OW.call Tc25 rfl (cut_Validate_ok (a0 := a0) (h_a0_worth.ext R0) hr1) ?_)
  rintro _ w2 ⟨rfl, E1⟩
  refine ⟨_, rfl, ?_⟩
  replace H := H.grow E1
  replace R0 := H.ext
  refine LW.pure rfl rfl (RV.assign rfl) ?_
  refine LW.nil (hK3 _ _ ?_)
  refine CW.seq fun K4 hK4 => ?_
  refine CW.region ?_
  refine LW.pure rfl rfl (RV.move rfl) ?_
  refine LW.pure rfl rfl (RV.nei rfl rfl) ?_
  refine LW.nil (hK4 _ _ ?_)
  by_cases hp1 : r1 = 0
  ·
    replace F := ite_y hp1 F
    have hq1 := dec_t hp1
    refine CW.condF rfl (not_f hq1) ?_
    refine CW.skip (hK2 _ _ ?_)
    refine CW.seq fun K5 hK5 => ?_
    refine CW.seqJ (fun ρ wl1 => (∃ (t21_1 : Bool), cut_isList_k1 t21_1 = some res ∧ ρ = [(4, .int .i64 0), (21, .bool t21_1)] ∧ Hp w wl1 [])) ?_ ?_
    ·
      rintro _ wl1 ⟨t21_1, F, rfl, H⟩
      have R0 := H.ext
      unfold cut_isList_k1 at F
      by_cases hp2 : t21_1 = true
      ·
        replace F := ite_y hp2 F
        have hq2 : t21_1 = true := hp2
        refine CW.condT rfl hq2 ?_
        refine CW.seq fun K6 hK6 => ?_
        refine CW.region ?_
        refine LW.pure rfl rfl (RV.assign rfl) ?_
        refine LW.nil (hK6 _ _ ?_)
        refine CW.ret ?_
        obtain rfl := Option.some.inj F
        refine ⟨_, (ResOK.one rfl), ?_⟩
        refine ⟨(by first | rfl | simp), R0⟩
      ·
        replace F := ite_n hp2 F
        have hq2 : t21_1 = false := raw_f hp2
        refine CW.condF rfl hq2 ?_
        refine CW.skip (hK5 _ _ ?_)
        refine CW.seq fun K7 hK7 => ?_
        refine CW.region ?_
        refine LW.pure rfl rfl (RV.assign rfl) ?_
        refine LW.nil (hK7 _ _ ?_)
        refine CW.ret ?_
        obtain rfl := Option.some.inj F
        refine ⟨_, (ResOK.one rfl), ?_⟩
        refine ⟨(by first | rfl | simp), R0⟩
    ·
      intro K8 hK8 jK17
      by_cases hp3 : ((a1.length : Int)) = ((a0.worth.length : Int))
      ·
        replace F := ite_y hp3 F
        have hq3 := dec_t hp3
        obtain ⟨r2, hr2, F⟩ := bnd_some F
        refine CW.region ?_
        refine LW.pure rfl rfl (RV.move rfl) ?_
        refine LW.pure rfl rfl (RV.len Ts25 rfl) ?_
        refine LW.pure rfl rfl (RV.fieldAddr Tf24_0 rfl) ?_
        refine LW.pure rfl rfl (RV.load1 Tk22 rfl ((H.blk 0 rfl).cells.off 0) rfl) ?_
        refine LW.pure rfl rfl (RV.len Ts22 rfl) ?_
        refine LW.pure rfl rfl (RV.nei rfl rfl) ?_
        refine LW.pure rfl rfl (RV.move rfl) ?_
        refine LW.pureYB rfl rfl rfl rfl (not_f hq3) (RV.move rfl) ?_
        refine LW.pureYB rfl rfl rfl rfl (not_f hq3) (RV.makeFunc (fs := []) (cs := [.pointer (some (⟨b1, 0, none⟩))]) rfl rfl) ?_
        refine LW.yesB rfl rfl rfl rfl (not_f hq3) (OW.call Tc69 rfl (slices_ContainsFunc_int_ok (a0 := a1) (a1 := (fun x0 => cut_isList_1 a0 x0)) (h_a1.ext R0) (fun x0 r hF w3 hE => CallsV.cap Tc96 (by simp) (cut_isList_1_ok (cap0 := a0) (a0 := x0) ((h_a0_worth.ext R0).ext hE) ((H.blk 0 rfl).cells.ext hE) hF)) hr2) ?_)
        rintro _ w4 ⟨rfl, E2⟩
        refine ⟨_, rfl, ?_⟩
        replace H := H.grow E2
        replace R0 := H.ext
        refine LW.pure rfl rfl (RV.pickFB rfl (not_f hq3) rfl) ?_
        replace H := H.pick (L' := []) [] (by decide) rfl
        replace R0 := H.ext
        refine LW.nil (jK17 _ _ ⟨_, ?_, ⟨r2, F, rfl, H⟩⟩)
        exact ⟨rfl, rfl, trivial⟩
      ·
        replace F := ite_n hp3 F
        have hq3 := dec_f hp3
        refine CW.region ?_
        refine LW.pure rfl rfl (RV.move rfl) ?_
        refine LW.pure rfl rfl (RV.len Ts25 rfl) ?_
        refine LW.pure rfl rfl (RV.fieldAddr Tf24_0 rfl) ?_
        refine LW.pure rfl rfl (RV.load1 Tk22 rfl ((H.blk 0 rfl).cells.off 0) rfl) ?_
        refine LW.pure rfl rfl (RV.len Ts22 rfl) ?_
        refine LW.pure rfl rfl (RV.nei rfl rfl) ?_
        refine LW.pure rfl rfl (RV.move rfl) ?_
        refine LW.noB rfl rfl rfl rfl (ne_beq (v := true) (not_t hq3) rfl) ?_
        refine LW.noB rfl rfl rfl rfl (ne_beq (v := true) (not_t hq3) rfl) ?_
        refine LW.noB rfl rfl rfl rfl (ne_beq (v := true) (not_t hq3) rfl) ?_
        refine LW.pure rfl rfl (RV.pickTB rfl (not_t hq3) rfl) ?_
        replace H := H.pick (L' := []) [] (by decide) rfl
        replace R0 := H.ext
        refine LW.nil (jK17 _ _ ⟨_, ?_, ⟨true, F, rfl, H⟩⟩)
        exact ⟨rfl, rfl, trivial⟩
  ·
    replace F := ite_n hp1 F
    have hq1 := dec_f hp1
    refine CW.condT rfl (not_t hq1) ?_
    refine CW.seq fun K9 hK9 => ?_
    refine CW.region ?_
    refine LW.pure rfl rfl (RV.move rfl) ?_
    refine LW.pure rfl rfl (RV.assign rfl) ?_
    refine LW.nil (hK9 _ _ ?_)
    refine CW.ret ?_
    obtain rfl := Option.some.inj F
    refine ⟨_, (ResOK.one rfl), ?_⟩
    refine ⟨(by first | rfl | simp), R0⟩
set_option maxRecDepth 20000 in
set_option maxHeartbeats 1000000 in
theorem cut_right_ok {a0 : List Int} {A_a0 : Option Addr} {c_a0 : Nat} {w : World} {res : Bool} (h_a0 : Sl w A_a0 c_a0 1 (a0.map encN)) (F : cut_right a0 = some res) : Calls Try.prog 64 #[.slice A_a0 a0.length c_a0] w (Rt w (.bool res)) := by
  refine calls_of_cw (args := [.slice A_a0 a0.length c_a0]) Try.func64 rfl rfl rfl rfl ?_
  have H := Hp.start w
  have R0 := H.ext
  unfold cut_right at F
  refine CW.seq fun K1 hK1 => ?_
  refine CW.region ?_
  refine LW.pure rfl rfl (RV.assign rfl) ?_
  refine LW.nil (hK1 _ _ ?_)
  refine CW.seqJ (fun ρ wl1 => (cut_right_k1 = some res ∧ ρ = [(2, .bool false)] ∧ Hp w wl1 [])) ?_ ?_
  ·
    rintro _ wl1 ⟨F, rfl, H⟩
    have R0 := H.ext
    unfold cut_right_k1 at F
    refine CW.seq fun K2 hK2 => ?_
    refine CW.region ?_
    refine LW.pure rfl rfl (RV.assign rfl) ?_
    refine LW.nil (hK2 _ _ ?_)
    refine CW.ret ?_
    obtain rfl := Option.some.inj F
    refine ⟨_, (ResOK.one rfl), ?_⟩
    refine ⟨(by first | rfl | simp), R0⟩
  ·
    intro K3 hK3 jK54
    refine CW.seq fun K4 hK4 => ?_
    refine CW.region ?_
    refine LW.pure rfl rfl (RV.assign rfl) ?_
    refine LW.nil (hK4 _ _ ?_)
    refine CW.block ?_
    refine CW.loop (fun meas ρ wl2 => ∃ (t3_1 : Int), cut_right_L1 a0 meas t3_1 = some res ∧ ρ = [(0, .slice A_a0 a0.length c_a0), (2, .bool false), (3, .int .i64 t3_1)] ∧ Hp w wl2 []) FU ⟨_, ?_, ((1 : Int)), F, rfl, H⟩ ?_
    · exact ⟨rfl, rfl, rfl, trivial⟩
    rintro mk1 _ wl2 ⟨t3_1, F, rfl, H⟩
    have R0 := H.ext
    replace F := cut_right_L1_s F
    obtain ⟨mk1, rfl, F⟩ := F
    generalize hrec1 : cut_right_L1 a0 mk1 = rec1 at F
    unfold cut_right_B1 at F
    refine CW.seq fun K5 hK5 => ?_
    refine CW.seq fun K6 hK6 => ?_
    refine CW.region ?_
    refine LW.pure rfl rfl (RV.move rfl) ?_
    refine LW.pure rfl rfl (RV.move rfl) ?_
    refine LW.pure rfl rfl (RV.len Ts25 rfl) ?_
    refine LW.pure rfl rfl (RV.lss rfl rfl) ?_
    refine LW.nil (hK6 _ _ ?_)
    by_cases hp1 : t3_1 < ((a0.length : Int))
    ·
      replace F := ite_y hp1 F
      have hq1 := dec_t hp1
      refine CW.condT rfl hq1 ?_
      refine CW.skip (hK5 _ _ ?_)
      refine CW.seq fun K7 hK7 => ?_
      refine CW.block ?_
      refine CW.seq fun K8 hK8 => ?_
      obtain ⟨x1, hbx1, hx1, F⟩ := ix_some F
      obtain ⟨hg1, F⟩ := gd_some F
      obtain ⟨x2, hbx2, hx2, F⟩ := ix_some F
      obtain ⟨hg2, F⟩ := gd_some F
      obtain ⟨r1, hr1, F⟩ := bnd_some F
      refine CW.draw [] (fun _ => True) (.cons 0 1 (.cons 1 1 (.cons 2 1 (.cons 3 1 (.cons 4 1 (.cons 5 1 (.cons 6 1 (.cons 7 1 (.cons 8 1 (.cons 9 1 (.cons 10 0 (.cons 11 1 .nil)))))))))))) mixed (by kernel_rfl) fun w1 E1 => ?_
      replace H := H.grow E1
      replace R0 := H.ext
      refine DW.fix rfl rfl rfl (fun _ EQ => RV.move rfl) ?_
      refine DW.fix rfl rfl rfl (fun _ EQ => RV.move rfl) ?_
      refine DW.fix rfl rfl rfl (fun _ EQ => RV.indexAddr Ts25 rfl rfl hbx1 (h_a0.addr_ hx1)) ?_
      refine DW.fix rfl rfl rfl (fun _ EQ => RV.load1 Tk3 rfl ((h_a0.at_ hx1).ext (R0.trans EQ)) rfl) ?_
      refine DW.fix rfl rfl rfl (fun _ EQ => RV.move rfl) ?_
      refine DW.fix rfl rfl rfl (fun _ EQ => RV.move rfl) ?_
      refine DW.fix rfl rfl rfl (fun _ EQ => RV.sub rfl rfl hg1) ?_
      refine DW.fix rfl rfl rfl (fun _ EQ => RV.indexAddr Ts25 rfl rfl hbx2 (h_a0.addr_ hx2)) ?_
      refine DW.fix rfl rfl rfl (fun _ EQ => RV.load1 Tk3 rfl ((h_a0.at_ hx2).ext (R0.trans EQ)) rfl) ?_
      refine DW.fix rfl rfl rfl (fun _ EQ => RV.sub rfl rfl hg2) ?_
      refine DW.sole rfl rfl rfl (OW.call Tc67 rfl (cut_from_ok (a0 := x1 - x2) (a1 := (-1 : Int)) (a2 := (1 : Int)) hr1) ?_)
      rintro _ w2 ⟨rfl, E2⟩
      refine ⟨_, rfl, fun _ => E2, ModX.ext E2, ?_⟩
      replace H := H.grow E2
      replace R0 := H.ext
      refine DW.fix rfl rfl rfl (fun _ EQ => RV.not rfl) ?_
      refine DW.nil (hK8 _ _ ?_)
      by_cases hp2 : r1 = true
      ·
        replace F := ite_y hp2 F
        have hq2 : r1 = true := hp2
        refine CW.condF rfl (not_f hq2) ?_
        refine CW.skip (hK7 _ _ ?_)
        obtain ⟨hg3, F⟩ := gd_some F
        refine CW.region ?_
        refine LW.pure rfl rfl (RV.move rfl) ?_
        refine LW.pure rfl rfl (RV.add rfl rfl hg3) ?_
        refine LW.pure rfl rfl (RV.assign rfl) ?_
        refine LW.nil ?_
        subst hrec1
        refine ⟨mk1, Nat.lt_succ_self _, _, ?_, (t3_1 + 1), F, rfl, H⟩
        exact ⟨rfl, rfl, rfl, trivial⟩
      ·
        replace F := ite_n hp2 F
        have hq2 : r1 = false := raw_f hp2
        refine CW.condT rfl (not_t hq2) ?_
        refine CW.seq fun K9 hK9 => ?_
        refine CW.region ?_
        refine LW.pure rfl rfl (RV.assign rfl) ?_
        refine LW.nil (hK9 _ _ ?_)
        refine CW.ret ?_
        obtain rfl := Option.some.inj F
        refine ⟨_, (ResOK.one rfl), ?_⟩
        refine ⟨(by first | rfl | simp), R0⟩
    ·
      replace F := ite_n hp1 F
      have hq1 := dec_f hp1
      refine CW.condF rfl hq1 ?_
      refine CW.exit (jK54 _ _ ⟨_, ?_, ⟨F, rfl, H⟩⟩)
      exact ⟨rfl, trivial⟩
set_option maxRecDepth 20000 in
set_option maxHeartbeats 1000000 in
theorem cut_CheckHollow_ok {a0 : Bog} {a1 : List Int} {A_a0_worth : Option Addr} {c_a0_worth : Nat} {A_a1 : Option Addr} {c_a1 : Nat} {w : World} {res : Int} (h_a0_worth : Sl2 w A_a0_worth c_a0_worth 1 encN a0.worth) (h_a1 : Sl w A_a1 c_a1 1 (a1.map encN)) (F : cut_CheckHollow a0 a1 = some res) : Calls Try.prog 22 #[.agg #[.slice A_a0_worth a0.worth.length c_a0_worth], .slice A_a1 a1.length c_a1] w (Rt w (.int .i64 res)) := by
  refine calls_of_cw (args := [.agg #[.slice A_a0_worth a0.worth.length c_a0_worth], .slice A_a1 a1.length c_a1]) Try.func22 rfl rfl rfl rfl ?_
  have H := Hp.start w
  have R0 := H.ext
  unfold cut_CheckHollow at F
  refine CW.seq fun K1 hK1 => ?_
  refine CW.region ?_
  refine LW.go rfl rfl (OW.box rfl fun b1 w1 N1 => ?_)
  replace H := H.new N1 N1.blk
  replace R0 := H.ext
  refine LW.pure rfl rfl (RV.assign rfl) ?_
  refine LW.nil (hK1 _ _ ?_)
  refine CW.seq fun K2 hK2 => ?_
  refine CW.seq fun K3 hK3 => ?_
  obtain ⟨r1, hr1, F⟩ := bnd_some F
  refine CW.region ?_
  refine LW.pure rfl rfl (RV.loadA [.slice A_a0_worth a0.worth.length c_a0_worth] Tk24 rfl (H.blk 0 rfl).cells rfl rfl) ?_
  refine LW.pure rfl rfl (RV.move rfl) ?_
  refine LW.go rfl rfl (OW.call Tc63 rfl (cut_isList_ok (a0 := a0) (a1 := a1) (h_a0_worth.ext R0) (h_a1.ext R0) hr1) ?_)
  rintro _ w2 ⟨rfl, E1⟩
  refine ⟨_, rfl, ?_⟩
  replace H := H.grow E1
  replace R0 := H.ext
  refine LW.pure rfl rfl (RV.assign rfl) ?_
  refine LW.nil (hK3 _ _ ?_)
  refine CW.seq fun K4 hK4 => ?_
  refine CW.region ?_
  refine LW.pure rfl rfl (RV.move rfl) ?_
  refine LW.pure rfl rfl (RV.nei rfl rfl) ?_
  refine LW.nil (hK4 _ _ ?_)
  by_cases hp1 : r1 = 0
  ·
    replace F := ite_y hp1 F
    have hq1 := dec_t hp1
    refine CW.condF rfl (not_f hq1) ?_
    refine CW.skip (hK2 _ _ ?_)
    refine CW.seq fun K5 hK5 => ?_
    refine CW.seq fun K6 hK6 => ?_
    obtain ⟨r2, hr2, F⟩ := bnd_some F
    refine CW.region ?_
    refine LW.pure rfl rfl (RV.move rfl) ?_
    refine LW.go rfl rfl (OW.call Tc64 rfl (cut_right_ok (a0 := a1) (h_a1.ext R0) hr2) ?_)
    rintro _ w3 ⟨rfl, E2⟩
    refine ⟨_, rfl, ?_⟩
    replace H := H.grow E2
    replace R0 := H.ext
    refine LW.pure rfl rfl (RV.not rfl) ?_
    refine LW.nil (hK6 _ _ ?_)
    by_cases hp2 : r2 = true
    ·
      replace F := ite_y hp2 F
      have hq2 : r2 = true := hp2
      refine CW.condF rfl (not_f hq2) ?_
      refine CW.skip (hK5 _ _ ?_)
      refine CW.seq fun K7 hK7 => ?_
      refine CW.region ?_
      refine LW.pure rfl rfl (RV.assign rfl) ?_
      refine LW.nil (hK7 _ _ ?_)
      refine CW.ret ?_
      obtain rfl := Option.some.inj F
      refine ⟨_, (ResOK.one rfl), ?_⟩
      refine ⟨(by first | rfl | simp), R0⟩
    ·
      replace F := ite_n hp2 F
      have hq2 : r2 = false := raw_f hp2
      refine CW.condT rfl (not_t hq2) ?_
      refine CW.seq fun K8 hK8 => ?_
      refine CW.region ?_
      refine LW.pure rfl rfl (RV.assign rfl) ?_
      refine LW.nil (hK8 _ _ ?_)
      refine CW.ret ?_
      obtain rfl := Option.some.inj F
      refine ⟨_, (ResOK.one rfl), ?_⟩
      refine ⟨(by first | rfl | simp), R0⟩
  ·
    replace F := ite_n hp1 F
    have hq1 := dec_f hp1
    refine CW.condT rfl (not_t hq1) ?_
    refine CW.seq fun K9 hK9 => ?_
    refine CW.region ?_
    refine LW.pure rfl rfl (RV.move rfl) ?_
    refine LW.pure rfl rfl (RV.assign rfl) ?_
    refine LW.nil (hK9 _ _ ?_)
    refine CW.ret ?_
    obtain rfl := Option.some.inj F
    refine ⟨_, (ResOK.one rfl), ?_⟩
    refine ⟨(by first | rfl | simp), R0⟩
set_option maxRecDepth 20000 in
set_option maxHeartbeats 1000000 in
theorem cut_open_ok {a0 : Bog} {a1 : List Int} {a2 : Int} {A_a0_worth : Option Addr} {c_a0_worth : Nat} {A_a1 : Option Addr} {c_a1 : Nat} {w : World} {res : Bool} (h_a0_worth : Sl2 w A_a0_worth c_a0_worth 1 encN a0.worth) (h_a1 : Sl w A_a1 c_a1 1 (a1.map encN)) (F : cut_open a0 a1 a2 = some res) : Calls Try.prog 61 #[.agg #[.slice A_a0_worth a0.worth.length c_a0_worth], .slice A_a1 a1.length c_a1, .int .i64 a2] w (Rt w (.bool res)) := by
  refine calls_of_cw (args := [.agg #[.slice A_a0_worth a0.worth.length c_a0_worth], .slice A_a1 a1.length c_a1, .int .i64 a2]) Try.func61 rfl rfl rfl rfl ?_
  have H := Hp.start w
  have R0 := H.ext
  unfold cut_open at F
  refine CW.seq fun K1 hK1 => ?_
  refine CW.region ?_
  refine LW.go rfl rfl (OW.box rfl fun b1 w1 N1 => ?_)
  replace H := H.new N1 N1.blk
  replace R0 := H.ext
  refine LW.pure rfl rfl (RV.assign rfl) ?_
  refine LW.nil (hK1 _ _ ?_)
  refine CW.seq fun K2 hK2 => ?_
  obtain ⟨r1, hr1, F⟩ := bnd_some F
  refine CW.region ?_
  refine LW.pure rfl rfl (RV.move rfl) ?_
  refine LW.go rfl rfl (OW.call Tc87 rfl (slices_Clone_int_ok (a0 := a1) (h_a1.ext R0) hr1) ?_)
  rintro _ w2 ⟨A5_0, c5_0, rfl, E1⟩
  refine ⟨_, rfl, ?_⟩
  replace H : Hp w w2 [.own A5_0 c5_0 3 1 (List.map encN r1), .blk b1 24 [.slice A_a0_worth a0.worth.length c_a0_worth]] := H.append E1
  replace R0 := H.ext
  refine LW.pure rfl rfl (RV.assign rfl) ?_
  refine LW.nil (hK2 _ _ ?_)
  refine CW.seq fun K3 hK3 => ?_
  obtain ⟨x1, hbx1, hx1, F⟩ := ix_some F
  obtain ⟨hg1, F⟩ := gd_some F
  obtain ⟨x2, hbx2, hx2, F⟩ := ix_some F
  refine CW.region ?_
  refine LW.pure rfl rfl (RV.move rfl) ?_
  refine LW.pure rfl rfl (RV.move rfl) ?_
  refine LW.pure rfl rfl (RV.indexAddr Ts25 rfl rfl hbx1 ((H.own 0 rfl).sl.addr_ hx1)) ?_
  refine LW.pure rfl rfl (RV.load1 Tk3 rfl ((H.own 0 rfl).sl.at_ hx1) rfl) ?_
  refine LW.pure rfl rfl (RV.add rfl rfl hg1) ?_
  refine LW.pure rfl rfl (RV.indexAddr Ts25 rfl rfl hbx2 ((H.own 0 rfl).sl.addr_ hx2)) ?_
  refine LW.go rfl rfl (OW.storeO (enc := encN) (vs := [.int .i64 (x1 + 1)]) 0 (x1 + 1) Tk3 rfl rfl (H.own 0 rfl) (fun _ => rfl) rfl hx2 rfl rfl (by decide) rfl rfl fun w3 M1 O1 => ?_)
  replace H : Hp w w3 [.own A5_0 c5_0 3 1 (List.map encN ((r1.set (Int.toNat a2) (x1 + 1)))), .blk b1 24 [.slice A_a0_worth a0.worth.length c_a0_worth]] := H.mod 0 rfl M1 O1 (.inl rfl)
  replace R0 := H.ext
  refine LW.nil (hK3 _ _ ?_)
  refine CW.seq fun K4 hK4 => ?_
  obtain ⟨x3, hbx3, hx3, F⟩ := ix_some F
  obtain ⟨r2, hr2, F⟩ := bnd_some F
  by_cases hp1 : x3 ≤ r2
  ·
    replace F := ite_y hp1 F
    have hq1 := dec_t hp1
    obtain ⟨r3, hr3, F⟩ := bnd_some F
    refine CW.draw [] (fun _ => True) (.cons 0 1 (.cons 1 1 (.cons 2 1 (.cons 3 1 (.cons 4 1 (.cons 5 0 (.cons 6 1 (.cons 7 1 (.cons 8 1 (.cons 9 0 (.cons 10 1 (.cons 11 1 .nil)))))))))))) mixed (by kernel_rfl) fun w4 E2 => ?_
    replace H := H.grow E2
    replace R0 := H.ext
    refine DW.fix rfl rfl rfl (fun _ EQ => RV.move rfl) ?_
    refine DW.fix rfl rfl rfl (fun _ EQ => RV.move rfl) ?_
    refine DW.fix rfl rfl rfl (fun _ EQ => RV.indexAddr Ts25 rfl rfl (by first | exact hbx3 | (simp at hbx3 ⊢; omega)) ((H.own 0 rfl).sl.addr_ hx3)) ?_
    refine DW.fix rfl rfl rfl (fun _ EQ => RV.load1 Tk3 rfl (((H.grow EQ).own 0 rfl).sl.at_ hx3) rfl) ?_
    refine DW.fix rfl rfl rfl (fun _ EQ => RV.loadA [.slice A_a0_worth a0.worth.length c_a0_worth] Tk24 rfl ((H.grow EQ).blk 1 rfl).cells rfl rfl) ?_
    refine DW.sole rfl rfl rfl (OW.call Tc68 rfl (cut_depth_ok (a0 := a0) (h_a0_worth.ext R0) hr2) ?_)
    rintro _ w5 ⟨rfl, E3⟩
    refine ⟨_, rfl, fun _ => E3, ModX.ext E3, ?_⟩
    replace H := H.grow E3
    replace R0 := H.ext
    refine DW.fix rfl rfl rfl (fun _ EQ => RV.leq rfl rfl) ?_
    refine DW.fix rfl rfl rfl (fun _ EQ => RV.move rfl) ?_
    refine DW.fixYB rfl rfl rfl rfl rfl hq1 (fun _ EQ => RV.move rfl) ?_
    refine DW.soleYB rfl rfl rfl rfl rfl hq1 (OW.call Tc64 (evs_cast rfl (by first | rfl | (simp; done) | (simp; omega))) (cut_right_ok (a0 := (r1.set (Int.toNat a2) (x1 + 1))) (H.own 0 rfl).sl hr3) ?_)
    rintro _ w6 ⟨rfl, E4⟩
    refine ⟨_, rfl, fun _ => E4, ModX.ext E4, ?_⟩
    replace H := H.grow E4
    replace R0 := H.ext
    refine DW.fix rfl rfl rfl (fun _ EQ => RV.pickTB rfl hq1 rfl) ?_
    refine DW.fix rfl rfl rfl (fun _ EQ => RV.assign rfl) ?_
    refine DW.nil (hK4 _ _ ?_)
    refine CW.ret ?_
    obtain rfl := Option.some.inj F
    refine ⟨_, (ResOK.one rfl), ?_⟩
    refine ⟨(by first | rfl | simp), R0⟩
  ·
    replace F := ite_n hp1 F
    have hq1 := dec_f hp1
    refine CW.draw [] (fun _ => True) (.cons 0 1 (.cons 1 1 (.cons 2 1 (.cons 3 1 (.cons 4 1 (.cons 5 0 (.cons 6 1 (.cons 7 1 (.cons 8 1 (.cons 9 0 (.cons 10 1 (.cons 11 1 .nil)))))))))))) mixed (by kernel_rfl) fun w7 E5 => ?_
    replace H := H.grow E5
    replace R0 := H.ext
    refine DW.fix rfl rfl rfl (fun _ EQ => RV.move rfl) ?_
    refine DW.fix rfl rfl rfl (fun _ EQ => RV.move rfl) ?_
    refine DW.fix rfl rfl rfl (fun _ EQ => RV.indexAddr Ts25 rfl rfl (by first | exact hbx3 | (simp at hbx3 ⊢; omega)) ((H.own 0 rfl).sl.addr_ hx3)) ?_
    refine DW.fix rfl rfl rfl (fun _ EQ => RV.load1 Tk3 rfl (((H.grow EQ).own 0 rfl).sl.at_ hx3) rfl) ?_
    refine DW.fix rfl rfl rfl (fun _ EQ => RV.loadA [.slice A_a0_worth a0.worth.length c_a0_worth] Tk24 rfl ((H.grow EQ).blk 1 rfl).cells rfl rfl) ?_
    refine DW.sole rfl rfl rfl (OW.call Tc68 rfl (cut_depth_ok (a0 := a0) (h_a0_worth.ext R0) hr2) ?_)
    rintro _ w8 ⟨rfl, E6⟩
    refine ⟨_, rfl, fun _ => E6, ModX.ext E6, ?_⟩
    replace H := H.grow E6
    replace R0 := H.ext
    refine DW.fix rfl rfl rfl (fun _ EQ => RV.leq rfl rfl) ?_
    refine DW.fix rfl rfl rfl (fun _ EQ => RV.move rfl) ?_
    refine DW.fixNB rfl rfl rfl rfl rfl (ne_beq (v := false) hq1 rfl) ?_
    refine DW.soleNB rfl rfl rfl rfl rfl (ne_beq (v := false) hq1 rfl) ?_
    refine DW.fix rfl rfl rfl (fun _ EQ => RV.pickFB rfl hq1 rfl) ?_
    refine DW.fix rfl rfl rfl (fun _ EQ => RV.assign rfl) ?_
    refine DW.nil (hK4 _ _ ?_)
    refine CW.ret ?_
    obtain rfl := Option.some.inj F
    refine ⟨_, (ResOK.one rfl), ?_⟩
    refine ⟨(by first | rfl | simp), R0⟩
set_option maxRecDepth 20000 in
set_option maxHeartbeats 1000000 in
theorem cut_Open_ok {a0 : Bog} {a1 : List Int} {A_a0_worth : Option Addr} {c_a0_worth : Nat} {A_a1 : Option Addr} {c_a1 : Nat} {w : World} {res : (List Int) × Int} (h_a0_worth : Sl2 w A_a0_worth c_a0_worth 1 encN a0.worth) (h_a1 : Sl w A_a1 c_a1 1 (a1.map encN)) (F : cut_Open a0 a1 = some res) : Calls Try.prog 19 #[.agg #[.slice A_a0_worth a0.worth.length c_a0_worth], .slice A_a1 a1.length c_a1] w (fun e w' => ∃ (A1 : Option Addr) (c1 : Nat), e = .returned (.tuple #[.slice A1 res.1.length c1, .int .i64 res.2]) ∧ Hp w w' [.own A1 c1 3 1 (List.map encN res.1)]) := by
  refine calls_of_cw (args := [.agg #[.slice A_a0_worth a0.worth.length c_a0_worth], .slice A_a1 a1.length c_a1]) Try.func19 rfl rfl rfl rfl ?_
  have H := Hp.start w
  have R0 := H.ext
  unfold cut_Open at F
  refine CW.seq fun K1 hK1 => ?_
  refine CW.region ?_
  refine LW.go rfl rfl (OW.box rfl fun b1 w1 N1 => ?_)
  replace H := H.new N1 N1.blk
  replace R0 := H.ext
  refine LW.pure rfl rfl (RV.assign rfl) ?_
  refine LW.pure rfl rfl (RV.assign rfl) ?_
  refine LW.nil (hK1 _ _ ?_)
  refine CW.seq fun K2 hK2 => ?_
  refine CW.seq fun K3 hK3 => ?_
  obtain ⟨r2, hr2, F⟩ := bnd_some F
  refine CW.region ?_
  refine LW.pure rfl rfl (RV.loadA [.slice A_a0_worth a0.worth.length c_a0_worth] Tk24 rfl (H.blk 0 rfl).cells rfl rfl) ?_
  refine LW.pure rfl rfl (RV.move rfl) ?_
  refine LW.go rfl rfl (OW.call Tc22 rfl (cut_CheckHollow_ok (a0 := a0) (a1 := a1) (h_a0_worth.ext R0) (h_a1.ext R0) hr2) ?_)
  rintro _ w2 ⟨rfl, E1⟩
  refine ⟨_, rfl, ?_⟩
  replace H := H.grow E1
  replace R0 := H.ext
  refine LW.pure rfl rfl (RV.assign rfl) ?_
  refine LW.nil (hK3 _ _ ?_)
  refine CW.seq fun K4 hK4 => ?_
  refine CW.region ?_
  refine LW.pure rfl rfl (RV.move rfl) ?_
  refine LW.pure rfl rfl (RV.nei rfl rfl) ?_
  refine LW.nil (hK4 _ _ ?_)
  by_cases hp1 : r2 = 0
  ·
    replace F := ite_y hp1 F
    have hq1 := dec_t hp1
    refine CW.condF rfl (not_f hq1) ?_
    refine CW.skip (hK2 _ _ ?_)
    refine CW.seq fun K5 hK5 => ?_
    refine CW.region ?_
    refine LW.pure rfl rfl (RV.assign rfl) ?_
    refine LW.nil (hK5 _ _ ?_)
    refine CW.seqJ (fun ρ wl1 => (∃ (l1 : List Int) (Al1 : Option Addr) (cl1 : Nat), cut_Open_k1 l1 = some res ∧ ρ = [(4, .slice none 0 0), (5, .int .i64 0), (7, .slice Al1 l1.length cl1)] ∧ Hp w wl1 [.own Al1 cl1 3 1 (List.map encN l1)])) ?_ ?_
    ·
      rintro _ wl1 ⟨l1, Al1, cl1, F, rfl, H⟩
      have R0 := H.ext
      unfold cut_Open_k1 at F
      refine CW.seq fun K6 hK6 => ?_
      refine CW.region ?_
      refine LW.pure rfl rfl (RV.move rfl) ?_
      refine LW.pure rfl rfl (RV.assign rfl) ?_
      refine LW.pure rfl rfl (RV.assign rfl) ?_
      refine LW.nil (hK6 _ _ ?_)
      refine CW.ret ?_
      obtain rfl := Option.some.inj F
      refine ⟨_, (ResOK.two rfl rfl), ?_⟩
      exact ⟨Al1, cl1, (by first | rfl | (simp; done) | (simp; omega)), H⟩
    ·
      intro K7 hK7 jK81
      refine CW.seq fun K8 hK8 => ?_
      refine CW.region ?_
      refine LW.pure rfl rfl (RV.move rfl) ?_
      refine LW.pure rfl rfl (RV.len Ts25 rfl) ?_
      refine LW.pure rfl rfl (RV.move rfl) ?_
      refine LW.nil (hK8 _ _ ?_)
      refine CW.block ?_
      replace H := H.nilOwn 3 1
      replace R0 := H.ext
      refine CW.loop (fun meas ρ wl2 => ∃ (t17_1 : Int) (l3 : List Int) (Al3 : Option Addr) (cl3 : Nat), cut_Open_L1 a0 a1 meas t17_1 l3 = some res ∧ ρ = [(1, .slice A_a1 a1.length c_a1), (2, .pointer (some (⟨b1, 0, none⟩))), (4, .slice none 0 0), (5, .int .i64 0), (7, .slice Al3 l3.length cl3), (16, .int .i64 ((a1.length : Int))), (17, .int .i64 t17_1)] ∧ Hp w wl2 [.own Al3 cl3 3 1 (List.map encN l3), .blk b1 24 [.slice A_a0_worth a0.worth.length c_a0_worth]]) FU ⟨_, ?_, ((0 : Int)), (([] : List Int)), none, 0, F, rfl, H⟩ ?_
      · exact ⟨rfl, rfl, rfl, rfl, (look_slice rfl (by first | rfl | (simp; done) | (simp; omega))), rfl, rfl, trivial⟩
      rintro mk1 _ wl2 ⟨t17_1, l3, Al3, cl3, F, rfl, H⟩
      have R0 := H.ext
      replace F := cut_Open_L1_s F
      obtain ⟨mk1, rfl, F⟩ := F
      generalize hrec1 : cut_Open_L1 a0 a1 mk1 = rec1 at F
      unfold cut_Open_B1 at F
      refine CW.seq fun K9 hK9 => ?_
      refine CW.region ?_
      refine LW.pure rfl rfl (RV.lss rfl rfl) ?_
      refine LW.nil (hK9 _ _ ?_)
      refine CW.seq fun K10 hK10 => ?_
      by_cases hp2 : t17_1 < ((a1.length : Int))
      ·
        replace F := ite_y hp2 F
        have hq2 := dec_t hp2
        refine CW.condT rfl hq2 ?_
        refine CW.skip (hK10 _ _ ?_)
        refine CW.seqJ (fun ρ wl3 => (∃ (l2 : List Int) (Al2 : Option Addr) (cl2 : Nat), cut_Open_k2 t17_1 rec1 l2 = some res ∧ ρ = [(1, .slice A_a1 a1.length c_a1), (2, .pointer (some (⟨b1, 0, none⟩))), (4, .slice none 0 0), (5, .int .i64 0), (7, .slice Al2 l2.length cl2), (16, .int .i64 ((a1.length : Int))), (17, .int .i64 t17_1)] ∧ Hp w wl3 [.own Al2 cl2 3 1 (List.map encN l2), .blk b1 24 [.slice A_a0_worth a0.worth.length c_a0_worth]])) ?_ ?_
        ·
          rintro _ wl3 ⟨l2, Al2, cl2, F, rfl, H⟩
          have R0 := H.ext
          unfold cut_Open_k2 at F
          obtain ⟨hg1, F⟩ := gd_some F
          refine CW.region ?_
          refine LW.pure rfl rfl (RV.add rfl rfl hg1) ?_
          refine LW.pure rfl rfl (RV.move rfl) ?_
          refine LW.nil ?_
          subst hrec1
          refine ⟨mk1, Nat.lt_succ_self _, _, ?_, (t17_1 + 1), l2, Al2, cl2, F, rfl, H⟩
          exact ⟨rfl, rfl, rfl, rfl, (look_slice rfl (by first | rfl | (simp; done) | (simp; omega))), rfl, rfl, trivial⟩
        ·
          intro K11 hK11 jK101
          refine CW.block ?_
          refine CW.seq fun K12 hK12 => ?_
          refine CW.region ?_
          refine LW.pure rfl rfl (RV.move rfl) ?_
          refine LW.pure rfl rfl (RV.assign rfl) ?_
          refine LW.nil (hK12 _ _ ?_)
          refine CW.seq fun K13 hK13 => ?_
          obtain ⟨r1, hr1, F⟩ := bnd_some F
          refine CW.region ?_
          refine LW.pure rfl rfl (RV.loadA [.slice A_a0_worth a0.worth.length c_a0_worth] Tk24 rfl (H.blk 1 rfl).cells rfl rfl) ?_
          refine LW.pure rfl rfl (RV.move rfl) ?_
          refine LW.pure rfl rfl (RV.move rfl) ?_
          refine LW.go rfl rfl (OW.call Tc61 rfl (cut_open_ok (a0 := a0) (a1 := a1) (a2 := t17_1) (h_a0_worth.ext R0) (h_a1.ext R0) hr1) ?_)
          rintro _ w3 ⟨rfl, E2⟩
          refine ⟨_, rfl, ?_⟩
          replace H := H.grow E2
          replace R0 := H.ext
          refine LW.nil (hK13 _ _ ?_)
          by_cases hp3 : r1 = true
          ·
            replace F := ite_y hp3 F
            have hq3 : r1 = true := hp3
            refine CW.condT rfl hq3 ?_
            obtain ⟨hg2, F⟩ := gd_some F
            refine CW.region ?_
            refine LW.pure rfl rfl (RV.move rfl) ?_
            refine LW.pure rfl rfl (RV.move rfl) ?_
            refine LW.go rfl rfl (OW.buildSlice (e := 3) (vs := [.int .i64 t17_1]) (cs := [.int .i64 t17_1]) rfl (fun _ => by kernel_rfl) fun b2 w4 N2 => ?_)
            replace H := H.made' (k := 1) (t := 3) (enc := encN) (l := ([t17_1] : List Int)) N2 N2.blk (fun _ => rfl) rfl (by first | decide | omega | (simp; done) | (simp; omega))
            replace R0 := H.ext
            refine LW.go rfl rfl (OW.appendG (enc := encN) (l := l3) (xs := ([t17_1] : List Int)) Ts25 rfl (look_slice rfl (by first | rfl | (simp; done) | (simp; omega))) (H.own 1 rfl) (H.own 0 rfl).sl (fun _ => rfl) rfl rfl hg2 (by decide) fun A2 c2 w5 O1 M1 D1 => ?_)
            replace H : Hp w w5 [.own (some ⟨b2, 0, none⟩) ((([t17_1] : List Int)).length) 3 1 (List.map encN (([t17_1] : List Int))), .own A2 c2 3 1 (List.map encN ((l3 ++ ([t17_1] : List Int)))), .blk b1 24 [.slice A_a0_worth a0.worth.length c_a0_worth]] := H.mod 1 rfl M1 O1 D1
            replace R0 := H.ext
            refine LW.pure rfl rfl (RV.assign rfl) ?_
            replace H := H.pick (L' := [.own A2 c2 3 1 (List.map encN ((l3 ++ ([t17_1] : List Int)))), .blk b1 24 [.slice A_a0_worth a0.worth.length c_a0_worth]]) [1, 2] (by decide) rfl
            replace R0 := H.ext
            refine LW.nil (jK101 _ _ ⟨_, ?_, ⟨((l3 ++ ([t17_1] : List Int))), A2, c2, F, rfl, H⟩⟩)
            exact ⟨rfl, rfl, rfl, rfl, (look_slice rfl (by first | rfl | (simp; done) | (simp; omega))), rfl, rfl, trivial⟩
          ·
            replace F := ite_n hp3 F
            have hq3 : r1 = false := raw_f hp3
            refine CW.condF rfl hq3 ?_
            refine CW.skip (jK101 _ _ ⟨_, ?_, ⟨l3, Al3, cl3, F, rfl, H⟩⟩)
            exact ⟨rfl, rfl, rfl, rfl, (look_slice rfl (by first | rfl | (simp; done) | (simp; omega))), rfl, rfl, trivial⟩
      ·
        replace F := ite_n hp2 F
        have hq2 := dec_f hp2
        refine CW.condF rfl hq2 ?_
        replace H := H.pick (L' := [.own Al3 cl3 3 1 (List.map encN l3)]) [0] (by decide) rfl
        replace R0 := H.ext
        refine CW.exit (jK81 _ _ ⟨_, ?_, ⟨l3, Al3, cl3, F, rfl, H⟩⟩)
        exact ⟨rfl, rfl, (look_slice rfl (by first | rfl | (simp; done) | (simp; omega))), trivial⟩
  ·
    replace F := ite_n hp1 F
    have hq1 := dec_f hp1
    refine CW.condT rfl (not_t hq1) ?_
    refine CW.seq fun K14 hK14 => ?_
    refine CW.region ?_
    refine LW.pure rfl rfl (RV.move rfl) ?_
    refine LW.pure rfl rfl (RV.assign rfl) ?_
    refine LW.pure rfl rfl (RV.assign rfl) ?_
    refine LW.nil (hK14 _ _ ?_)
    refine CW.ret ?_
    obtain rfl := Option.some.inj F
    refine ⟨_, (ResOK.two rfl rfl), ?_⟩
    replace H := H.nilOwn 3 1
    replace R0 := H.ext
    replace H := H.pick (L' := [.own none 0 3 1 (List.map encN (([] : List Int)))]) [0] (by decide) rfl
    replace R0 := H.ext
    exact ⟨none, 0, (by first | rfl | (simp; done) | (simp; omega)), H⟩
set_option maxRecDepth 20000 in
set_option maxHeartbeats 1000000 in
theorem ref04_SameInts_ok {a0 : List Int} {a1 : List Int} {A_a0 : Option Addr} {c_a0 : Nat} {A_a1 : Option Addr} {c_a1 : Nat} {w : World} {res : Bool} (h_a0 : Sl w A_a0 c_a0 1 (a0.map encN)) (h_a1 : Sl w A_a1 c_a1 1 (a1.map encN)) (F : ref04_SameInts a0 a1 = some res) : Calls Try.prog 21 #[.slice A_a0 a0.length c_a0, .slice A_a1 a1.length c_a1] w (Rt w (.bool res)) := by
  refine calls_of_cw (args := [.slice A_a0 a0.length c_a0, .slice A_a1 a1.length c_a1]) Try.func21 rfl rfl rfl rfl ?_
  have H := Hp.start w
  have R0 := H.ext
  unfold ref04_SameInts at F
  refine CW.seq fun K1 hK1 => ?_
  refine CW.region ?_
  refine LW.pure rfl rfl (RV.assign rfl) ?_
  refine LW.nil (hK1 _ _ ?_)
  refine CW.seq fun K2 hK2 => ?_
  refine CW.seq fun K3 hK3 => ?_
  refine CW.region ?_
  refine LW.pure rfl rfl (RV.move rfl) ?_
  refine LW.pure rfl rfl (RV.len Ts25 rfl) ?_
  refine LW.pure rfl rfl (RV.move rfl) ?_
  refine LW.pure rfl rfl (RV.len Ts25 rfl) ?_
  refine LW.pure rfl rfl (RV.nei rfl rfl) ?_
  refine LW.nil (hK3 _ _ ?_)
  by_cases hp1 : ((a0.length : Int)) = ((a1.length : Int))
  ·
    replace F := ite_y hp1 F
    have hq1 := dec_t hp1
    refine CW.condF rfl (not_f hq1) ?_
    refine CW.skip (hK2 _ _ ?_)
    refine CW.seqJ (fun ρ wl1 => (ref04_SameInts_k1 = some res ∧ ρ = [(4, .bool false)] ∧ Hp w wl1 [])) ?_ ?_
    ·
      rintro _ wl1 ⟨F, rfl, H⟩
      have R0 := H.ext
      unfold ref04_SameInts_k1 at F
      refine CW.seq fun K4 hK4 => ?_
      refine CW.region ?_
      refine LW.pure rfl rfl (RV.assign rfl) ?_
      refine LW.nil (hK4 _ _ ?_)
      refine CW.ret ?_
      obtain rfl := Option.some.inj F
      refine ⟨_, (ResOK.one rfl), ?_⟩
      refine ⟨(by first | rfl | simp), R0⟩
    ·
      intro K5 hK5 jK59
      refine CW.seq fun K6 hK6 => ?_
      refine CW.region ?_
      refine LW.pure rfl rfl (RV.assign rfl) ?_
      refine LW.nil (hK6 _ _ ?_)
      refine CW.block ?_
      refine CW.loop (fun meas ρ wl2 => ∃ (t5_1 : Int), ref04_SameInts_L1 a0 a1 meas t5_1 = some res ∧ ρ = [(0, .slice A_a0 a0.length c_a0), (1, .slice A_a1 a1.length c_a1), (4, .bool false), (5, .int .i64 t5_1)] ∧ Hp w wl2 []) FU ⟨_, ?_, ((0 : Int)), F, rfl, H⟩ ?_
      · exact ⟨rfl, rfl, rfl, rfl, trivial⟩
      rintro mk1 _ wl2 ⟨t5_1, F, rfl, H⟩
      have R0 := H.ext
      replace F := ref04_SameInts_L1_s F
      obtain ⟨mk1, rfl, F⟩ := F
      generalize hrec1 : ref04_SameInts_L1 a0 a1 mk1 = rec1 at F
      unfold ref04_SameInts_B1 at F
      refine CW.seq fun K7 hK7 => ?_
      refine CW.seq fun K8 hK8 => ?_
      refine CW.region ?_
      refine LW.pure rfl rfl (RV.move rfl) ?_
      refine LW.pure rfl rfl (RV.move rfl) ?_
      refine LW.pure rfl rfl (RV.len Ts25 rfl) ?_
      refine LW.pure rfl rfl (RV.lss rfl rfl) ?_
      refine LW.nil (hK8 _ _ ?_)
      by_cases hp2 : t5_1 < ((a0.length : Int))
      ·
        replace F := ite_y hp2 F
        have hq2 := dec_t hp2
        refine CW.condT rfl hq2 ?_
        refine CW.skip (hK7 _ _ ?_)
        refine CW.seq fun K9 hK9 => ?_
        refine CW.block ?_
        refine CW.seq fun K10 hK10 => ?_
        obtain ⟨x1, hbx1, hx1, F⟩ := ix_some F
        obtain ⟨x2, hbx2, hx2, F⟩ := ix_some F
        refine CW.draw [] (fun _ => True) (.cons 0 1 (.cons 1 1 (.cons 2 1 (.cons 3 1 (.cons 4 1 (.cons 5 1 (.cons 6 1 (.cons 7 1 (.cons 8 1 .nil))))))))) mixed (by kernel_rfl) fun w1 E1 => ?_
        replace H := H.grow E1
        replace R0 := H.ext
        refine DW.fix rfl rfl rfl (fun _ EQ => RV.move rfl) ?_
        refine DW.fix rfl rfl rfl (fun _ EQ => RV.move rfl) ?_
        refine DW.fix rfl rfl rfl (fun _ EQ => RV.indexAddr Ts25 rfl rfl hbx1 (h_a0.addr_ hx1)) ?_
        refine DW.fix rfl rfl rfl (fun _ EQ => RV.load1 Tk3 rfl ((h_a0.at_ hx1).ext (R0.trans EQ)) rfl) ?_
        refine DW.fix rfl rfl rfl (fun _ EQ => RV.move rfl) ?_
        refine DW.fix rfl rfl rfl (fun _ EQ => RV.move rfl) ?_
        refine DW.fix rfl rfl rfl (fun _ EQ => RV.indexAddr Ts25 rfl rfl hbx2 (h_a1.addr_ hx2)) ?_
        refine DW.fix rfl rfl rfl (fun _ EQ => RV.load1 Tk3 rfl ((h_a1.at_ hx2).ext (R0.trans EQ)) rfl) ?_
        refine DW.fix rfl rfl rfl (fun _ EQ => RV.nei rfl rfl) ?_
        refine DW.nil (hK10 _ _ ?_)
        by_cases hp3 : x1 = x2
        ·
          replace F := ite_y hp3 F
          have hq3 := dec_t hp3
          refine CW.condF rfl (not_f hq3) ?_
          refine CW.skip (hK9 _ _ ?_)
          obtain ⟨hg1, F⟩ := gd_some F
          refine CW.region ?_
          refine LW.pure rfl rfl (RV.move rfl) ?_
          refine LW.pure rfl rfl (RV.add rfl rfl hg1) ?_
          refine LW.pure rfl rfl (RV.assign rfl) ?_
          refine LW.nil ?_
          subst hrec1
          refine ⟨mk1, Nat.lt_succ_self _, _, ?_, (t5_1 + 1), F, rfl, H⟩
          exact ⟨rfl, rfl, rfl, rfl, trivial⟩
        ·
          replace F := ite_n hp3 F
          have hq3 := dec_f hp3
          refine CW.condT rfl (not_t hq3) ?_
          refine CW.seq fun K11 hK11 => ?_
          refine CW.region ?_
          refine LW.pure rfl rfl (RV.assign rfl) ?_
          refine LW.nil (hK11 _ _ ?_)
          refine CW.ret ?_
          obtain rfl := Option.some.inj F
          refine ⟨_, (ResOK.one rfl), ?_⟩
          refine ⟨(by first | rfl | simp), R0⟩
      ·
        replace F := ite_n hp2 F
        have hq2 := dec_f hp2
        refine CW.condF rfl hq2 ?_
        refine CW.exit (jK59 _ _ ⟨_, ?_, ⟨F, rfl, H⟩⟩)
        exact ⟨rfl, trivial⟩
  ·
    replace F := ite_n hp1 F
    have hq1 := dec_f hp1
    refine CW.condT rfl (not_t hq1) ?_
    refine CW.seq fun K12 hK12 => ?_
    refine CW.region ?_
    refine LW.pure rfl rfl (RV.assign rfl) ?_
    refine LW.nil (hK12 _ _ ?_)
    refine CW.ret ?_
    obtain rfl := Option.some.inj F
    refine ⟨_, (ResOK.one rfl), ?_⟩
    refine ⟨(by first | rfl | simp), R0⟩
set_option maxRecDepth 20000 in
set_option maxHeartbeats 1000000 in
theorem law04_sane_ok {w : World} {res : Bool} (F : law04_sane = some res) : Calls Try.prog 18 #[] w (Rt w (.bool res)) := by
  refine calls_of_cw (args := []) Try.func18 rfl rfl rfl rfl ?_
  have H := Hp.start w
  have R0 := H.ext
  unfold law04_sane at F
  refine CW.seq fun K1 hK1 => ?_
  refine CW.region ?_
  refine LW.pure rfl rfl (RV.assign rfl) ?_
  refine LW.nil (hK1 _ _ ?_)
  refine CW.seq fun K2 hK2 => ?_
  obtain ⟨r1, hr1, F⟩ := bnd_some F
  refine CW.region ?_
  refine LW.go rfl rfl (OW.buildSlice (e := 3) (vs := [.int .i64 (-3), .int .i64 5]) (cs := [.int .i64 (-3), .int .i64 5]) rfl (fun _ => by kernel_rfl) fun b1 w1 N1 => ?_)
  replace H := H.made' (k := 1) (t := 3) (enc := encN) (l := ([-3, 5] : List Int)) N1 N1.blk (fun _ => rfl) rfl (by first | decide | omega | (simp; done) | (simp; omega))
  replace R0 := H.ext
  refine LW.go rfl rfl (OW.buildSlice (e := 25) (vs := [.slice (some ⟨b1, 0, none⟩) 2 ((([-3, 5] : List Int)).length)]) (cs := [.slice (some ⟨b1, 0, none⟩) 2 ((([-3, 5] : List Int)).length)]) rfl (fun _ => by kernel_rfl) fun b2 w2 N2 => ?_)
  replace H := H.made' (k := 1) (t := 25) (enc := encH) (l := ([((some ⟨b1, 0, none⟩, (([-3, 5] : List Int)).length), ([-3, 5] : List Int))] : List ((Option Addr × Nat) × List Int))) N2 (by have q := N2.blk; simp only [List.flatMap_cons, List.flatMap_nil, encH, List.length_nil, List.append_nil, List.cons_append, List.nil_append]; first | done | exact q) (fun _ => rfl) rfl (by first | decide | omega | (simp; done) | (simp; omega))
  replace R0 := H.ext
  have hS25 : Sl2 w2 (some ⟨b2, 0, none⟩) 1 1 encN [([-3, 5] : List Int)] := Sl2.one (H.own 0 rfl).sl (H.own 1 rfl).sl
  refine LW.pure rfl rfl (RV.build (vs := [.slice (some ⟨b2, 0, none⟩) 1 1]) (cs := [.slice (some ⟨b2, 0, none⟩) 1 1]) rfl (fun _ => by kernel_rfl)) ?_
  refine LW.go rfl rfl (OW.call Tc28 (evs_cast rfl (by first | rfl | (simp; done) | (simp; omega))) (cut_Best_ok (a0 := (⟨([([-3, 5] : List Int)] : List (List Int))⟩ : Bog)) hS25 hr1) ?_)
  rintro _ w3 ⟨A7_0, c7_0, rfl, E1⟩
  refine ⟨_, rfl, ?_⟩
  have hS25 := hS25.ext E1.ext
  replace H : Hp w w3 [.own A7_0 c7_0 3 1 (List.map encN r1.1), .own (some ⟨b2, 0, none⟩) ((([((some ⟨b1, 0, none⟩, (([-3, 5] : List Int)).length), ([-3, 5] : List Int))] : List ((Option Addr × Nat) × List Int))).length) 25 1 (List.map encH (([((some ⟨b1, 0, none⟩, (([-3, 5] : List Int)).length), ([-3, 5] : List Int))] : List ((Option Addr × Nat) × List Int)))), .own (some ⟨b1, 0, none⟩) ((([-3, 5] : List Int)).length) 3 1 (List.map encN (([-3, 5] : List Int)))] := H.append E1
  replace R0 := H.ext
  refine LW.pure rfl rfl (RV.move rfl) ?_
  refine LW.pure rfl rfl (RV.extract rfl rfl) ?_
  refine LW.pure rfl rfl (RV.extract rfl rfl) ?_
  refine LW.pure rfl rfl (RV.extract rfl rfl) ?_
  refine LW.pure rfl rfl (RV.assign rfl) ?_
  refine LW.pure rfl rfl (RV.assign rfl) ?_
  refine LW.pure rfl rfl (RV.assign rfl) ?_
  refine LW.nil (hK2 _ _ ?_)
  refine CW.seq fun K3 hK3 => ?_
  obtain ⟨r2, hr2, F⟩ := bnd_some F
  refine CW.region ?_
  refine LW.go rfl rfl (OW.buildSlice (e := 3) (vs := [.int .i64 1, .int .i64 1]) (cs := [.int .i64 1, .int .i64 1]) rfl (fun _ => by kernel_rfl) fun b3 w4 N3 => ?_)
  have hS25 := hS25.ext N3.ext
  replace H := H.made' (k := 1) (t := 3) (enc := encN) (l := ([1, 1] : List Int)) N3 N3.blk (fun _ => rfl) rfl (by first | decide | omega | (simp; done) | (simp; omega))
  replace R0 := H.ext
  refine LW.go rfl rfl (OW.buildSlice (e := 3) (vs := [.int .i64 1, .int .i64 1]) (cs := [.int .i64 1, .int .i64 1]) rfl (fun _ => by kernel_rfl) fun b4 w5 N4 => ?_)
  have hS25 := hS25.ext N4.ext
  replace H := H.made' (k := 1) (t := 3) (enc := encN) (l := ([1, 1] : List Int)) N4 N4.blk (fun _ => rfl) rfl (by first | decide | omega | (simp; done) | (simp; omega))
  replace R0 := H.ext
  refine LW.go rfl rfl (OW.buildSlice (e := 25) (vs := [.slice (some ⟨b3, 0, none⟩) 2 ((([1, 1] : List Int)).length), .slice (some ⟨b4, 0, none⟩) 2 ((([1, 1] : List Int)).length)]) (cs := [.slice (some ⟨b3, 0, none⟩) 2 ((([1, 1] : List Int)).length), .slice (some ⟨b4, 0, none⟩) 2 ((([1, 1] : List Int)).length)]) rfl (fun _ => by kernel_rfl) fun b5 w6 N5 => ?_)
  have hS25 := hS25.ext N5.ext
  replace H := H.made' (k := 1) (t := 25) (enc := encH) (l := ([((some ⟨b3, 0, none⟩, (([1, 1] : List Int)).length), ([1, 1] : List Int)), ((some ⟨b4, 0, none⟩, (([1, 1] : List Int)).length), ([1, 1] : List Int))] : List ((Option Addr × Nat) × List Int))) N5 (by have q := N5.blk; simp only [List.flatMap_cons, List.flatMap_nil, encH, List.length_nil, List.append_nil, List.cons_append, List.nil_append]; first | done | exact q) (fun _ => rfl) rfl (by first | decide | omega | (simp; done) | (simp; omega))
  replace R0 := H.ext
  have hS27 : Sl2 w6 (some ⟨b5, 0, none⟩) 2 1 encN [([1, 1] : List Int), ([1, 1] : List Int)] := Sl2.two (H.own 0 rfl).sl (H.own 2 rfl).sl (H.own 1 rfl).sl
  refine LW.pure rfl rfl (RV.build (vs := [.slice (some ⟨b5, 0, none⟩) 2 2]) (cs := [.slice (some ⟨b5, 0, none⟩) 2 2]) rfl (fun _ => by kernel_rfl)) ?_
  refine LW.go rfl rfl (OW.call Tc49 (evs_cast rfl (by first | rfl | (simp; done) | (simp; omega))) (cut_Count_ok (a0 := (⟨([([1, 1] : List Int), ([1, 1] : List Int)] : List (List Int))⟩ : Bog)) hS27 hr2) ?_)
  rintro _ w7 ⟨rfl, E2⟩
  refine ⟨_, rfl, ?_⟩
  have hS25 := hS25.ext E2
  have hS27 := hS27.ext E2
  replace H := H.grow E2
  replace R0 := H.ext
  refine LW.pure rfl rfl (RV.move rfl) ?_
  refine LW.pure rfl rfl (RV.extract rfl rfl) ?_
  refine LW.pure rfl rfl (RV.extract rfl rfl) ?_
  refine LW.pure rfl rfl (RV.assign rfl) ?_
  refine LW.pure rfl rfl (RV.assign rfl) ?_
  refine LW.nil (hK3 _ _ ?_)
  refine CW.seq fun K4 hK4 => ?_
  obtain ⟨r3, hr3, F⟩ := bnd_some F
  refine CW.region ?_
  refine LW.go rfl rfl (OW.buildSlice (e := 3) (vs := [.int .i64 0]) (cs := [.int .i64 0]) rfl (fun _ => by kernel_rfl) fun b6 w8 N6 => ?_)
  have hS25 := hS25.ext N6.ext
  have hS27 := hS27.ext N6.ext
  replace H := H.made' (k := 1) (t := 3) (enc := encN) (l := ([0] : List Int)) N6 N6.blk (fun _ => rfl) rfl (by first | decide | omega | (simp; done) | (simp; omega))
  replace R0 := H.ext
  refine LW.go rfl rfl (OW.buildSlice (e := 3) (vs := [.int .i64 0]) (cs := [.int .i64 0]) rfl (fun _ => by kernel_rfl) fun b7 w9 N7 => ?_)
  have hS25 := hS25.ext N7.ext
  have hS27 := hS27.ext N7.ext
  replace H := H.made' (k := 1) (t := 3) (enc := encN) (l := ([0] : List Int)) N7 N7.blk (fun _ => rfl) rfl (by first | decide | omega | (simp; done) | (simp; omega))
  replace R0 := H.ext
  refine LW.go rfl rfl (OW.buildSlice (e := 3) (vs := [.int .i64 0]) (cs := [.int .i64 0]) rfl (fun _ => by kernel_rfl) fun b8 w10 N8 => ?_)
  have hS25 := hS25.ext N8.ext
  have hS27 := hS27.ext N8.ext
  replace H := H.made' (k := 1) (t := 3) (enc := encN) (l := ([0] : List Int)) N8 N8.blk (fun _ => rfl) rfl (by first | decide | omega | (simp; done) | (simp; omega))
  replace R0 := H.ext
  refine LW.go rfl rfl (OW.buildSlice (e := 25) (vs := [.slice (some ⟨b6, 0, none⟩) 1 ((([0] : List Int)).length), .slice (some ⟨b7, 0, none⟩) 1 ((([0] : List Int)).length), .slice (some ⟨b8, 0, none⟩) 1 ((([0] : List Int)).length)]) (cs := [.slice (some ⟨b6, 0, none⟩) 1 ((([0] : List Int)).length), .slice (some ⟨b7, 0, none⟩) 1 ((([0] : List Int)).length), .slice (some ⟨b8, 0, none⟩) 1 ((([0] : List Int)).length)]) rfl (fun _ => by kernel_rfl) fun b9 w11 N9 => ?_)
  have hS25 := hS25.ext N9.ext
  have hS27 := hS27.ext N9.ext
  replace H := H.made' (k := 1) (t := 25) (enc := encH) (l := ([((some ⟨b6, 0, none⟩, (([0] : List Int)).length), ([0] : List Int)), ((some ⟨b7, 0, none⟩, (([0] : List Int)).length), ([0] : List Int)), ((some ⟨b8, 0, none⟩, (([0] : List Int)).length), ([0] : List Int))] : List ((Option Addr × Nat) × List Int))) N9 (by have q := N9.blk; simp only [List.flatMap_cons, List.flatMap_nil, encH, List.length_nil, List.append_nil, List.cons_append, List.nil_append]; first | done | exact q) (fun _ => rfl) rfl (by first | decide | omega | (simp; done) | (simp; omega))
  replace R0 := H.ext
  have hS29 : Sl2 w11 (some ⟨b9, 0, none⟩) 3 1 encN [([0] : List Int), ([0] : List Int), ([0] : List Int)] := Sl2.three (H.own 0 rfl).sl (H.own 3 rfl).sl (H.own 2 rfl).sl (H.own 1 rfl).sl
  refine LW.pure rfl rfl (RV.build (vs := [.slice (some ⟨b9, 0, none⟩) 3 3]) (cs := [.slice (some ⟨b9, 0, none⟩) 3 3]) rfl (fun _ => by kernel_rfl)) ?_
  refine LW.go rfl rfl (OW.buildSlice (e := 3) (vs := [.int .i64 1, .int .i64 0, .int .i64 0]) (cs := [.int .i64 1, .int .i64 0, .int .i64 0]) rfl (fun _ => by kernel_rfl) fun b10 w12 N10 => ?_)
  have hS25 := hS25.ext N10.ext
  have hS27 := hS27.ext N10.ext
  have hS29 := hS29.ext N10.ext
  replace H := H.made' (k := 1) (t := 3) (enc := encN) (l := ([1, 0, 0] : List Int)) N10 N10.blk (fun _ => rfl) rfl (by first | decide | omega | (simp; done) | (simp; omega))
  replace R0 := H.ext
  refine LW.go rfl rfl (OW.call Tc19 (evs_cast rfl (by first | rfl | (simp; done) | (simp; omega))) (cut_Open_ok (a0 := (⟨([([0] : List Int), ([0] : List Int), ([0] : List Int)] : List (List Int))⟩ : Bog)) (a1 := ([1, 0, 0] : List Int)) hS29 (H.own 0 rfl).sl hr3) ?_)
  rintro _ w13 ⟨A11_0, c11_0, rfl, E3⟩
  refine ⟨_, rfl, ?_⟩
  have hS25 := hS25.ext E3.ext
  have hS27 := hS27.ext E3.ext
  have hS29 := hS29.ext E3.ext
  replace H : Hp w w13 [.own A11_0 c11_0 3 1 (List.map encN r3.1), .own (some ⟨b10, 0, none⟩) ((([1, 0, 0] : List Int)).length) 3 1 (List.map encN (([1, 0, 0] : List Int))), .own (some ⟨b9, 0, none⟩) ((([((some ⟨b6, 0, none⟩, (([0] : List Int)).length), ([0] : List Int)), ((some ⟨b7, 0, none⟩, (([0] : List Int)).length), ([0] : List Int)), ((some ⟨b8, 0, none⟩, (([0] : List Int)).length), ([0] : List Int))] : List ((Option Addr × Nat) × List Int))).length) 25 1 (List.map encH (([((some ⟨b6, 0, none⟩, (([0] : List Int)).length), ([0] : List Int)), ((some ⟨b7, 0, none⟩, (([0] : List Int)).length), ([0] : List Int)), ((some ⟨b8, 0, none⟩, (([0] : List Int)).length), ([0] : List Int))] : List ((Option Addr × Nat) × List Int)))), .own (some ⟨b8, 0, none⟩) ((([0] : List Int)).length) 3 1 (List.map encN (([0] : List Int))), .own (some ⟨b7, 0, none⟩) ((([0] : List Int)).length) 3 1 (List.map encN (([0] : List Int))), .own (some ⟨b6, 0, none⟩) ((([0] : List Int)).length) 3 1 (List.map encN (([0] : List Int))), .own (some ⟨b5, 0, none⟩) ((([((some ⟨b3, 0, none⟩, (([1, 1] : List Int)).length), ([1, 1] : List Int)), ((some ⟨b4, 0, none⟩, (([1, 1] : List Int)).length), ([1, 1] : List Int))] : List ((Option Addr × Nat) × List Int))).length) 25 1 (List.map encH (([((some ⟨b3, 0, none⟩, (([1, 1] : List Int)).length), ([1, 1] : List Int)), ((some ⟨b4, 0, none⟩, (([1, 1] : List Int)).length), ([1, 1] : List Int))] : List ((Option Addr × Nat) × List Int)))), .own (some ⟨b4, 0, none⟩) ((([1, 1] : List Int)).length) 3 1 (List.map encN (([1, 1] : List Int))), .own (some ⟨b3, 0, none⟩) ((([1, 1] : List Int)).length) 3 1 (List.map encN (([1, 1] : List Int))), .own A7_0 c7_0 3 1 (List.map encN r1.1), .own (some ⟨b2, 0, none⟩) ((([((some ⟨b1, 0, none⟩, (([-3, 5] : List Int)).length), ([-3, 5] : List Int))] : List ((Option Addr × Nat) × List Int))).length) 25 1 (List.map encH (([((some ⟨b1, 0, none⟩, (([-3, 5] : List Int)).length), ([-3, 5] : List Int))] : List ((Option Addr × Nat) × List Int)))), .own (some ⟨b1, 0, none⟩) ((([-3, 5] : List Int)).length) 3 1 (List.map encN (([-3, 5] : List Int)))] := H.append E3
  replace R0 := H.ext
  refine LW.pure rfl rfl (RV.move rfl) ?_
  refine LW.pure rfl rfl (RV.extract rfl rfl) ?_
  refine LW.pure rfl rfl (RV.extract rfl rfl) ?_
  refine LW.pure rfl rfl (RV.assign rfl) ?_
  refine LW.pure rfl rfl (RV.assign rfl) ?_
  refine LW.nil (hK4 _ _ ?_)
  refine CW.seq fun K5 hK5 => ?_
  by_cases hp1 : r1.2.2 = 0
  ·
    replace F := ite_y hp1 F
    have hq1 := dec_t hp1
    by_cases hp2 : r1.2.1 = 2
    ·
      replace F := ite_y hp2 F
      have hq2 := dec_t hp2
      obtain ⟨r4, hr4, F⟩ := bnd_some F
      by_cases hp3 : r4 = true
      ·
        replace F := ite_y hp3 F
        have hq3 : r4 = true := hp3
        by_cases hp4 : r2.2 = 0
        ·
          replace F := ite_y hp4 F
          have hq4 := dec_t hp4
          by_cases hp5 : r2.1 = 7
          ·
            replace F := ite_y hp5 F
            have hq5 := dec_t hp5
            by_cases hp6 : r3.2 = 0
            ·
              replace F := ite_y hp6 F
              have hq6 := dec_t hp6
              obtain ⟨r5, hr5, F⟩ := bnd_some F
              refine CW.region ?_
              refine LW.pure rfl rfl (RV.move rfl) ?_
              refine LW.pure rfl rfl (RV.eqi rfl rfl) ?_
              refine LW.pure rfl rfl (RV.move rfl) ?_
              refine LW.pureYB rfl rfl rfl rfl hq1 (RV.move rfl) ?_
              refine LW.pureYB rfl rfl rfl rfl hq1 (RV.eqi rfl rfl) ?_
              refine LW.pure rfl rfl (RV.pickTB rfl hq1 rfl) ?_
              refine LW.pure rfl rfl (RV.move rfl) ?_
              refine LW.pureYB rfl rfl rfl rfl hq2 (RV.move rfl) ?_
              refine LW.yesB rfl rfl rfl rfl hq2 (OW.buildSlice (e := 3) (vs := [.int .i64 2]) (cs := [.int .i64 2]) rfl (fun _ => by kernel_rfl) fun b11 w14 N11 => ?_)
              have hS25 := hS25.ext N11.ext
              have hS27 := hS27.ext N11.ext
              have hS29 := hS29.ext N11.ext
              replace H := H.made' (k := 1) (t := 3) (enc := encN) (l := ([2] : List Int)) N11 N11.blk (fun _ => rfl) rfl (by first | decide | omega | (simp; done) | (simp; omega))
              replace R0 := H.ext
              refine LW.yesB rfl rfl rfl rfl hq2 (OW.call Tc21 (evs_cast rfl (by first | rfl | (simp; done) | (simp; omega))) (ref04_SameInts_ok (a0 := r1.1) (a1 := ([2] : List Int)) (H.own 10 rfl).sl (H.own 0 rfl).sl hr4) ?_)
              rintro _ w15 ⟨rfl, E4⟩
              refine ⟨_, rfl, ?_⟩
              have hS25 := hS25.ext E4
              have hS27 := hS27.ext E4
              have hS29 := hS29.ext E4
              replace H := H.grow E4
              replace R0 := H.ext
              refine LW.pure rfl rfl (RV.pickTB rfl hq2 rfl) ?_
              refine LW.pure rfl rfl (RV.move rfl) ?_
              refine LW.pureYB rfl rfl rfl rfl hq3 (RV.move rfl) ?_
              refine LW.pureYB rfl rfl rfl rfl hq3 (RV.eqi rfl rfl) ?_
              refine LW.pure rfl rfl (RV.pickTB rfl hq3 rfl) ?_
              refine LW.pure rfl rfl (RV.move rfl) ?_
              refine LW.pureYB rfl rfl rfl rfl hq4 (RV.move rfl) ?_
              refine LW.pureYB rfl rfl rfl rfl hq4 (RV.eqi rfl rfl) ?_
              refine LW.pure rfl rfl (RV.pickTB rfl hq4 rfl) ?_
              refine LW.pure rfl rfl (RV.move rfl) ?_
              refine LW.pureYB rfl rfl rfl rfl hq5 (RV.move rfl) ?_
              refine LW.pureYB rfl rfl rfl rfl hq5 (RV.eqi rfl rfl) ?_
              refine LW.pure rfl rfl (RV.pickTB rfl hq5 rfl) ?_
              refine LW.pure rfl rfl (RV.move rfl) ?_
              refine LW.pureYB rfl rfl rfl rfl hq6 (RV.move rfl) ?_
              refine LW.yesB rfl rfl rfl rfl hq6 (OW.buildSlice (e := 3) (vs := [.int .i64 1, .int .i64 2]) (cs := [.int .i64 1, .int .i64 2]) rfl (fun _ => by kernel_rfl) fun b12 w16 N12 => ?_)
              have hS25 := hS25.ext N12.ext
              have hS27 := hS27.ext N12.ext
              have hS29 := hS29.ext N12.ext
              replace H := H.made' (k := 1) (t := 3) (enc := encN) (l := ([1, 2] : List Int)) N12 N12.blk (fun _ => rfl) rfl (by first | decide | omega | (simp; done) | (simp; omega))
              replace R0 := H.ext
              refine LW.yesB rfl rfl rfl rfl hq6 (OW.call Tc21 (evs_cast rfl (by first | rfl | (simp; done) | (simp; omega))) (ref04_SameInts_ok (a0 := r3.1) (a1 := ([1, 2] : List Int)) (H.own 2 rfl).sl (H.own 0 rfl).sl hr5) ?_)
              rintro _ w17 ⟨rfl, E5⟩
              refine ⟨_, rfl, ?_⟩
              have hS25 := hS25.ext E5
              have hS27 := hS27.ext E5
              have hS29 := hS29.ext E5
              replace H := H.grow E5
              replace R0 := H.ext
              refine LW.pure rfl rfl (RV.pickTB rfl hq6 rfl) ?_
              refine LW.pure rfl rfl (RV.assign rfl) ?_
              refine LW.nil (hK5 _ _ ?_)
              refine CW.ret ?_
              obtain rfl := Option.some.inj F
              refine ⟨_, (ResOK.one rfl), ?_⟩
              refine ⟨(by first | rfl | simp), R0⟩
            ·
              replace F := ite_n hp6 F
              have hq6 := dec_f hp6
              refine CW.region ?_
              refine LW.pure rfl rfl (RV.move rfl) ?_
              refine LW.pure rfl rfl (RV.eqi rfl rfl) ?_
              refine LW.pure rfl rfl (RV.move rfl) ?_
              refine LW.pureYB rfl rfl rfl rfl hq1 (RV.move rfl) ?_
              refine LW.pureYB rfl rfl rfl rfl hq1 (RV.eqi rfl rfl) ?_
              refine LW.pure rfl rfl (RV.pickTB rfl hq1 rfl) ?_
              refine LW.pure rfl rfl (RV.move rfl) ?_
              refine LW.pureYB rfl rfl rfl rfl hq2 (RV.move rfl) ?_
              refine LW.yesB rfl rfl rfl rfl hq2 (OW.buildSlice (e := 3) (vs := [.int .i64 2]) (cs := [.int .i64 2]) rfl (fun _ => by kernel_rfl) fun b13 w18 N13 => ?_)
              have hS25 := hS25.ext N13.ext
              have hS27 := hS27.ext N13.ext
              have hS29 := hS29.ext N13.ext
              replace H := H.made' (k := 1) (t := 3) (enc := encN) (l := ([2] : List Int)) N13 N13.blk (fun _ => rfl) rfl (by first | decide | omega | (simp; done) | (simp; omega))
              replace R0 := H.ext
              refine LW.yesB rfl rfl rfl rfl hq2 (OW.call Tc21 (evs_cast rfl (by first | rfl | (simp; done) | (simp; omega))) (ref04_SameInts_ok (a0 := r1.1) (a1 := ([2] : List Int)) (H.own 10 rfl).sl (H.own 0 rfl).sl hr4) ?_)
              rintro _ w19 ⟨rfl, E6⟩
              refine ⟨_, rfl, ?_⟩
              have hS25 := hS25.ext E6
              have hS27 := hS27.ext E6
              have hS29 := hS29.ext E6
              replace H := H.grow E6
              replace R0 := H.ext
              refine LW.pure rfl rfl (RV.pickTB rfl hq2 rfl) ?_
              refine LW.pure rfl rfl (RV.move rfl) ?_
              refine LW.pureYB rfl rfl rfl rfl hq3 (RV.move rfl) ?_
              refine LW.pureYB rfl rfl rfl rfl hq3 (RV.eqi rfl rfl) ?_
              refine LW.pure rfl rfl (RV.pickTB rfl hq3 rfl) ?_
              refine LW.pure rfl rfl (RV.move rfl) ?_
              refine LW.pureYB rfl rfl rfl rfl hq4 (RV.move rfl) ?_
              refine LW.pureYB rfl rfl rfl rfl hq4 (RV.eqi rfl rfl) ?_
              refine LW.pure rfl rfl (RV.pickTB rfl hq4 rfl) ?_
              refine LW.pure rfl rfl (RV.move rfl) ?_
              refine LW.pureYB rfl rfl rfl rfl hq5 (RV.move rfl) ?_
              refine LW.pureYB rfl rfl rfl rfl hq5 (RV.eqi rfl rfl) ?_
              refine LW.pure rfl rfl (RV.pickTB rfl hq5 rfl) ?_
              refine LW.pure rfl rfl (RV.move rfl) ?_
              refine LW.noB rfl rfl rfl rfl (ne_beq (v := false) hq6 rfl) ?_
              refine LW.noB rfl rfl rfl rfl (ne_beq (v := false) hq6 rfl) ?_
              refine LW.noB rfl rfl rfl rfl (ne_beq (v := false) hq6 rfl) ?_
              refine LW.pure rfl rfl (RV.pickFB rfl hq6 rfl) ?_
              refine LW.pure rfl rfl (RV.assign rfl) ?_
              refine LW.nil (hK5 _ _ ?_)
              refine CW.ret ?_
              obtain rfl := Option.some.inj F
              refine ⟨_, (ResOK.one rfl), ?_⟩
              refine ⟨(by first | rfl | simp), R0⟩
          ·
            replace F := ite_n hp5 F
            have hq5 := dec_f hp5
            refine CW.region ?_
            refine LW.pure rfl rfl (RV.move rfl) ?_
            refine LW.pure rfl rfl (RV.eqi rfl rfl) ?_
            refine LW.pure rfl rfl (RV.move rfl) ?_
            refine LW.pureYB rfl rfl rfl rfl hq1 (RV.move rfl) ?_
            refine LW.pureYB rfl rfl rfl rfl hq1 (RV.eqi rfl rfl) ?_
            refine LW.pure rfl rfl (RV.pickTB rfl hq1 rfl) ?_
            refine LW.pure rfl rfl (RV.move rfl) ?_
            refine LW.pureYB rfl rfl rfl rfl hq2 (RV.move rfl) ?_
            refine LW.yesB rfl rfl rfl rfl hq2 (OW.buildSlice (e := 3) (vs := [.int .i64 2]) (cs := [.int .i64 2]) rfl (fun _ => by kernel_rfl) fun b14 w20 N14 => ?_)
            have hS25 := hS25.ext N14.ext
            have hS27 := hS27.ext N14.ext
            have hS29 := hS29.ext N14.ext
            replace H := H.made' (k := 1) (t := 3) (enc := encN) (l := ([2] : List Int)) N14 N14.blk (fun _ => rfl) rfl (by first | decide | omega | (simp; done) | (simp; omega))
            replace R0 := H.ext
            refine LW.yesB rfl rfl rfl rfl hq2 (OW.call Tc21 (evs_cast rfl (by first | rfl | (simp; done) | (simp; omega))) (ref04_SameInts_ok (a0 := r1.1) (a1 := ([2] : List Int)) (H.own 10 rfl).sl (H.own 0 rfl).sl hr4) ?_)
            rintro _ w21 ⟨rfl, E7⟩
            refine ⟨_, rfl, ?_⟩
            have hS25 := hS25.ext E7
            have hS27 := hS27.ext E7
            have hS29 := hS29.ext E7
            replace H := H.grow E7
            replace R0 := H.ext
            refine LW.pure rfl rfl (RV.pickTB rfl hq2 rfl) ?_
            refine LW.pure rfl rfl (RV.move rfl) ?_
            refine LW.pureYB rfl rfl rfl rfl hq3 (RV.move rfl) ?_
            refine LW.pureYB rfl rfl rfl rfl hq3 (RV.eqi rfl rfl) ?_
            refine LW.pure rfl rfl (RV.pickTB rfl hq3 rfl) ?_
            refine LW.pure rfl rfl (RV.move rfl) ?_
            refine LW.pureYB rfl rfl rfl rfl hq4 (RV.move rfl) ?_
            refine LW.pureYB rfl rfl rfl rfl hq4 (RV.eqi rfl rfl) ?_
            refine LW.pure rfl rfl (RV.pickTB rfl hq4 rfl) ?_
            refine LW.pure rfl rfl (RV.move rfl) ?_
            refine LW.noB rfl rfl rfl rfl (ne_beq (v := false) hq5 rfl) ?_
            refine LW.noB rfl rfl rfl rfl (ne_beq (v := false) hq5 rfl) ?_
            refine LW.pure rfl rfl (RV.pickFB rfl hq5 rfl) ?_
            refine LW.pure rfl rfl (RV.move rfl) ?_
            refine LW.noB rfl rfl rfl rfl (ne_beq (v := false) rfl rfl) ?_
            refine LW.noB rfl rfl rfl rfl (ne_beq (v := false) rfl rfl) ?_
            refine LW.noB rfl rfl rfl rfl (ne_beq (v := false) rfl rfl) ?_
            refine LW.pure rfl rfl (RV.pickFB rfl rfl rfl) ?_
            refine LW.pure rfl rfl (RV.assign rfl) ?_
            refine LW.nil (hK5 _ _ ?_)
            refine CW.ret ?_
            obtain rfl := Option.some.inj F
            refine ⟨_, (ResOK.one rfl), ?_⟩
            refine ⟨(by first | rfl | simp), R0⟩
        ·
          replace F := ite_n hp4 F
          have hq4 := dec_f hp4
          refine CW.region ?_
          refine LW.pure rfl rfl (RV.move rfl) ?_
          refine LW.pure rfl rfl (RV.eqi rfl rfl) ?_
          refine LW.pure rfl rfl (RV.move rfl) ?_
          refine LW.pureYB rfl rfl rfl rfl hq1 (RV.move rfl) ?_
          refine LW.pureYB rfl rfl rfl rfl hq1 (RV.eqi rfl rfl) ?_
          refine LW.pure rfl rfl (RV.pickTB rfl hq1 rfl) ?_
          refine LW.pure rfl rfl (RV.move rfl) ?_
          refine LW.pureYB rfl rfl rfl rfl hq2 (RV.move rfl) ?_
          refine LW.yesB rfl rfl rfl rfl hq2 (OW.buildSlice (e := 3) (vs := [.int .i64 2]) (cs := [.int .i64 2]) rfl (fun _ => by kernel_rfl) fun b15 w22 N15 => ?_)
          have hS25 := hS25.ext N15.ext
          have hS27 := hS27.ext N15.ext
          have hS29 := hS29.ext N15.ext
          replace H := H.made' (k := 1) (t := 3) (enc := encN) (l := ([2] : List Int)) N15 N15.blk (fun _ => rfl) rfl (by first | decide | omega | (simp; done) | (simp; omega))
          replace R0 := H.ext
          refine LW.yesB rfl rfl rfl rfl hq2 (OW.call Tc21 (evs_cast rfl (by first | rfl | (simp; done) | (simp; omega))) (ref04_SameInts_ok (a0 := r1.1) (a1 := ([2] : List Int)) (H.own 10 rfl).sl (H.own 0 rfl).sl hr4) ?_)
          rintro _ w23 ⟨rfl, E8⟩
          refine ⟨_, rfl, ?_⟩
          have hS25 := hS25.ext E8
          have hS27 := hS27.ext E8
          have hS29 := hS29.ext E8
          replace H := H.grow E8
          replace R0 := H.ext
          refine LW.pure rfl rfl (RV.pickTB rfl hq2 rfl) ?_
          refine LW.pure rfl rfl (RV.move rfl) ?_
          refine LW.pureYB rfl rfl rfl rfl hq3 (RV.move rfl) ?_
          refine LW.pureYB rfl rfl rfl rfl hq3 (RV.eqi rfl rfl) ?_
          refine LW.pure rfl rfl (RV.pickTB rfl hq3 rfl) ?_
          refine LW.pure rfl rfl (RV.move rfl) ?_
          refine LW.noB rfl rfl rfl rfl (ne_beq (v := false) hq4 rfl) ?_
          refine LW.noB rfl rfl rfl rfl (ne_beq (v := false) hq4 rfl) ?_
          refine LW.pure rfl rfl (RV.pickFB rfl hq4 rfl) ?_
          refine LW.pure rfl rfl (RV.move rfl) ?_
          refine LW.noB rfl rfl rfl rfl (ne_beq (v := false) rfl rfl) ?_
          refine LW.noB rfl rfl rfl rfl (ne_beq (v := false) rfl rfl) ?_
          refine LW.pure rfl rfl (RV.pickFB rfl rfl rfl) ?_
          refine LW.pure rfl rfl (RV.move rfl) ?_
          refine LW.noB rfl rfl rfl rfl (ne_beq (v := false) rfl rfl) ?_
          refine LW.noB rfl rfl rfl rfl (ne_beq (v := false) rfl rfl) ?_
          refine LW.noB rfl rfl rfl rfl (ne_beq (v := false) rfl rfl) ?_
          refine LW.pure rfl rfl (RV.pickFB rfl rfl rfl) ?_
          refine LW.pure rfl rfl (RV.assign rfl) ?_
          refine LW.nil (hK5 _ _ ?_)
          refine CW.ret ?_
          obtain rfl := Option.some.inj F
          refine ⟨_, (ResOK.one rfl), ?_⟩
          refine ⟨(by first | rfl | simp), R0⟩
      ·
        replace F := ite_n hp3 F
        have hq3 : r4 = false := raw_f hp3
        refine CW.region ?_
        refine LW.pure rfl rfl (RV.move rfl) ?_
        refine LW.pure rfl rfl (RV.eqi rfl rfl) ?_
        refine LW.pure rfl rfl (RV.move rfl) ?_
        refine LW.pureYB rfl rfl rfl rfl hq1 (RV.move rfl) ?_
        refine LW.pureYB rfl rfl rfl rfl hq1 (RV.eqi rfl rfl) ?_
        refine LW.pure rfl rfl (RV.pickTB rfl hq1 rfl) ?_
        refine LW.pure rfl rfl (RV.move rfl) ?_
        refine LW.pureYB rfl rfl rfl rfl hq2 (RV.move rfl) ?_
        refine LW.yesB rfl rfl rfl rfl hq2 (OW.buildSlice (e := 3) (vs := [.int .i64 2]) (cs := [.int .i64 2]) rfl (fun _ => by kernel_rfl) fun b16 w24 N16 => ?_)
        have hS25 := hS25.ext N16.ext
        have hS27 := hS27.ext N16.ext
        have hS29 := hS29.ext N16.ext
        replace H := H.made' (k := 1) (t := 3) (enc := encN) (l := ([2] : List Int)) N16 N16.blk (fun _ => rfl) rfl (by first | decide | omega | (simp; done) | (simp; omega))
        replace R0 := H.ext
        refine LW.yesB rfl rfl rfl rfl hq2 (OW.call Tc21 (evs_cast rfl (by first | rfl | (simp; done) | (simp; omega))) (ref04_SameInts_ok (a0 := r1.1) (a1 := ([2] : List Int)) (H.own 10 rfl).sl (H.own 0 rfl).sl hr4) ?_)
        rintro _ w25 ⟨rfl, E9⟩
        refine ⟨_, rfl, ?_⟩
        have hS25 := hS25.ext E9
        have hS27 := hS27.ext E9
        have hS29 := hS29.ext E9
        replace H := H.grow E9
        replace R0 := H.ext
        refine LW.pure rfl rfl (RV.pickTB rfl hq2 rfl) ?_
        refine LW.pure rfl rfl (RV.move rfl) ?_
        refine LW.noB rfl rfl rfl rfl (ne_beq (v := false) hq3 rfl) ?_
        refine LW.noB rfl rfl rfl rfl (ne_beq (v := false) hq3 rfl) ?_
        refine LW.pure rfl rfl (RV.pickFB rfl hq3 rfl) ?_
        refine LW.pure rfl rfl (RV.move rfl) ?_
        refine LW.noB rfl rfl rfl rfl (ne_beq (v := false) rfl rfl) ?_
        refine LW.noB rfl rfl rfl rfl (ne_beq (v := false) rfl rfl) ?_
        refine LW.pure rfl rfl (RV.pickFB rfl rfl rfl) ?_
        refine LW.pure rfl rfl (RV.move rfl) ?_
        refine LW.noB rfl rfl rfl rfl (ne_beq (v := false) rfl rfl) ?_
        refine LW.noB rfl rfl rfl rfl (ne_beq (v := false) rfl rfl) ?_
        refine LW.pure rfl rfl (RV.pickFB rfl rfl rfl) ?_
        refine LW.pure rfl rfl (RV.move rfl) ?_
        refine LW.noB rfl rfl rfl rfl (ne_beq (v := false) rfl rfl) ?_
        refine LW.noB rfl rfl rfl rfl (ne_beq (v := false) rfl rfl) ?_
        refine LW.noB rfl rfl rfl rfl (ne_beq (v := false) rfl rfl) ?_
        refine LW.pure rfl rfl (RV.pickFB rfl rfl rfl) ?_
        refine LW.pure rfl rfl (RV.assign rfl) ?_
        refine LW.nil (hK5 _ _ ?_)
        refine CW.ret ?_
        obtain rfl := Option.some.inj F
        refine ⟨_, (ResOK.one rfl), ?_⟩
        refine ⟨(by first | rfl | simp), R0⟩
    ·
      replace F := ite_n hp2 F
      have hq2 := dec_f hp2
      refine CW.region ?_
      refine LW.pure rfl rfl (RV.move rfl) ?_
      refine LW.pure rfl rfl (RV.eqi rfl rfl) ?_
      refine LW.pure rfl rfl (RV.move rfl) ?_
      refine LW.pureYB rfl rfl rfl rfl hq1 (RV.move rfl) ?_
      refine LW.pureYB rfl rfl rfl rfl hq1 (RV.eqi rfl rfl) ?_
      refine LW.pure rfl rfl (RV.pickTB rfl hq1 rfl) ?_
      refine LW.pure rfl rfl (RV.move rfl) ?_
      refine LW.noB rfl rfl rfl rfl (ne_beq (v := false) hq2 rfl) ?_
      refine LW.noB rfl rfl rfl rfl (ne_beq (v := false) hq2 rfl) ?_
      refine LW.noB rfl rfl rfl rfl (ne_beq (v := false) hq2 rfl) ?_
      refine LW.pure rfl rfl (RV.pickFB rfl hq2 rfl) ?_
      refine LW.pure rfl rfl (RV.move rfl) ?_
      refine LW.noB rfl rfl rfl rfl (ne_beq (v := false) rfl rfl) ?_
      refine LW.noB rfl rfl rfl rfl (ne_beq (v := false) rfl rfl) ?_
      refine LW.pure rfl rfl (RV.pickFB rfl rfl rfl) ?_
      refine LW.pure rfl rfl (RV.move rfl) ?_
      refine LW.noB rfl rfl rfl rfl (ne_beq (v := false) rfl rfl) ?_
      refine LW.noB rfl rfl rfl rfl (ne_beq (v := false) rfl rfl) ?_
      refine LW.pure rfl rfl (RV.pickFB rfl rfl rfl) ?_
      refine LW.pure rfl rfl (RV.move rfl) ?_
      refine LW.noB rfl rfl rfl rfl (ne_beq (v := false) rfl rfl) ?_
      refine LW.noB rfl rfl rfl rfl (ne_beq (v := false) rfl rfl) ?_
      refine LW.pure rfl rfl (RV.pickFB rfl rfl rfl) ?_
      refine LW.pure rfl rfl (RV.move rfl) ?_
      refine LW.noB rfl rfl rfl rfl (ne_beq (v := false) rfl rfl) ?_
      refine LW.noB rfl rfl rfl rfl (ne_beq (v := false) rfl rfl) ?_
      refine LW.noB rfl rfl rfl rfl (ne_beq (v := false) rfl rfl) ?_
      refine LW.pure rfl rfl (RV.pickFB rfl rfl rfl) ?_
      refine LW.pure rfl rfl (RV.assign rfl) ?_
      refine LW.nil (hK5 _ _ ?_)
      refine CW.ret ?_
      obtain rfl := Option.some.inj F
      refine ⟨_, (ResOK.one rfl), ?_⟩
      refine ⟨(by first | rfl | simp), R0⟩
  ·
    replace F := ite_n hp1 F
    have hq1 := dec_f hp1
    refine CW.region ?_
    refine LW.pure rfl rfl (RV.move rfl) ?_
    refine LW.pure rfl rfl (RV.eqi rfl rfl) ?_
    refine LW.pure rfl rfl (RV.move rfl) ?_
    refine LW.noB rfl rfl rfl rfl (ne_beq (v := false) hq1 rfl) ?_
    refine LW.noB rfl rfl rfl rfl (ne_beq (v := false) hq1 rfl) ?_
    refine LW.pure rfl rfl (RV.pickFB rfl hq1 rfl) ?_
    refine LW.pure rfl rfl (RV.move rfl) ?_
    refine LW.noB rfl rfl rfl rfl (ne_beq (v := false) rfl rfl) ?_
    refine LW.noB rfl rfl rfl rfl (ne_beq (v := false) rfl rfl) ?_
    refine LW.noB rfl rfl rfl rfl (ne_beq (v := false) rfl rfl) ?_
    refine LW.pure rfl rfl (RV.pickFB rfl rfl rfl) ?_
    refine LW.pure rfl rfl (RV.move rfl) ?_
    refine LW.noB rfl rfl rfl rfl (ne_beq (v := false) rfl rfl) ?_
    refine LW.noB rfl rfl rfl rfl (ne_beq (v := false) rfl rfl) ?_
    refine LW.pure rfl rfl (RV.pickFB rfl rfl rfl) ?_
    refine LW.pure rfl rfl (RV.move rfl) ?_
    refine LW.noB rfl rfl rfl rfl (ne_beq (v := false) rfl rfl) ?_
    refine LW.noB rfl rfl rfl rfl (ne_beq (v := false) rfl rfl) ?_
    refine LW.pure rfl rfl (RV.pickFB rfl rfl rfl) ?_
    refine LW.pure rfl rfl (RV.move rfl) ?_
    refine LW.noB rfl rfl rfl rfl (ne_beq (v := false) rfl rfl) ?_
    refine LW.noB rfl rfl rfl rfl (ne_beq (v := false) rfl rfl) ?_
    refine LW.pure rfl rfl (RV.pickFB rfl rfl rfl) ?_
    refine LW.pure rfl rfl (RV.move rfl) ?_
    refine LW.noB rfl rfl rfl rfl (ne_beq (v := false) rfl rfl) ?_
    refine LW.noB rfl rfl rfl rfl (ne_beq (v := false) rfl rfl) ?_
    refine LW.noB rfl rfl rfl rfl (ne_beq (v := false) rfl rfl) ?_
    refine LW.pure rfl rfl (RV.pickFB rfl rfl rfl) ?_
    refine LW.pure rfl rfl (RV.assign rfl) ?_
    refine LW.nil (hK5 _ _ ?_)
    refine CW.ret ?_
    obtain rfl := Option.some.inj F
    refine ⟨_, (ResOK.one rfl), ?_⟩
    refine ⟨(by first | rfl | simp), R0⟩
end Go.D4

set_option linter.unusedVariables false
set_option linter.unusedSimpArgs false
namespace Go.D4
open Go.Tb Go.Proofs Go.RowKit
theorem Tc17 : callable Try.prog 17 = true := by kernel_rfl
theorem Tc18 : callable Try.prog 18 = true := by kernel_rfl
end Go.D4

set_option linter.unusedVariables false
set_option linter.unusedSimpArgs false
namespace Go.D4
open Go.Tb Go.Proofs Go.RowKit
theorem KO87 : KeyOK Try.prog 87 ekArr6 eqArr6 :=
  KeyOK.agg (d := .array 6 3) (fun x => #[.int .i64 x.at0, .int .i64 x.at1, .int .i64 x.at2, .int .i64 x.at3, .int .i64 x.at4, .int .i64 x.at5]) (by kernel_rfl) (fun _ => rfl) (fun w em x => by kernel_rfl) (fun w x y => by
    obtain ⟨i, hi⟩ := Option.isSome_iff_exists.1 (show (Try.prog.info? 3).isSome = true by kernel_rfl)
    have hc : Try.prog.cellsOf 3 = 1 := by kernel_rfl
    have hu : Try.prog.underlying 3 = some (.int .i64) := by kernel_rfl
    rw [run_equalIn_array w 9999 _ _ (by kernel_rfl) hi, hc]
    have hr : List.range 6 = [0, 1, 2, 3, 4, 5] := rfl
    rw [hr]
    simp [Op.eqItems, part, run_equalIn_int, hu, eqArr6]
    repeat' split
    all_goals simp_all) (fun x y => by cases x; cases y; simp [eqArr6, and_assoc]) (fun x => by simp [Instr.sameBits])
theorem Tc51 : callable Try.prog 51 = true := by kernel_rfl
theorem Tc53 : callable Try.prog 53 = true := by kernel_rfl
theorem Tc89 : callable Try.prog 89 = true := by kernel_rfl
theorem Tc90 : callable Try.prog 90 = true := by kernel_rfl
theorem Tm84 : tyM Try.prog 84 = some (87, 3) := by kernel_rfl
theorem Tz3 : tyZ Try.prog 3 = some (.int .i64 0) := by kernel_rfl
set_option maxRecDepth 20000 in
set_option maxHeartbeats 1000000 in
theorem cut_ranks_ok {a0 : Bog} {A_a0_worth : Option Addr} {c_a0_worth : Nat} {w : World} {res : (List (Arr6 × Int))} (h_a0_worth : Sl2 w A_a0_worth c_a0_worth 1 encN a0.worth) (F : cut_ranks a0 = some res) : Calls Try.prog 89 #[.agg #[.slice A_a0_worth a0.worth.length c_a0_worth]] w (fun e w' => ∃ (b1 : Nat), e = .returned (.map (some b1)) ∧ Hp w w' [.mp b1 (encMap ekArr6 ekI res)]) := by
  refine calls_of_cw (args := [.agg #[.slice A_a0_worth a0.worth.length c_a0_worth]]) Try.func89 rfl rfl rfl rfl ?_
  have H := Hp.start w
  have R0 := H.ext
  unfold cut_ranks at F
  refine CW.seq fun K1 hK1 => ?_
  refine CW.region ?_
  refine LW.go rfl rfl (OW.box rfl fun b2 w1 N1 => ?_)
  replace H := H.new N1 N1.blk
  replace R0 := H.ext
  refine LW.pure rfl rfl (RV.assign rfl) ?_
  refine LW.nil (hK1 _ _ ?_)
  refine CW.seq fun K2 hK2 => ?_
  refine CW.region ?_
  refine LW.go rfl rfl (OW.makeMap fun b3 w2 N2 M1 => ?_)
  replace H : Hp w w2 [.mp b3 (encMap ekArr6 ekI (([] : List (Arr6 × Int)))), .blk b2 24 [.slice A_a0_worth a0.worth.length c_a0_worth]] := H.newM N2 M1
  replace R0 := H.ext
  refine LW.pure rfl rfl (RV.assign rfl) ?_
  refine LW.nil (hK2 _ _ ?_)
  refine CW.seqJ (fun ρ wl1 => (∃ (m1 : List (Arr6 × Int)), cut_ranks_k1 m1 = some res ∧ ρ = [(2, .map none), (3, .map (some b3))] ∧ Hp w wl1 [.mp b3 (encMap ekArr6 ekI m1)])) ?_ ?_
  ·
    rintro _ wl1 ⟨m1, F, rfl, H⟩
    have R0 := H.ext
    unfold cut_ranks_k1 at F
    refine CW.seq fun K3 hK3 => ?_
    refine CW.region ?_
    refine LW.pure rfl rfl (RV.move rfl) ?_
    refine LW.pure rfl rfl (RV.assign rfl) ?_
    refine LW.nil (hK3 _ _ ?_)
    refine CW.ret ?_
    obtain rfl := Option.some.inj F
    refine ⟨_, (ResOK.one rfl), ?_⟩
    exact ⟨b3, (by first | rfl | (simp; done) | (simp; omega)), H⟩
  ·
    intro K4 hK4 jK47
    refine CW.seq fun K5 hK5 => ?_
    obtain ⟨r1, hr1, F⟩ := bnd_some F
    refine CW.region ?_
    refine LW.pure rfl rfl (RV.loadA [.slice A_a0_worth a0.worth.length c_a0_worth] Tk24 rfl (H.blk 1 rfl).cells rfl rfl) ?_
    refine LW.go rfl rfl (OW.call Tc88 rfl (cut_all_ok (a0 := a0) (h_a0_worth.ext R0) hr1) ?_)
    rintro _ w3 ⟨A5_0, c5_0, rfl, E1⟩
    refine ⟨_, rfl, ?_⟩
    replace H : Hp w w3 [.own A5_0 c5_0 87 6 (List.map encArr6 r1), .mp b3 (encMap ekArr6 ekI (([] : List (Arr6 × Int)))), .blk b2 24 [.slice A_a0_worth a0.worth.length c_a0_worth]] := H.append E1
    replace R0 := H.ext
    refine LW.pure rfl rfl (RV.len Ts82 rfl) ?_
    refine LW.pure rfl rfl (RV.move rfl) ?_
    refine LW.nil (hK5 _ _ ?_)
    refine CW.block ?_
    replace H := H.pick (L' := [.mp b3 (encMap ekArr6 ekI (([] : List (Arr6 × Int)))), .own A5_0 c5_0 87 6 (List.map encArr6 r1)]) [1, 0] (by decide) rfl
    replace R0 := H.ext
    refine CW.loop (fun meas ρ wl2 => ∃ (t10_1 : Int) (m2 : List (Arr6 × Int)), cut_ranks_L1 r1 meas t10_1 m2 = some res ∧ ρ = [(2, .map none), (3, .map (some b3)), (8, .slice A5_0 r1.length c5_0), (9, .int .i64 ((r1.length : Int))), (10, .int .i64 t10_1)] ∧ Hp w wl2 [.mp b3 (encMap ekArr6 ekI m2), .own A5_0 c5_0 87 6 (List.map encArr6 r1)]) FU ⟨_, ?_, ((0 : Int)), (([] : List (Arr6 × Int))), F, rfl, H⟩ ?_
    · exact ⟨rfl, rfl, (look_slice rfl (by first | rfl | (simp; done) | (simp; omega))), rfl, rfl, trivial⟩
    rintro mk1 _ wl2 ⟨t10_1, m2, F, rfl, H⟩
    have R0 := H.ext
    replace F := cut_ranks_L1_s F
    obtain ⟨mk1, rfl, F⟩ := F
    generalize hrec1 : cut_ranks_L1 r1 mk1 = rec1 at F
    unfold cut_ranks_B1 at F
    refine CW.seq fun K6 hK6 => ?_
    refine CW.region ?_
    refine LW.pure rfl rfl (RV.lss rfl rfl) ?_
    refine LW.nil (hK6 _ _ ?_)
    refine CW.seq fun K7 hK7 => ?_
    by_cases hp1 : t10_1 < ((r1.length : Int))
    ·
      replace F := ite_y hp1 F
      have hq1 := dec_t hp1
      refine CW.condT rfl hq1 ?_
      refine CW.skip (hK7 _ _ ?_)
      refine CW.seq fun K8 hK8 => ?_
      refine CW.block ?_
      refine CW.seq fun K9 hK9 => ?_
      obtain ⟨x1, hbx1, hx1, F⟩ := ix_some F
      refine CW.region ?_
      refine LW.pure rfl rfl (RV.move rfl) ?_
      refine LW.pure rfl rfl (RV.indexAddr Ts82 rfl rfl hbx1 ((H.own 1 rfl).sl.addr_ hx1)) ?_
      refine LW.pure rfl rfl (RV.loadA [.int .i64 x1.at0, .int .i64 x1.at1, .int .i64 x1.at2, .int .i64 x1.at3, .int .i64 x1.at4, .int .i64 x1.at5] Tk87 rfl ((H.own 1 rfl).sl.at_ hx1) rfl rfl) ?_
      refine LW.go rfl rfl (OW.alloc Tz87 fun b4 w4 N3 => ?_)
      replace H := H.made' (k := 1) (t := 87) (enc := encN) (l := ([0, 0, 0, 0, 0, 0] : List Int)) N3 N3.blk (fun _ => rfl) rfl (by first | decide | (simp; done) | (simp; omega))
      replace R0 := H.ext
      refine LW.pure rfl rfl (RV.assign rfl) ?_
      refine LW.go rfl rfl (OW.storeArr (l' := ([x1.at0, x1.at1, x1.at2, x1.at3, x1.at4, x1.at5] : List Int)) (vs := [.int .i64 x1.at0, .int .i64 x1.at1, .int .i64 x1.at2, .int .i64 x1.at3, .int .i64 x1.at4, .int .i64 x1.at5]) Tk87 rfl rfl (H.own 0 rfl) (fun _ => rfl) (by first | rfl | omega | (simp; done) | (simp; omega)) rfl rfl rfl rfl fun w5 M2 O1 => ?_)
      replace H : Hp w w5 [.own (some ⟨b4, 0, none⟩) 6 87 1 (List.map encN (([x1.at0, x1.at1, x1.at2, x1.at3, x1.at4, x1.at5] : List Int))), .mp b3 (encMap ekArr6 ekI m2), .own A5_0 c5_0 87 6 (List.map encArr6 r1)] := H.mod 0 rfl M2 O1 (.inl rfl)
      replace R0 := H.ext
      refine LW.nil (hK9 _ _ ?_)
      obtain ⟨hg1, F⟩ := gd_some F
      obtain ⟨x2, hbx2, hx2, F⟩ := ix_some F
      obtain ⟨x3, hbx3, hx3, F⟩ := ix_some F
      obtain ⟨x4, hbx4, hx4, F⟩ := ix_some F
      obtain ⟨x5, hbx5, hx5, F⟩ := ix_some F
      obtain ⟨x6, hbx6, hx6, F⟩ := ix_some F
      obtain ⟨x7, hbx7, hx7, F⟩ := ix_some F
      refine CW.region ?_
      refine LW.pure rfl rfl (RV.move rfl) ?_
      have hL1 := list6 hg1 hx2 hx3 hx4 hx5 hx6 hx7
      refine LW.pure rfl rfl (RV.loadA (vs := [.int .i64 x2, .int .i64 x3, .int .i64 x4, .int .i64 x5, .int .i64 x6, .int .i64 x7]) [.int .i64 x2, .int .i64 x3, .int .i64 x4, .int .i64 x5, .int .i64 x6, .int .i64 x7] Tk87 rfl (fun j v hj => (H.own 0 rfl).flat j v (by rw [hL1]; exact hj)) rfl rfl) ?_
      refine LW.pure rfl rfl (RV.move rfl) ?_
      refine LW.go rfl rfl (OW.updateM (ek := ekArr6) (ev' := ekI) (eq := eqArr6) (m := m2) ((⟨x2, x3, x4, x5, x6, x7⟩ : Arr6)) t10_1 KO87 Tm84 rfl rfl rfl (H.mp 1 rfl) fun w6 M3 O2 => ?_)
      replace H : Hp w w6 [.own (some ⟨b4, 0, none⟩) 6 87 1 (List.map encN (([x1.at0, x1.at1, x1.at2, x1.at3, x1.at4, x1.at5] : List Int))), .mp b3 (encMap ekArr6 ekI ((mset eqArr6 m2 ((⟨x2, x3, x4, x5, x6, x7⟩ : Arr6)) t10_1))), .own A5_0 c5_0 87 6 (List.map encArr6 r1)] := H.setM 1 rfl M3 O2
      replace R0 := H.ext
      refine LW.nil (hK8 _ _ ?_)
      obtain ⟨hg2, F⟩ := gd_some F
      refine CW.region ?_
      refine LW.pure rfl rfl (RV.add rfl rfl hg2) ?_
      refine LW.pure rfl rfl (RV.move rfl) ?_
      refine LW.nil ?_
      replace H := H.pick (L' := [.mp b3 (encMap ekArr6 ekI ((mset eqArr6 m2 ((⟨x2, x3, x4, x5, x6, x7⟩ : Arr6)) t10_1))), .own A5_0 c5_0 87 6 (List.map encArr6 r1)]) [1, 2] (by decide) rfl
      replace R0 := H.ext
      subst hrec1
      refine ⟨mk1, Nat.lt_succ_self _, _, ?_, (t10_1 + 1), ((mset eqArr6 m2 ((⟨x2, x3, x4, x5, x6, x7⟩ : Arr6)) t10_1)), F, rfl, H⟩
      exact ⟨rfl, rfl, (look_slice rfl (by first | rfl | (simp; done) | (simp; omega))), rfl, rfl, trivial⟩
    ·
      replace F := ite_n hp1 F
      have hq1 := dec_f hp1
      refine CW.condF rfl hq1 ?_
      replace H := H.pick (L' := [.mp b3 (encMap ekArr6 ekI m2)]) [0] (by decide) rfl
      replace R0 := H.ext
      refine CW.exit (jK47 _ _ ⟨_, ?_, ⟨m2, F, rfl, H⟩⟩)
      exact ⟨rfl, rfl, trivial⟩
set_option maxRecDepth 20000 in
set_option maxHeartbeats 1000000 in
theorem cut_of_ok {a0 : List Int} {A_a0 : Option Addr} {c_a0 : Nat} {w : World} {res : Arr6} (h_a0 : Sl w A_a0 c_a0 1 (a0.map encN)) (F : cut_of a0 = some res) : Calls Try.prog 90 #[.slice A_a0 a0.length c_a0] w (Rt w (.agg #[.int .i64 res.at0, .int .i64 res.at1, .int .i64 res.at2, .int .i64 res.at3, .int .i64 res.at4, .int .i64 res.at5])) := by
  refine calls_of_cw (args := [.slice A_a0 a0.length c_a0]) Try.func90 rfl rfl rfl rfl ?_
  have H := Hp.start w
  have R0 := H.ext
  unfold cut_of at F
  refine CW.seq fun K1 hK1 => ?_
  refine CW.region ?_
  refine LW.go rfl rfl (OW.alloc Tz87 fun b1 w1 N1 => ?_)
  replace H := H.made' (k := 1) (t := 87) (enc := encN) (l := ([0, 0, 0, 0, 0, 0] : List Int)) N1 N1.blk (fun _ => rfl) rfl (by first | decide | (simp; done) | (simp; omega))
  replace R0 := H.ext
  refine LW.nil (hK1 _ _ ?_)
  refine CW.seq fun K2 hK2 => ?_
  refine CW.region ?_
  refine LW.go rfl rfl (OW.alloc Tz87 fun b2 w2 N2 => ?_)
  replace H := H.made' (k := 1) (t := 87) (enc := encN) (l := ([0, 0, 0, 0, 0, 0] : List Int)) N2 N2.blk (fun _ => rfl) rfl (by first | decide | (simp; done) | (simp; omega))
  replace R0 := H.ext
  refine LW.nil (hK2 _ _ ?_)
  refine CW.seq fun K3 hK3 => ?_
  refine CW.region ?_
  refine LW.pure rfl rfl (RV.arrAll (l := ([0, 0, 0, 0, 0, 0] : List Int)) Ta87 rfl  (by first | rfl | omega | (simp; done) | (simp; omega))) ?_
  refine LW.pure rfl rfl (RV.move rfl) ?_
  refine LW.go rfl rfl (OW.copyO (enc := encN) (l := ([0, 0, 0, 0, 0, 0] : List Int)) (ys := a0) Ts25 rfl rfl (H.own 0 rfl) (by first | rfl | (simp; done) | (simp; omega)) (h_a0.ext R0) (by first | rfl | (simp; done) | (simp; omega)) (fun _ => rfl) (fun _ => rfl) fun w3 M1 O1 => ?_)
  replace H : Hp w w3 [.own (some ⟨b2, 0, none⟩) 6 87 1 (List.map encN ((List.take (([0, 0, 0, 0, 0, 0] : List Int)).length a0 ++ List.drop a0.length (([0, 0, 0, 0, 0, 0] : List Int))))), .own (some ⟨b1, 0, none⟩) 6 87 1 (List.map encN (([0, 0, 0, 0, 0, 0] : List Int)))] := H.mod 0 rfl M1 O1 (.inl rfl)
  replace R0 := H.ext
  refine LW.nil (hK3 _ _ ?_)
  refine CW.seq fun K4 hK4 => ?_
  obtain ⟨hg1, F⟩ := gd_some F
  obtain ⟨x1, hbx1, hx1, F⟩ := ix_some F
  obtain ⟨x2, hbx2, hx2, F⟩ := ix_some F
  obtain ⟨x3, hbx3, hx3, F⟩ := ix_some F
  obtain ⟨x4, hbx4, hx4, F⟩ := ix_some F
  obtain ⟨x5, hbx5, hx5, F⟩ := ix_some F
  obtain ⟨x6, hbx6, hx6, F⟩ := ix_some F
  refine CW.region ?_
  have hL1 := list6 hg1 hx1 hx2 hx3 hx4 hx5 hx6
  refine LW.pure rfl rfl (RV.loadA (vs := [.int .i64 x1, .int .i64 x2, .int .i64 x3, .int .i64 x4, .int .i64 x5, .int .i64 x6]) [.int .i64 x1, .int .i64 x2, .int .i64 x3, .int .i64 x4, .int .i64 x5, .int .i64 x6] Tk87 rfl (fun j v hj => (H.own 0 rfl).flat j v (by rw [hL1]; exact hj)) rfl rfl) ?_
  refine LW.go rfl rfl (OW.storeArr (l' := ([x1, x2, x3, x4, x5, x6] : List Int)) (vs := [.int .i64 x1, .int .i64 x2, .int .i64 x3, .int .i64 x4, .int .i64 x5, .int .i64 x6]) Tk87 rfl rfl (H.own 1 rfl) (fun _ => rfl) (by first | rfl | omega | (simp; done) | (simp; omega)) rfl rfl rfl rfl fun w4 M2 O2 => ?_)
  replace H : Hp w w4 [.own (some ⟨b2, 0, none⟩) 6 87 1 (List.map encN ((List.take (([0, 0, 0, 0, 0, 0] : List Int)).length a0 ++ List.drop a0.length (([0, 0, 0, 0, 0, 0] : List Int))))), .own (some ⟨b1, 0, none⟩) 6 87 1 (List.map encN (([x1, x2, x3, x4, x5, x6] : List Int)))] := H.mod 1 rfl M2 O2 (.inl rfl)
  replace R0 := H.ext
  refine LW.nil (hK4 _ _ ?_)
  refine CW.ret ?_
  obtain ⟨hg2, F⟩ := gd_some F
  obtain ⟨x7, hbx7, hx7, F⟩ := ix_some F
  obtain ⟨x8, hbx8, hx8, F⟩ := ix_some F
  obtain ⟨x9, hbx9, hx9, F⟩ := ix_some F
  obtain ⟨x10, hbx10, hx10, F⟩ := ix_some F
  obtain ⟨x11, hbx11, hx11, F⟩ := ix_some F
  obtain ⟨x12, hbx12, hx12, F⟩ := ix_some F
  have hL2 := list6 hg2 hx7 hx8 hx9 hx10 hx11 hx12
  obtain rfl := Option.some.inj F
  refine ⟨_, (ResOK.cell1 ⟨_, rfl, run_loadVar_agg (vs := [.int .i64 x7, .int .i64 x8, .int .i64 x9, .int .i64 x10, .int .i64 x11, .int .i64 x12]) (us := [.int .i64 x7, .int .i64 x8, .int .i64 x9, .int .i64 x10, .int .i64 x11, .int .i64 x12]) Tk87 (fun j v hj => (H.own 1 rfl).flat j v (by rw [hL2]; exact hj)) rfl rfl⟩), ?_⟩
  refine ⟨(by first | rfl | simp), R0⟩
set_option maxRecDepth 20000 in
set_option maxHeartbeats 1000000 in
theorem cut_Rank_ok {a0 : Bog} {a1 : List Int} {A_a0_worth : Option Addr} {c_a0_worth : Nat} {A_a1 : Option Addr} {c_a1 : Nat} {w : World} {res : Int × Int} (h_a0_worth : Sl2 w A_a0_worth c_a0_worth 1 encN a0.worth) (h_a1 : Sl w A_a1 c_a1 1 (a1.map encN)) (F : cut_Rank a0 a1 = some res) : Calls Try.prog 51 #[.agg #[.slice A_a0_worth a0.worth.length c_a0_worth], .slice A_a1 a1.length c_a1] w (Rt w (.tuple #[.int .i64 res.1, .int .i64 res.2])) := by
  refine calls_of_cw (args := [.agg #[.slice A_a0_worth a0.worth.length c_a0_worth], .slice A_a1 a1.length c_a1]) Try.func51 rfl rfl rfl rfl ?_
  have H := Hp.start w
  have R0 := H.ext
  unfold cut_Rank at F
  refine CW.seq fun K1 hK1 => ?_
  refine CW.region ?_
  refine LW.go rfl rfl (OW.box rfl fun b1 w1 N1 => ?_)
  replace H := H.new N1 N1.blk
  replace R0 := H.ext
  refine LW.pure rfl rfl (RV.assign rfl) ?_
  refine LW.pure rfl rfl (RV.assign rfl) ?_
  refine LW.nil (hK1 _ _ ?_)
  refine CW.seq fun K2 hK2 => ?_
  refine CW.seq fun K3 hK3 => ?_
  obtain ⟨r1, hr1, F⟩ := bnd_some F
  refine CW.region ?_
  refine LW.pure rfl rfl (RV.loadA [.slice A_a0_worth a0.worth.length c_a0_worth] Tk24 rfl (H.blk 0 rfl).cells rfl rfl) ?_
  refine LW.pure rfl rfl (RV.move rfl) ?_
  refine LW.go rfl rfl (OW.call Tc22 rfl (cut_CheckHollow_ok (a0 := a0) (a1 := a1) (h_a0_worth.ext R0) (h_a1.ext R0) hr1) ?_)
  rintro _ w2 ⟨rfl, E1⟩
  refine ⟨_, rfl, ?_⟩
  replace H := H.grow E1
  replace R0 := H.ext
  refine LW.pure rfl rfl (RV.assign rfl) ?_
  refine LW.nil (hK3 _ _ ?_)
  refine CW.seq fun K4 hK4 => ?_
  refine CW.region ?_
  refine LW.pure rfl rfl (RV.move rfl) ?_
  refine LW.pure rfl rfl (RV.nei rfl rfl) ?_
  refine LW.nil (hK4 _ _ ?_)
  by_cases hp1 : r1 = 0
  ·
    replace F := ite_y hp1 F
    have hq1 := dec_t hp1
    refine CW.condF rfl (not_f hq1) ?_
    refine CW.skip (hK2 _ _ ?_)
    refine CW.seq fun K5 hK5 => ?_
    obtain ⟨r2, hr2, F⟩ := bnd_some F
    obtain ⟨r3, hr3, F⟩ := bnd_some F
    refine CW.region ?_
    refine LW.pure rfl rfl (RV.loadA [.slice A_a0_worth a0.worth.length c_a0_worth] Tk24 rfl (H.blk 0 rfl).cells rfl rfl) ?_
    refine LW.go rfl rfl (OW.call Tc89 rfl (cut_ranks_ok (a0 := a0) (h_a0_worth.ext R0) hr2) ?_)
    rintro _ w3 ⟨b8_0, rfl, E2⟩
    refine ⟨_, rfl, ?_⟩
    replace H : Hp w w3 [.mp b8_0 (encMap ekArr6 ekI r2), .blk b1 24 [.slice A_a0_worth a0.worth.length c_a0_worth]] := H.append E2
    replace R0 := H.ext
    refine LW.pure rfl rfl (RV.move rfl) ?_
    refine LW.go rfl rfl (OW.call Tc90 rfl (cut_of_ok (a0 := a1) (h_a1.ext R0) hr3) ?_)
    rintro _ w4 ⟨rfl, E3⟩
    refine ⟨_, rfl, ?_⟩
    replace H := H.grow E3
    replace R0 := H.ext
    refine LW.pure rfl rfl (RV.lookupM (ek := ekArr6) (ev' := ekI) (eq := eqArr6) (m := r2) r3 0 KO87 Tm84 Tz3 rfl rfl (H.mp 0 rfl)) ?_
    refine LW.pure rfl rfl (RV.assign rfl) ?_
    refine LW.pure rfl rfl (RV.assign rfl) ?_
    refine LW.nil (hK5 _ _ ?_)
    refine CW.ret ?_
    obtain rfl := Option.some.inj F
    refine ⟨_, (ResOK.two rfl rfl), ?_⟩
    refine ⟨(by first | rfl | simp), R0⟩
  ·
    replace F := ite_n hp1 F
    have hq1 := dec_f hp1
    refine CW.condT rfl (not_t hq1) ?_
    refine CW.seq fun K6 hK6 => ?_
    refine CW.region ?_
    refine LW.pure rfl rfl (RV.move rfl) ?_
    refine LW.pure rfl rfl (RV.assign rfl) ?_
    refine LW.pure rfl rfl (RV.assign rfl) ?_
    refine LW.nil (hK6 _ _ ?_)
    refine CW.ret ?_
    obtain rfl := Option.some.inj F
    refine ⟨_, (ResOK.two rfl rfl), ?_⟩
    refine ⟨(by first | rfl | simp), R0⟩
set_option maxRecDepth 20000 in
set_option maxHeartbeats 1000000 in
theorem cut_Unrank_ok {a0 : Bog} {a1 : Int} {A_a0_worth : Option Addr} {c_a0_worth : Nat} {w : World} {res : (List Int) × Int} (h_a0_worth : Sl2 w A_a0_worth c_a0_worth 1 encN a0.worth) (F : cut_Unrank a0 a1 = some res) : Calls Try.prog 53 #[.agg #[.slice A_a0_worth a0.worth.length c_a0_worth], .int .i64 a1] w (fun e w' => ∃ (A0 : Option Addr) (c0 : Nat), e = .returned (.tuple #[.slice A0 res.1.length c0, .int .i64 res.2]) ∧ Hp w w' [.own A0 c0 3 1 (List.map encN res.1)]) := by
  refine calls_of_cw (args := [.agg #[.slice A_a0_worth a0.worth.length c_a0_worth], .int .i64 a1]) Try.func53 rfl rfl rfl rfl ?_
  have H := Hp.start w
  have R0 := H.ext
  unfold cut_Unrank at F
  refine CW.seq fun K1 hK1 => ?_
  refine CW.region ?_
  refine LW.go rfl rfl (OW.box rfl fun b1 w1 N1 => ?_)
  replace H := H.new N1 N1.blk
  replace R0 := H.ext
  refine LW.pure rfl rfl (RV.assign rfl) ?_
  refine LW.pure rfl rfl (RV.assign rfl) ?_
  refine LW.nil (hK1 _ _ ?_)
  refine CW.seq fun K2 hK2 => ?_
  refine CW.seq fun K3 hK3 => ?_
  obtain ⟨r1, hr1, F⟩ := bnd_some F
  refine CW.region ?_
  refine LW.pure rfl rfl (RV.loadA [.slice A_a0_worth a0.worth.length c_a0_worth] Tk24 rfl (H.blk 0 rfl).cells rfl rfl) ?_
  refine LW.go rfl rfl (OW.call Tc25 rfl (cut_Validate_ok (a0 := a0) (h_a0_worth.ext R0) hr1) ?_)
  rintro _ w2 ⟨rfl, E1⟩
  refine ⟨_, rfl, ?_⟩
  replace H := H.grow E1
  replace R0 := H.ext
  refine LW.pure rfl rfl (RV.assign rfl) ?_
  refine LW.nil (hK3 _ _ ?_)
  refine CW.seq fun K4 hK4 => ?_
  refine CW.region ?_
  refine LW.pure rfl rfl (RV.move rfl) ?_
  refine LW.pure rfl rfl (RV.nei rfl rfl) ?_
  refine LW.nil (hK4 _ _ ?_)
  by_cases hp1 : r1 = 0
  ·
    replace F := ite_y hp1 F
    have hq1 := dec_t hp1
    refine CW.condF rfl (not_f hq1) ?_
    refine CW.skip (hK2 _ _ ?_)
    refine CW.seq fun K5 hK5 => ?_
    obtain ⟨r2, hr2, F⟩ := bnd_some F
    refine CW.region ?_
    refine LW.pure rfl rfl (RV.loadA [.slice A_a0_worth a0.worth.length c_a0_worth] Tk24 rfl (H.blk 0 rfl).cells rfl rfl) ?_
    refine LW.go rfl rfl (OW.call Tc88 rfl (cut_all_ok (a0 := a0) (h_a0_worth.ext R0) hr2) ?_)
    rintro _ w3 ⟨A8_0, c8_0, rfl, E2⟩
    refine ⟨_, rfl, ?_⟩
    replace H : Hp w w3 [.own A8_0 c8_0 87 6 (List.map encArr6 r2), .blk b1 24 [.slice A_a0_worth a0.worth.length c_a0_worth]] := H.append E2
    replace R0 := H.ext
    refine LW.pure rfl rfl (RV.assign rfl) ?_
    refine LW.nil (hK5 _ _ ?_)
    refine CW.seq fun K6 hK6 => ?_
    refine CW.seq fun K7 hK7 => ?_
    obtain ⟨hg1, F⟩ := gd_some F
    obtain ⟨r3, hr3, F⟩ := bnd_some F
    refine CW.region ?_
    refine LW.pure rfl rfl (RV.move rfl) ?_
    refine LW.pure rfl rfl (RV.move rfl) ?_
    refine LW.pure rfl rfl (RV.len Ts82 rfl) ?_
    refine LW.pure rfl rfl (RV.sub rfl rfl hg1) ?_
    refine LW.go rfl rfl (OW.call Tc67 rfl (cut_from_ok (a0 := a1) (a1 := (0 : Int)) (a2 := ((r2.length : Int)) - 1) hr3) ?_)
    rintro _ w4 ⟨rfl, E3⟩
    refine ⟨_, rfl, ?_⟩
    replace H := H.grow E3
    replace R0 := H.ext
    refine LW.pure rfl rfl (RV.not rfl) ?_
    refine LW.nil (hK7 _ _ ?_)
    by_cases hp2 : r3 = true
    ·
      replace F := ite_y hp2 F
      have hq2 : r3 = true := hp2
      refine CW.condF rfl (not_f hq2) ?_
      refine CW.skip (hK6 _ _ ?_)
      refine CW.seq fun K8 hK8 => ?_
      obtain ⟨x1, hbx1, hx1, F⟩ := ix_some F
      obtain ⟨r4, hr4, F⟩ := bnd_some F
      refine CW.draw [] (fun _ => True) (.cons 0 1 (.cons 1 1 (.cons 2 1 (.cons 3 1 (.cons 4 1 (.cons 5 0 (.cons 6 1 (.cons 7 1 .nil)))))))) mixed (by kernel_rfl) fun w5 E4 => ?_
      replace H := H.grow E4
      replace R0 := H.ext
      refine DW.fix rfl rfl rfl (fun _ EQ => RV.move rfl) ?_
      refine DW.fix rfl rfl rfl (fun _ EQ => RV.move rfl) ?_
      refine DW.fix rfl rfl rfl (fun _ EQ => RV.indexAddr Ts82 rfl rfl hbx1 ((H.own 0 rfl).sl.addr_ hx1)) ?_
      refine DW.fix rfl rfl rfl (fun _ EQ => RV.loadA [.int .i64 x1.at0, .int .i64 x1.at1, .int .i64 x1.at2, .int .i64 x1.at3, .int .i64 x1.at4, .int .i64 x1.at5] Tk87 rfl (((H.grow EQ).own 0 rfl).sl.at_ hx1) rfl rfl) ?_
      refine DW.fix rfl rfl rfl (fun _ EQ => RV.loadA [.slice A_a0_worth a0.worth.length c_a0_worth] Tk24 rfl ((H.grow EQ).blk 1 rfl).cells rfl rfl) ?_
      refine DW.sole rfl rfl rfl (OW.call Tc91 rfl (cut_hollow_list_ok (a0 := x1) (a1 := a0) (h_a0_worth.ext R0) hr4) ?_)
      rintro _ w6 ⟨A12_0, c12_0, rfl, E5⟩
      refine ⟨_, rfl, fun _ => E5.ext, ModX.ext E5.ext, ?_⟩
      replace H : Hp w w6 [.own A12_0 c12_0 3 1 (List.map encN r4), .own A8_0 c8_0 87 6 (List.map encArr6 r2), .blk b1 24 [.slice A_a0_worth a0.worth.length c_a0_worth]] := H.append E5
      replace R0 := H.ext
      refine DW.fix rfl rfl rfl (fun _ EQ => RV.assign rfl) ?_
      refine DW.fix rfl rfl rfl (fun _ EQ => RV.assign rfl) ?_
      refine DW.nil (hK8 _ _ ?_)
      refine CW.ret ?_
      obtain rfl := Option.some.inj F
      refine ⟨_, (ResOK.two rfl rfl), ?_⟩
      replace H := H.pick (L' := [.own A12_0 c12_0 3 1 (List.map encN r4)]) [0] (by decide) rfl
      replace R0 := H.ext
      exact ⟨A12_0, c12_0, (by first | rfl | (simp; done) | (simp; omega)), H⟩
    ·
      replace F := ite_n hp2 F
      have hq2 : r3 = false := raw_f hp2
      refine CW.condT rfl (not_t hq2) ?_
      refine CW.seq fun K9 hK9 => ?_
      refine CW.region ?_
      refine LW.pure rfl rfl (RV.assign rfl) ?_
      refine LW.pure rfl rfl (RV.assign rfl) ?_
      refine LW.nil (hK9 _ _ ?_)
      refine CW.ret ?_
      obtain rfl := Option.some.inj F
      refine ⟨_, (ResOK.two rfl rfl), ?_⟩
      replace H := H.nilOwn 3 1
      replace R0 := H.ext
      replace H := H.pick (L' := [.own none 0 3 1 (List.map encN (([] : List Int)))]) [0] (by decide) rfl
      replace R0 := H.ext
      exact ⟨none, 0, (by first | rfl | (simp; done) | (simp; omega)), H⟩
  ·
    replace F := ite_n hp1 F
    have hq1 := dec_f hp1
    refine CW.condT rfl (not_t hq1) ?_
    refine CW.seq fun K10 hK10 => ?_
    refine CW.region ?_
    refine LW.pure rfl rfl (RV.move rfl) ?_
    refine LW.pure rfl rfl (RV.assign rfl) ?_
    refine LW.pure rfl rfl (RV.assign rfl) ?_
    refine LW.nil (hK10 _ _ ?_)
    refine CW.ret ?_
    obtain rfl := Option.some.inj F
    refine ⟨_, (ResOK.two rfl rfl), ?_⟩
    replace H := H.nilOwn 3 1
    replace R0 := H.ext
    replace H := H.pick (L' := [.own none 0 3 1 (List.map encN (([] : List Int)))]) [0] (by decide) rfl
    replace R0 := H.ext
    exact ⟨none, 0, (by first | rfl | (simp; done) | (simp; omega)), H⟩
end Go.D4

set_option linter.unusedVariables false
set_option linter.unusedSimpArgs false
namespace Go.D4
open Go.Tb Go.Proofs Go.RowKit
theorem Tu3 : Try.prog.underlying 3 = some (.int .i64) := by kernel_rfl
theorem Tu3s : (Try.prog.underlying 3).isSome = true := by kernel_rfl
theorem Tu54 : Try.prog.underlying 54 = some (.int .u64) := by kernel_rfl
theorem Tu54s : (Try.prog.underlying 54).isSome = true := by kernel_rfl
set_option maxRecDepth 20000 in
set_option maxHeartbeats 1000000 in
theorem law04_CutNumbers_ok {a0 : Bog} {a1 : Int} {A_a0_worth : Option Addr} {c_a0_worth : Nat} {w : World} {res : Bool} (h_a0_worth : Sl2 w A_a0_worth c_a0_worth 1 encN a0.worth) (F : law04_CutNumbers a0 a1 = some res) : Calls Try.prog 12 #[.agg #[.slice A_a0_worth a0.worth.length c_a0_worth], .int .i64 a1] w (Rt w (.bool res)) := by
  refine calls_of_cw (args := [.agg #[.slice A_a0_worth a0.worth.length c_a0_worth], .int .i64 a1]) Try.func12 rfl rfl rfl rfl ?_
  have H := Hp.start w
  have R0 := H.ext
  unfold law04_CutNumbers at F
  refine CW.seq fun K1 hK1 => ?_
  refine CW.region ?_
  refine LW.go rfl rfl (OW.box rfl fun b1 w1 N1 => ?_)
  replace H := H.new N1 N1.blk
  replace R0 := H.ext
  refine LW.pure rfl rfl (RV.assign rfl) ?_
  refine LW.nil (hK1 _ _ ?_)
  refine CW.seq fun K2 hK2 => ?_
  refine CW.seq fun K3 hK3 => ?_
  obtain ⟨r6, hr6, F⟩ := bnd_some F
  refine CW.region ?_
  refine LW.pure rfl rfl (RV.loadA [.slice A_a0_worth a0.worth.length c_a0_worth] Tk24 rfl (H.blk 0 rfl).cells rfl rfl) ?_
  refine LW.go rfl rfl (OW.call Tc17 rfl (law04_Long_ok (a0 := a0) (a1 := ([] : List (List Int))) (h_a0_worth.ext R0) (Sl2.nil_) hr6) ?_)
  rintro _ w2 ⟨rfl, E1⟩
  refine ⟨_, rfl, ?_⟩
  replace H := H.grow E1
  replace R0 := H.ext
  refine LW.nil (hK3 _ _ ?_)
  by_cases hp1 : r6 = true
  ·
    replace F := ite_y hp1 F
    have hq1 : r6 = true := hp1
    refine CW.condT rfl hq1 ?_
    refine CW.seq fun K4 hK4 => ?_
    obtain ⟨r7, hr7, F⟩ := bnd_some F
    refine CW.region ?_
    refine LW.go rfl rfl (OW.call Tc18 rfl (law04_sane_ok hr7) ?_)
    rintro _ w3 ⟨rfl, E2⟩
    refine ⟨_, rfl, ?_⟩
    replace H := H.grow E2
    replace R0 := H.ext
    refine LW.pure rfl rfl (RV.assign rfl) ?_
    refine LW.nil (hK4 _ _ ?_)
    refine CW.ret ?_
    obtain rfl := Option.some.inj F
    refine ⟨_, (ResOK.one rfl), ?_⟩
    refine ⟨(by first | rfl | simp), R0⟩
  ·
    replace F := ite_n hp1 F
    have hq1 : r6 = false := raw_f hp1
    refine CW.condF rfl hq1 ?_
    refine CW.skip (hK2 _ _ ?_)
    refine CW.seq fun K5 hK5 => ?_
    obtain ⟨r4, hr4, F⟩ := bnd_some F
    refine CW.region ?_
    refine LW.pure rfl rfl (RV.loadA [.slice A_a0_worth a0.worth.length c_a0_worth] Tk24 rfl (H.blk 0 rfl).cells rfl rfl) ?_
    refine LW.go rfl rfl (OW.call Tc49 rfl (cut_Count_ok (a0 := a0) (h_a0_worth.ext R0) hr4) ?_)
    rintro _ w4 ⟨rfl, E3⟩
    refine ⟨_, rfl, ?_⟩
    replace H := H.grow E3
    replace R0 := H.ext
    refine LW.pure rfl rfl (RV.move rfl) ?_
    refine LW.pure rfl rfl (RV.extract rfl rfl) ?_
    refine LW.pure rfl rfl (RV.extract rfl rfl) ?_
    refine LW.pure rfl rfl (RV.assign rfl) ?_
    refine LW.pure rfl rfl (RV.assign rfl) ?_
    refine LW.nil (hK5 _ _ ?_)
    refine CW.seq fun K6 hK6 => ?_
    refine CW.seq fun K7 hK7 => ?_
    refine CW.region ?_
    refine LW.pure rfl rfl (RV.move rfl) ?_
    refine LW.pure rfl rfl (RV.nei rfl rfl) ?_
    refine LW.nil (hK7 _ _ ?_)
    by_cases hp2 : r4.2 = 0
    ·
      replace F := ite_y hp2 F
      have hq2 := dec_t hp2
      refine CW.condF rfl (not_f hq2) ?_
      refine CW.skip (hK6 _ _ ?_)
      refine CW.seq fun K8 hK8 => ?_
      refine CW.seq fun K9 hK9 => ?_
      refine CW.region ?_
      refine LW.pure rfl rfl (RV.move rfl) ?_
      refine LW.pure rfl rfl (RV.lss rfl rfl) ?_
      refine LW.nil (hK9 _ _ ?_)
      by_cases hp3 : r4.1 < 1
      ·
        replace F := ite_y hp3 F
        have hq3 := dec_t hp3
        refine CW.condT rfl hq3 ?_
        refine CW.seq fun K10 hK10 => ?_
        refine CW.region ?_
        refine LW.pure rfl rfl (RV.assign rfl) ?_
        refine LW.nil (hK10 _ _ ?_)
        refine CW.ret ?_
        obtain rfl := Option.some.inj F
        refine ⟨_, (ResOK.one rfl), ?_⟩
        refine ⟨(by first | rfl | simp), R0⟩
      ·
        replace F := ite_n hp3 F
        have hq3 := dec_f hp3
        refine CW.condF rfl hq3 ?_
        refine CW.skip (hK8 _ _ ?_)
        refine CW.seq fun K11 hK11 => ?_
        obtain ⟨hg1, F⟩ := gd_some F
        refine CW.region ?_
        refine LW.pure rfl rfl (RV.move rfl) ?_
        refine LW.pure rfl rfl (RV.convW Tu3s Tu54 rfl) ?_
        refine LW.pure rfl rfl (RV.move rfl) ?_
        refine LW.pure rfl rfl (RV.convW Tu3s Tu54 rfl) ?_
        refine LW.pure rfl rfl (RV.remK rfl rfl hg1) ?_
        refine LW.pure rfl rfl (RV.convW Tu54s Tu3 rfl) ?_
        refine LW.pure rfl rfl (RV.assign rfl) ?_
        refine LW.nil (hK11 _ _ ?_)
        refine CW.seq fun K12 hK12 => ?_
        obtain ⟨r1, hr1, F⟩ := bnd_some F
        refine CW.region ?_
        refine LW.pure rfl rfl (RV.loadA [.slice A_a0_worth a0.worth.length c_a0_worth] Tk24 rfl (H.blk 0 rfl).cells rfl rfl) ?_
        refine LW.pure rfl rfl (RV.move rfl) ?_
        refine LW.go rfl rfl (OW.call Tc53 rfl (cut_Unrank_ok (a0 := a0) (a1 := IntKind.i64.wrap (Int.tmod (IntKind.u64.wrap a1) (IntKind.u64.wrap r4.1))) (h_a0_worth.ext R0) hr1) ?_)
        rintro _ w5 ⟨A24_0, c24_0, rfl, E4⟩
        refine ⟨_, rfl, ?_⟩
        replace H : Hp w w5 [.own A24_0 c24_0 3 1 (List.map encN r1.1), .blk b1 24 [.slice A_a0_worth a0.worth.length c_a0_worth]] := H.append E4
        replace R0 := H.ext
        refine LW.pure rfl rfl (RV.move rfl) ?_
        refine LW.pure rfl rfl (RV.extract rfl rfl) ?_
        refine LW.pure rfl rfl (RV.extract rfl rfl) ?_
        refine LW.pure rfl rfl (RV.assign rfl) ?_
        refine LW.pure rfl rfl (RV.assign rfl) ?_
        refine LW.nil (hK12 _ _ ?_)
        refine CW.seq fun K13 hK13 => ?_
        obtain ⟨r8, hr8, F⟩ := bnd_some F
        refine CW.region ?_
        refine LW.pure rfl rfl (RV.loadA [.slice A_a0_worth a0.worth.length c_a0_worth] Tk24 rfl (H.blk 1 rfl).cells rfl rfl) ?_
        refine LW.pure rfl rfl (RV.move rfl) ?_
        refine LW.go rfl rfl (OW.call Tc51 rfl (cut_Rank_ok (a0 := a0) (a1 := r1.1) (h_a0_worth.ext R0) (H.own 0 rfl).sl hr8) ?_)
        rintro _ w6 ⟨rfl, E5⟩
        refine ⟨_, rfl, ?_⟩
        replace H := H.grow E5
        replace R0 := H.ext
        refine LW.pure rfl rfl (RV.move rfl) ?_
        refine LW.pure rfl rfl (RV.extract rfl rfl) ?_
        refine LW.pure rfl rfl (RV.extract rfl rfl) ?_
        refine LW.pure rfl rfl (RV.assign rfl) ?_
        refine LW.pure rfl rfl (RV.assign rfl) ?_
        refine LW.nil (hK13 _ _ ?_)
        refine CW.seq fun K14 hK14 => ?_
        refine CW.seqJ (fun ρ wl1 => (∃ (t65_1 : Bool), law04_CutNumbers_k3 a0 a1 r4 r1 t65_1 = some res ∧ ρ = [(1, .int .i64 (IntKind.i64.wrap (Int.tmod (IntKind.u64.wrap a1) (IntKind.u64.wrap r4.1)))), (2, .pointer (some (⟨b1, 0, none⟩))), (4, .bool false), (5, .int .i64 r4.1), (7, .slice A24_0 r1.1.length c24_0), (65, .bool t65_1)] ∧ Hp w wl1 [.own A24_0 c24_0 3 1 (List.map encN r1.1), .blk b1 24 [.slice A_a0_worth a0.worth.length c_a0_worth]])) ?_ ?_
        ·
          rintro _ wl1 ⟨t65_1, F, rfl, H⟩
          have R0 := H.ext
          unfold law04_CutNumbers_k3 at F
          by_cases hp4 : t65_1 = true
          ·
            replace F := ite_y hp4 F
            have hq4 : t65_1 = true := hp4
            refine CW.condT rfl hq4 ?_
            refine CW.seq fun K15 hK15 => ?_
            refine CW.region ?_
            refine LW.pure rfl rfl (RV.assign rfl) ?_
            refine LW.nil (hK15 _ _ ?_)
            refine CW.ret ?_
            obtain rfl := Option.some.inj F
            refine ⟨_, (ResOK.one rfl), ?_⟩
            refine ⟨(by first | rfl | simp), R0⟩
          ·
            replace F := ite_n hp4 F
            have hq4 : t65_1 = false := raw_f hp4
            refine CW.condF rfl hq4 ?_
            refine CW.skip (hK14 _ _ ?_)
            refine CW.seq fun K16 hK16 => ?_
            obtain ⟨hg2, F⟩ := gd_some F
            obtain ⟨r2, hr2, F⟩ := bnd_some F
            refine CW.region ?_
            refine LW.pure rfl rfl (RV.loadA [.slice A_a0_worth a0.worth.length c_a0_worth] Tk24 rfl (H.blk 1 rfl).cells rfl rfl) ?_
            refine LW.pure rfl rfl (RV.move rfl) ?_
            refine LW.pure rfl rfl (RV.add rfl rfl hg2) ?_
            refine LW.go rfl rfl (OW.call Tc53 rfl (cut_Unrank_ok (a0 := a0) (a1 := (IntKind.i64.wrap (Int.tmod (IntKind.u64.wrap a1) (IntKind.u64.wrap r4.1))) + 1) (h_a0_worth.ext R0) hr2) ?_)
            rintro _ w7 ⟨A29_0, c29_0, rfl, E6⟩
            refine ⟨_, rfl, ?_⟩
            replace H : Hp w w7 [.own A29_0 c29_0 3 1 (List.map encN r2.1), .own A24_0 c24_0 3 1 (List.map encN r1.1), .blk b1 24 [.slice A_a0_worth a0.worth.length c_a0_worth]] := H.append E6
            replace R0 := H.ext
            refine LW.pure rfl rfl (RV.move rfl) ?_
            refine LW.pure rfl rfl (RV.extract rfl rfl) ?_
            refine LW.pure rfl rfl (RV.extract rfl rfl) ?_
            refine LW.pure rfl rfl (RV.assign rfl) ?_
            refine LW.pure rfl rfl (RV.assign rfl) ?_
            refine LW.nil (hK16 _ _ ?_)
            refine CW.seq fun K17 hK17 => ?_
            refine CW.seq fun K18 hK18 => ?_
            obtain ⟨hg3, F⟩ := gd_some F
            refine CW.region ?_
            refine LW.pure rfl rfl (RV.move rfl) ?_
            refine LW.pure rfl rfl (RV.add rfl rfl hg3) ?_
            refine LW.pure rfl rfl (RV.move rfl) ?_
            refine LW.pure rfl rfl (RV.eqi rfl rfl) ?_
            refine LW.nil (hK18 _ _ ?_)
            by_cases hp5 : ((IntKind.i64.wrap (Int.tmod (IntKind.u64.wrap a1) (IntKind.u64.wrap r4.1))) + 1) = r4.1
            ·
              replace F := ite_y hp5 F
              have hq5 := dec_t hp5
              refine CW.condT rfl hq5 ?_
              refine CW.seq fun K19 hK19 => ?_
              by_cases hp6 : r2.2 = 4
              ·
                replace F := ite_y hp6 F
                have hq6 := dec_t hp6
                obtain ⟨r5, hr5, F⟩ := bnd_some F
                refine CW.region ?_
                refine LW.pure rfl rfl (RV.move rfl) ?_
                refine LW.pure rfl rfl (RV.eqi rfl rfl) ?_
                refine LW.pure rfl rfl (RV.move rfl) ?_
                refine LW.yesB rfl rfl rfl rfl hq6 (OW.call Tc18 rfl (law04_sane_ok hr5) ?_)
                rintro _ w8 ⟨rfl, E7⟩
                refine ⟨_, rfl, ?_⟩
                replace H := H.grow E7
                replace R0 := H.ext
                refine LW.pure rfl rfl (RV.pickTB rfl hq6 rfl) ?_
                refine LW.pure rfl rfl (RV.assign rfl) ?_
                refine LW.nil (hK19 _ _ ?_)
                refine CW.ret ?_
                obtain rfl := Option.some.inj F
                refine ⟨_, (ResOK.one rfl), ?_⟩
                refine ⟨(by first | rfl | simp), R0⟩
              ·
                replace F := ite_n hp6 F
                have hq6 := dec_f hp6
                refine CW.region ?_
                refine LW.pure rfl rfl (RV.move rfl) ?_
                refine LW.pure rfl rfl (RV.eqi rfl rfl) ?_
                refine LW.pure rfl rfl (RV.move rfl) ?_
                refine LW.noB rfl rfl rfl rfl (ne_beq (v := false) hq6 rfl) ?_
                refine LW.pure rfl rfl (RV.pickFB rfl hq6 rfl) ?_
                refine LW.pure rfl rfl (RV.assign rfl) ?_
                refine LW.nil (hK19 _ _ ?_)
                refine CW.ret ?_
                obtain rfl := Option.some.inj F
                refine ⟨_, (ResOK.one rfl), ?_⟩
                refine ⟨(by first | rfl | simp), R0⟩
            ·
              replace F := ite_n hp5 F
              have hq5 := dec_f hp5
              refine CW.condF rfl hq5 ?_
              refine CW.skip (hK17 _ _ ?_)
              refine CW.seq fun K20 hK20 => ?_
              refine CW.seqJ (fun ρ wl2 => (∃ (t90_1 : Bool), law04_CutNumbers_k2 r1 r2 t90_1 = some res ∧ ρ = [(4, .bool false), (7, .slice A24_0 r1.1.length c24_0), (11, .slice A29_0 r2.1.length c29_0), (90, .bool t90_1)] ∧ Hp w wl2 [.own A24_0 c24_0 3 1 (List.map encN r1.1), .own A29_0 c29_0 3 1 (List.map encN r2.1)])) ?_ ?_
              ·
                rintro _ wl2 ⟨t90_1, F, rfl, H⟩
                have R0 := H.ext
                unfold law04_CutNumbers_k2 at F
                by_cases hp7 : t90_1 = true
                ·
                  replace F := ite_y hp7 F
                  have hq7 : t90_1 = true := hp7
                  refine CW.condT rfl hq7 ?_
                  refine CW.seq fun K21 hK21 => ?_
                  refine CW.region ?_
                  refine LW.pure rfl rfl (RV.assign rfl) ?_
                  refine LW.nil (hK21 _ _ ?_)
                  refine CW.ret ?_
                  obtain rfl := Option.some.inj F
                  refine ⟨_, (ResOK.one rfl), ?_⟩
                  refine ⟨(by first | rfl | simp), R0⟩
                ·
                  replace F := ite_n hp7 F
                  have hq7 : t90_1 = false := raw_f hp7
                  refine CW.condF rfl hq7 ?_
                  refine CW.skip (hK20 _ _ ?_)
                  refine CW.seqJ (fun ρ wl3 => (law04_CutNumbers_k1 = some res ∧ ρ = [(4, .bool false)] ∧ Hp w wl3 [])) ?_ ?_
                  ·
                    rintro _ wl3 ⟨F, rfl, H⟩
                    have R0 := H.ext
                    unfold law04_CutNumbers_k1 at F
                    refine CW.seq fun K22 hK22 => ?_
                    refine CW.region ?_
                    refine LW.pure rfl rfl (RV.assign rfl) ?_
                    refine LW.nil (hK22 _ _ ?_)
                    refine CW.ret ?_
                    obtain rfl := Option.some.inj F
                    refine ⟨_, (ResOK.one rfl), ?_⟩
                    refine ⟨(by first | rfl | simp), R0⟩
                  ·
                    intro K23 hK23 jK97
                    refine CW.seq fun K24 hK24 => ?_
                    refine CW.region ?_
                    refine LW.pure rfl rfl (RV.assign rfl) ?_
                    refine LW.nil (hK24 _ _ ?_)
                    refine CW.block ?_
                    refine CW.loop (fun meas ρ wl4 => ∃ (t13_1 : Int), law04_CutNumbers_L1 r1 r2 meas t13_1 = some res ∧ ρ = [(4, .bool false), (7, .slice A24_0 r1.1.length c24_0), (11, .slice A29_0 r2.1.length c29_0), (13, .int .i64 t13_1)] ∧ Hp w wl4 [.own A24_0 c24_0 3 1 (List.map encN r1.1), .own A29_0 c29_0 3 1 (List.map encN r2.1)]) FU ⟨_, ?_, ((0 : Int)), F, rfl, H⟩ ?_
                    · exact ⟨rfl, (look_slice rfl (by first | rfl | (simp; done) | (simp; omega))), (look_slice rfl (by first | rfl | (simp; done) | (simp; omega))), rfl, trivial⟩
                    rintro mk1 _ wl4 ⟨t13_1, F, rfl, H⟩
                    have R0 := H.ext
                    replace F := law04_CutNumbers_L1_s F
                    obtain ⟨mk1, rfl, F⟩ := F
                    generalize hrec1 : law04_CutNumbers_L1 r1 r2 mk1 = rec1 at F
                    unfold law04_CutNumbers_B1 at F
                    refine CW.seq fun K25 hK25 => ?_
                    refine CW.seq fun K26 hK26 => ?_
                    refine CW.region ?_
                    refine LW.pure rfl rfl (RV.move rfl) ?_
                    refine LW.pure rfl rfl (RV.move rfl) ?_
                    refine LW.pure rfl rfl (RV.len Ts25 rfl) ?_
                    refine LW.pure rfl rfl (RV.lss rfl rfl) ?_
                    refine LW.nil (hK26 _ _ ?_)
                    by_cases hp8 : t13_1 < ((r1.1.length : Int))
                    ·
                      replace F := ite_y hp8 F
                      have hq8 := dec_t hp8
                      refine CW.condT rfl hq8 ?_
                      refine CW.skip (hK25 _ _ ?_)
                      refine CW.seq fun K27 hK27 => ?_
                      refine CW.block ?_
                      refine CW.seq fun K28 hK28 => ?_
                      obtain ⟨x1, hbx1, hx1, F⟩ := ix_some F
                      obtain ⟨x2, hbx2, hx2, F⟩ := ix_some F
                      refine CW.draw [] (fun _ => True) (.cons 0 1 (.cons 1 1 (.cons 2 1 (.cons 3 1 (.cons 4 1 (.cons 5 1 (.cons 6 1 (.cons 7 1 (.cons 8 1 .nil))))))))) mixed (by kernel_rfl) fun w9 E8 => ?_
                      replace H := H.grow E8
                      replace R0 := H.ext
                      refine DW.fix rfl rfl rfl (fun _ EQ => RV.move rfl) ?_
                      refine DW.fix rfl rfl rfl (fun _ EQ => RV.move rfl) ?_
                      refine DW.fix rfl rfl rfl (fun _ EQ => RV.indexAddr Ts25 rfl rfl hbx1 ((H.own 0 rfl).sl.addr_ hx1)) ?_
                      refine DW.fix rfl rfl rfl (fun _ EQ => RV.load1 Tk3 rfl (((H.grow EQ).own 0 rfl).sl.at_ hx1) rfl) ?_
                      refine DW.fix rfl rfl rfl (fun _ EQ => RV.move rfl) ?_
                      refine DW.fix rfl rfl rfl (fun _ EQ => RV.move rfl) ?_
                      refine DW.fix rfl rfl rfl (fun _ EQ => RV.indexAddr Ts25 rfl rfl hbx2 ((H.own 1 rfl).sl.addr_ hx2)) ?_
                      refine DW.fix rfl rfl rfl (fun _ EQ => RV.load1 Tk3 rfl (((H.grow EQ).own 1 rfl).sl.at_ hx2) rfl) ?_
                      refine DW.fix rfl rfl rfl (fun _ EQ => RV.nei rfl rfl) ?_
                      refine DW.nil (hK28 _ _ ?_)
                      by_cases hp9 : x1 = x2
                      ·
                        replace F := ite_y hp9 F
                        have hq9 := dec_t hp9
                        refine CW.condF rfl (not_f hq9) ?_
                        refine CW.skip (hK27 _ _ ?_)
                        obtain ⟨hg4, F⟩ := gd_some F
                        refine CW.region ?_
                        refine LW.pure rfl rfl (RV.move rfl) ?_
                        refine LW.pure rfl rfl (RV.add rfl rfl hg4) ?_
                        refine LW.pure rfl rfl (RV.assign rfl) ?_
                        refine LW.nil ?_
                        subst hrec1
                        refine ⟨mk1, Nat.lt_succ_self _, _, ?_, (t13_1 + 1), F, rfl, H⟩
                        exact ⟨rfl, (look_slice rfl (by first | rfl | (simp; done) | (simp; omega))), (look_slice rfl (by first | rfl | (simp; done) | (simp; omega))), rfl, trivial⟩
                      ·
                        replace F := ite_n hp9 F
                        have hq9 := dec_f hp9
                        refine CW.condT rfl (not_t hq9) ?_
                        refine CW.seq fun K29 hK29 => ?_
                        obtain ⟨x3, hbx3, hx3, F⟩ := ix_some F
                        obtain ⟨x4, hbx4, hx4, F⟩ := ix_some F
                        by_cases hp10 : x3 < x4
                        ·
                          replace F := ite_y hp10 F
                          have hq10 := dec_t hp10
                          obtain ⟨r3, hr3, F⟩ := bnd_some F
                          refine CW.draw [] (fun _ => True) (.cons 0 1 (.cons 1 1 (.cons 2 1 (.cons 3 1 (.cons 4 1 (.cons 5 1 (.cons 6 1 (.cons 7 1 (.cons 8 1 (.cons 9 1 (.cons 10 0 (.cons 11 1 (.cons 12 1 .nil))))))))))))) mixed (by kernel_rfl) fun w10 E9 => ?_
                          replace H := H.grow E9
                          replace R0 := H.ext
                          refine DW.fix rfl rfl rfl (fun _ EQ => RV.move rfl) ?_
                          refine DW.fix rfl rfl rfl (fun _ EQ => RV.move rfl) ?_
                          refine DW.fix rfl rfl rfl (fun _ EQ => RV.indexAddr Ts25 rfl rfl hbx3 ((H.own 0 rfl).sl.addr_ hx3)) ?_
                          refine DW.fix rfl rfl rfl (fun _ EQ => RV.load1 Tk3 rfl (((H.grow EQ).own 0 rfl).sl.at_ hx3) rfl) ?_
                          refine DW.fix rfl rfl rfl (fun _ EQ => RV.move rfl) ?_
                          refine DW.fix rfl rfl rfl (fun _ EQ => RV.move rfl) ?_
                          refine DW.fix rfl rfl rfl (fun _ EQ => RV.indexAddr Ts25 rfl rfl hbx4 ((H.own 1 rfl).sl.addr_ hx4)) ?_
                          refine DW.fix rfl rfl rfl (fun _ EQ => RV.load1 Tk3 rfl (((H.grow EQ).own 1 rfl).sl.at_ hx4) rfl) ?_
                          refine DW.fix rfl rfl rfl (fun _ EQ => RV.lss rfl rfl) ?_
                          refine DW.fix rfl rfl rfl (fun _ EQ => RV.move rfl) ?_
                          refine DW.soleYB rfl rfl rfl rfl rfl hq10 (OW.call Tc18 rfl (law04_sane_ok hr3) ?_)
                          rintro _ w11 ⟨rfl, E10⟩
                          refine ⟨_, rfl, fun _ => E10, ModX.ext E10, ?_⟩
                          replace H := H.grow E10
                          replace R0 := H.ext
                          refine DW.fix rfl rfl rfl (fun _ EQ => RV.pickTB rfl hq10 rfl) ?_
                          refine DW.fix rfl rfl rfl (fun _ EQ => RV.assign rfl) ?_
                          refine DW.nil (hK29 _ _ ?_)
                          refine CW.ret ?_
                          obtain rfl := Option.some.inj F
                          refine ⟨_, (ResOK.one rfl), ?_⟩
                          refine ⟨(by first | rfl | simp), R0⟩
                        ·
                          replace F := ite_n hp10 F
                          have hq10 := dec_f hp10
                          refine CW.draw [] (fun _ => True) (.cons 0 1 (.cons 1 1 (.cons 2 1 (.cons 3 1 (.cons 4 1 (.cons 5 1 (.cons 6 1 (.cons 7 1 (.cons 8 1 (.cons 9 1 (.cons 10 0 (.cons 11 1 (.cons 12 1 .nil))))))))))))) mixed (by kernel_rfl) fun w12 E11 => ?_
                          replace H := H.grow E11
                          replace R0 := H.ext
                          refine DW.fix rfl rfl rfl (fun _ EQ => RV.move rfl) ?_
                          refine DW.fix rfl rfl rfl (fun _ EQ => RV.move rfl) ?_
                          refine DW.fix rfl rfl rfl (fun _ EQ => RV.indexAddr Ts25 rfl rfl hbx3 ((H.own 0 rfl).sl.addr_ hx3)) ?_
                          refine DW.fix rfl rfl rfl (fun _ EQ => RV.load1 Tk3 rfl (((H.grow EQ).own 0 rfl).sl.at_ hx3) rfl) ?_
                          refine DW.fix rfl rfl rfl (fun _ EQ => RV.move rfl) ?_
                          refine DW.fix rfl rfl rfl (fun _ EQ => RV.move rfl) ?_
                          refine DW.fix rfl rfl rfl (fun _ EQ => RV.indexAddr Ts25 rfl rfl hbx4 ((H.own 1 rfl).sl.addr_ hx4)) ?_
                          refine DW.fix rfl rfl rfl (fun _ EQ => RV.load1 Tk3 rfl (((H.grow EQ).own 1 rfl).sl.at_ hx4) rfl) ?_
                          refine DW.fix rfl rfl rfl (fun _ EQ => RV.lss rfl rfl) ?_
                          refine DW.fix rfl rfl rfl (fun _ EQ => RV.move rfl) ?_
                          refine DW.soleNB rfl rfl rfl rfl rfl (ne_beq (v := false) hq10 rfl) ?_
                          refine DW.fix rfl rfl rfl (fun _ EQ => RV.pickFB rfl hq10 rfl) ?_
                          refine DW.fix rfl rfl rfl (fun _ EQ => RV.assign rfl) ?_
                          refine DW.nil (hK29 _ _ ?_)
                          refine CW.ret ?_
                          obtain rfl := Option.some.inj F
                          refine ⟨_, (ResOK.one rfl), ?_⟩
                          refine ⟨(by first | rfl | simp), R0⟩
                    ·
                      replace F := ite_n hp8 F
                      have hq8 := dec_f hp8
                      refine CW.condF rfl hq8 ?_
                      replace H := H.pick (L' := []) [] (by decide) rfl
                      replace R0 := H.ext
                      refine CW.exit (jK97 _ _ ⟨_, ?_, ⟨F, rfl, H⟩⟩)
                      exact ⟨rfl, trivial⟩
              ·
                intro K30 hK30 jK114
                by_cases hp11 : r2.2 = 0
                ·
                  replace F := ite_y hp11 F
                  have hq11 := dec_t hp11
                  refine CW.region ?_
                  refine LW.pure rfl rfl (RV.move rfl) ?_
                  refine LW.pure rfl rfl (RV.nei rfl rfl) ?_
                  refine LW.pure rfl rfl (RV.move rfl) ?_
                  refine LW.pureYB rfl rfl rfl rfl (not_f hq11) (RV.move rfl) ?_
                  refine LW.pureYB rfl rfl rfl rfl (not_f hq11) (RV.len Ts25 rfl) ?_
                  refine LW.pureYB rfl rfl rfl rfl (not_f hq11) (RV.move rfl) ?_
                  refine LW.pureYB rfl rfl rfl rfl (not_f hq11) (RV.len Ts25 rfl) ?_
                  refine LW.pureYB rfl rfl rfl rfl (not_f hq11) (RV.nei rfl rfl) ?_
                  refine LW.pure rfl rfl (RV.pickFB rfl (not_f hq11) rfl) ?_
                  replace H := H.pick (L' := [.own A24_0 c24_0 3 1 (List.map encN r1.1), .own A29_0 c29_0 3 1 (List.map encN r2.1)]) [1, 0] (by decide) rfl
                  replace R0 := H.ext
                  refine LW.nil (jK114 _ _ ⟨_, ?_, ⟨(!(decide (((r2.1.length : Int)) = ((r1.1.length : Int))))), F, rfl, H⟩⟩)
                  exact ⟨rfl, (look_slice rfl (by first | rfl | (simp; done) | (simp; omega))), (look_slice rfl (by first | rfl | (simp; done) | (simp; omega))), rfl, trivial⟩
                ·
                  replace F := ite_n hp11 F
                  have hq11 := dec_f hp11
                  refine CW.region ?_
                  refine LW.pure rfl rfl (RV.move rfl) ?_
                  refine LW.pure rfl rfl (RV.nei rfl rfl) ?_
                  refine LW.pure rfl rfl (RV.move rfl) ?_
                  refine LW.noB rfl rfl rfl rfl (ne_beq (v := true) (not_t hq11) rfl) ?_
                  refine LW.noB rfl rfl rfl rfl (ne_beq (v := true) (not_t hq11) rfl) ?_
                  refine LW.noB rfl rfl rfl rfl (ne_beq (v := true) (not_t hq11) rfl) ?_
                  refine LW.noB rfl rfl rfl rfl (ne_beq (v := true) (not_t hq11) rfl) ?_
                  refine LW.noB rfl rfl rfl rfl (ne_beq (v := true) (not_t hq11) rfl) ?_
                  refine LW.pure rfl rfl (RV.pickTB rfl (not_t hq11) rfl) ?_
                  replace H := H.pick (L' := [.own A24_0 c24_0 3 1 (List.map encN r1.1), .own A29_0 c29_0 3 1 (List.map encN r2.1)]) [1, 0] (by decide) rfl
                  replace R0 := H.ext
                  refine LW.nil (jK114 _ _ ⟨_, ?_, ⟨true, F, rfl, H⟩⟩)
                  exact ⟨rfl, (look_slice rfl (by first | rfl | (simp; done) | (simp; omega))), (look_slice rfl (by first | rfl | (simp; done) | (simp; omega))), rfl, trivial⟩
        ·
          intro K31 hK31 jK115
          by_cases hp12 : r1.2 = 0
          ·
            replace F := ite_y hp12 F
            have hq12 := dec_t hp12
            by_cases hp13 : r8.2 = 0
            ·
              replace F := ite_y hp13 F
              have hq13 := dec_t hp13
              by_cases hp14 : r8.1 = (IntKind.i64.wrap (Int.tmod (IntKind.u64.wrap a1) (IntKind.u64.wrap r4.1)))
              ·
                replace F := ite_y hp14 F
                have hq14 := dec_t hp14
                obtain ⟨r9, hr9, F⟩ := bnd_some F
                refine CW.region ?_
                refine LW.pure rfl rfl (RV.move rfl) ?_
                refine LW.pure rfl rfl (RV.nei rfl rfl) ?_
                refine LW.pure rfl rfl (RV.move rfl) ?_
                refine LW.pureYB rfl rfl rfl rfl (not_f hq12) (RV.move rfl) ?_
                refine LW.pureYB rfl rfl rfl rfl (not_f hq12) (RV.nei rfl rfl) ?_
                refine LW.pure rfl rfl (RV.pickFB rfl (not_f hq12) rfl) ?_
                refine LW.pure rfl rfl (RV.move rfl) ?_
                refine LW.pureYB rfl rfl rfl rfl (not_f hq13) (RV.move rfl) ?_
                refine LW.pureYB rfl rfl rfl rfl (not_f hq13) (RV.move rfl) ?_
                refine LW.pureYB rfl rfl rfl rfl (not_f hq13) (RV.nei rfl rfl) ?_
                refine LW.pure rfl rfl (RV.pickFB rfl (not_f hq13) rfl) ?_
                refine LW.pure rfl rfl (RV.move rfl) ?_
                refine LW.pureYB rfl rfl rfl rfl (not_f hq14) (RV.loadA [.slice A_a0_worth a0.worth.length c_a0_worth] Tk24 rfl (H.blk 1 rfl).cells rfl rfl) ?_
                refine LW.pureYB rfl rfl rfl rfl (not_f hq14) (RV.move rfl) ?_
                refine LW.yesB rfl rfl rfl rfl (not_f hq14) (OW.call Tc22 rfl (cut_CheckHollow_ok (a0 := a0) (a1 := r1.1) (h_a0_worth.ext R0) (H.own 0 rfl).sl hr9) ?_)
                rintro _ w13 ⟨rfl, E12⟩
                refine ⟨_, rfl, ?_⟩
                replace H := H.grow E12
                replace R0 := H.ext
                refine LW.pureYB rfl rfl rfl rfl (not_f hq14) (RV.nei rfl rfl) ?_
                refine LW.pure rfl rfl (RV.pickFB rfl (not_f hq14) rfl) ?_
                refine LW.nil (jK115 _ _ ⟨_, ?_, ⟨(!(decide (r9 = 0))), F, rfl, H⟩⟩)
                exact ⟨rfl, rfl, rfl, rfl, (look_slice rfl (by first | rfl | (simp; done) | (simp; omega))), rfl, trivial⟩
              ·
                replace F := ite_n hp14 F
                have hq14 := dec_f hp14
                refine CW.region ?_
                refine LW.pure rfl rfl (RV.move rfl) ?_
                refine LW.pure rfl rfl (RV.nei rfl rfl) ?_
                refine LW.pure rfl rfl (RV.move rfl) ?_
                refine LW.pureYB rfl rfl rfl rfl (not_f hq12) (RV.move rfl) ?_
                refine LW.pureYB rfl rfl rfl rfl (not_f hq12) (RV.nei rfl rfl) ?_
                refine LW.pure rfl rfl (RV.pickFB rfl (not_f hq12) rfl) ?_
                refine LW.pure rfl rfl (RV.move rfl) ?_
                refine LW.pureYB rfl rfl rfl rfl (not_f hq13) (RV.move rfl) ?_
                refine LW.pureYB rfl rfl rfl rfl (not_f hq13) (RV.move rfl) ?_
                refine LW.pureYB rfl rfl rfl rfl (not_f hq13) (RV.nei rfl rfl) ?_
                refine LW.pure rfl rfl (RV.pickFB rfl (not_f hq13) rfl) ?_
                refine LW.pure rfl rfl (RV.move rfl) ?_
                refine LW.noB rfl rfl rfl rfl (ne_beq (v := true) (not_t hq14) rfl) ?_
                refine LW.noB rfl rfl rfl rfl (ne_beq (v := true) (not_t hq14) rfl) ?_
                refine LW.noB rfl rfl rfl rfl (ne_beq (v := true) (not_t hq14) rfl) ?_
                refine LW.noB rfl rfl rfl rfl (ne_beq (v := true) (not_t hq14) rfl) ?_
                refine LW.pure rfl rfl (RV.pickTB rfl (not_t hq14) rfl) ?_
                refine LW.nil (jK115 _ _ ⟨_, ?_, ⟨true, F, rfl, H⟩⟩)
                exact ⟨rfl, rfl, rfl, rfl, (look_slice rfl (by first | rfl | (simp; done) | (simp; omega))), rfl, trivial⟩
            ·
              replace F := ite_n hp13 F
              have hq13 := dec_f hp13
              refine CW.region ?_
              refine LW.pure rfl rfl (RV.move rfl) ?_
              refine LW.pure rfl rfl (RV.nei rfl rfl) ?_
              refine LW.pure rfl rfl (RV.move rfl) ?_
              refine LW.pureYB rfl rfl rfl rfl (not_f hq12) (RV.move rfl) ?_
              refine LW.pureYB rfl rfl rfl rfl (not_f hq12) (RV.nei rfl rfl) ?_
              refine LW.pure rfl rfl (RV.pickFB rfl (not_f hq12) rfl) ?_
              refine LW.pure rfl rfl (RV.move rfl) ?_
              refine LW.noB rfl rfl rfl rfl (ne_beq (v := true) (not_t hq13) rfl) ?_
              refine LW.noB rfl rfl rfl rfl (ne_beq (v := true) (not_t hq13) rfl) ?_
              refine LW.noB rfl rfl rfl rfl (ne_beq (v := true) (not_t hq13) rfl) ?_
              refine LW.pure rfl rfl (RV.pickTB rfl (not_t hq13) rfl) ?_
              refine LW.pure rfl rfl (RV.move rfl) ?_
              refine LW.noB rfl rfl rfl rfl (ne_beq (v := true) rfl rfl) ?_
              refine LW.noB rfl rfl rfl rfl (ne_beq (v := true) rfl rfl) ?_
              refine LW.noB rfl rfl rfl rfl (ne_beq (v := true) rfl rfl) ?_
              refine LW.noB rfl rfl rfl rfl (ne_beq (v := true) rfl rfl) ?_
              refine LW.pure rfl rfl (RV.pickTB rfl rfl rfl) ?_
              refine LW.nil (jK115 _ _ ⟨_, ?_, ⟨true, F, rfl, H⟩⟩)
              exact ⟨rfl, rfl, rfl, rfl, (look_slice rfl (by first | rfl | (simp; done) | (simp; omega))), rfl, trivial⟩
          ·
            replace F := ite_n hp12 F
            have hq12 := dec_f hp12
            refine CW.region ?_
            refine LW.pure rfl rfl (RV.move rfl) ?_
            refine LW.pure rfl rfl (RV.nei rfl rfl) ?_
            refine LW.pure rfl rfl (RV.move rfl) ?_
            refine LW.noB rfl rfl rfl rfl (ne_beq (v := true) (not_t hq12) rfl) ?_
            refine LW.noB rfl rfl rfl rfl (ne_beq (v := true) (not_t hq12) rfl) ?_
            refine LW.pure rfl rfl (RV.pickTB rfl (not_t hq12) rfl) ?_
            refine LW.pure rfl rfl (RV.move rfl) ?_
            refine LW.noB rfl rfl rfl rfl (ne_beq (v := true) rfl rfl) ?_
            refine LW.noB rfl rfl rfl rfl (ne_beq (v := true) rfl rfl) ?_
            refine LW.noB rfl rfl rfl rfl (ne_beq (v := true) rfl rfl) ?_
            refine LW.pure rfl rfl (RV.pickTB rfl rfl rfl) ?_
            refine LW.pure rfl rfl (RV.move rfl) ?_
            refine LW.noB rfl rfl rfl rfl (ne_beq (v := true) rfl rfl) ?_
            refine LW.noB rfl rfl rfl rfl (ne_beq (v := true) rfl rfl) ?_
            refine LW.noB rfl rfl rfl rfl (ne_beq (v := true) rfl rfl) ?_
            refine LW.noB rfl rfl rfl rfl (ne_beq (v := true) rfl rfl) ?_
            refine LW.pure rfl rfl (RV.pickTB rfl rfl rfl) ?_
            refine LW.nil (jK115 _ _ ⟨_, ?_, ⟨true, F, rfl, H⟩⟩)
            exact ⟨rfl, rfl, rfl, rfl, (look_slice rfl (by first | rfl | (simp; done) | (simp; omega))), rfl, trivial⟩
    ·
      replace F := ite_n hp2 F
      have hq2 := dec_f hp2
      refine CW.condT rfl (not_t hq2) ?_
      refine CW.seq fun K32 hK32 => ?_
      by_cases hp15 : r4.1 = 0
      ·
        replace F := ite_y hp15 F
        have hq15 := dec_t hp15
        obtain ⟨r10, hr10, F⟩ := bnd_some F
        refine CW.region ?_
        refine LW.pure rfl rfl (RV.move rfl) ?_
        refine LW.pure rfl rfl (RV.eqi rfl rfl) ?_
        refine LW.pure rfl rfl (RV.move rfl) ?_
        refine LW.yesB rfl rfl rfl rfl hq15 (OW.call Tc18 rfl (law04_sane_ok hr10) ?_)
        rintro _ w14 ⟨rfl, E13⟩
        refine ⟨_, rfl, ?_⟩
        replace H := H.grow E13
        replace R0 := H.ext
        refine LW.pure rfl rfl (RV.pickTB rfl hq15 rfl) ?_
        refine LW.pure rfl rfl (RV.assign rfl) ?_
        refine LW.nil (hK32 _ _ ?_)
        refine CW.ret ?_
        obtain rfl := Option.some.inj F
        refine ⟨_, (ResOK.one rfl), ?_⟩
        refine ⟨(by first | rfl | simp), R0⟩
      ·
        replace F := ite_n hp15 F
        have hq15 := dec_f hp15
        refine CW.region ?_
        refine LW.pure rfl rfl (RV.move rfl) ?_
        refine LW.pure rfl rfl (RV.eqi rfl rfl) ?_
        refine LW.pure rfl rfl (RV.move rfl) ?_
        refine LW.noB rfl rfl rfl rfl (ne_beq (v := false) hq15 rfl) ?_
        refine LW.pure rfl rfl (RV.pickFB rfl hq15 rfl) ?_
        refine LW.pure rfl rfl (RV.assign rfl) ?_
        refine LW.nil (hK32 _ _ ?_)
        refine CW.ret ?_
        obtain rfl := Option.some.inj F
        refine ⟨_, (ResOK.one rfl), ?_⟩
        refine ⟨(by first | rfl | simp), R0⟩
end Go.D4

namespace Go.Tb
/-- A loop over 0 .. N - 1 with a state, that is left at the first i for which p does not hold. -/
theorem scan_loop {S R : Type} (N : Nat) (p : Nat → Bool) (g : Nat → S) (L : Nat → S → Int → Option R) (yes : Option R) (no : Nat → Option R)
    (step : ∀ n i : Nat, i < N → L (n + 1) (g i) (i : Int) = if p i = true then L n (g (i + 1)) ((i + 1 : Nat) : Int) else no i)
    (stop : ∀ n : Nat, L (n + 1) (g N) (N : Int) = yes) : ∀ (d n i : Nat), N = i + d → d < n → L n (g i) (i : Int) = match (List.range' i d).find? (fun j => !p j) with | none => yes | some j => no j
  | 0, n + 1, i, hd, hn => by
    have hi : i = N := by omega
    subst hi
    rw [stop n]; rfl
  | d + 1, n + 1, i, hd, hn => by
    rw [step n i (by omega), List.range'_succ, List.find?_cons]
    cases hp : p i
    · simp
    · simp only [if_true, Bool.not_true]
      exact scan_loop N p g L yes no step stop d n (i + 1) (by omega) (by omega)
theorem find_all {p : Nat → Bool} {i d : Nat} : (List.range' i d).find? (fun j => !p j) = none ↔ ∀ j, i ≤ j → j < i + d → p j = true := by
  rw [List.find?_eq_none]
  constructor
  · intro h j h1 h2
    have := h j (by rw [List.mem_range'_1]; omega)
    simpa using this
  · intro h x hx
    rw [List.mem_range'_1] at hx
    simp [h x hx.1 hx.2]
/-- A loop over 0 .. N - 1 with a state and no way out. -/
theorem for_loop {S R : Type} (N : Nat) (g : Nat → S) (L : Nat → S → Int → Option R) (yes : Option R)
    (step : ∀ n i : Nat, i < N → L (n + 1) (g i) (i : Int) = L n (g (i + 1)) ((i + 1 : Nat) : Int))
    (stop : ∀ n : Nat, L (n + 1) (g N) (N : Int) = yes) : ∀ (d n i : Nat), N = i + d → d < n → L n (g i) (i : Int) = yes
  | 0, n + 1, i, hd, hn => by
    have hi : i = N := by omega
    subst hi
    exact stop n
  | d + 1, n + 1, i, hd, hn => by
    rw [step n i (by omega)]
    exact for_loop N g L yes step stop d n (i + 1) (by omega) (by omega)
theorem for_loop0 {S R : Type} (N : Nat) (g : Nat → S) (L : Nat → S → Int → Option R) (yes : Option R)
    (step : ∀ n i : Nat, i < N → L (n + 1) (g i) (i : Int) = L n (g (i + 1)) ((i + 1 : Nat) : Int))
    (stop : ∀ n : Nat, L (n + 1) (g N) (N : Int) = yes) (hN : N ≤ 9223372036854775807) : L FU (g 0) 0 = yes :=
  for_loop N g L yes step stop N FU 0 (by omega) (by have := FU_pos; omega)
theorem scan_loop0 {S R : Type} (N : Nat) (p : Nat → Bool) (g : Nat → S) (L : Nat → S → Int → Option R) (yes no : Option R)
    (step : ∀ n i : Nat, i < N → L (n + 1) (g i) (i : Int) = if p i = true then L n (g (i + 1)) ((i + 1 : Nat) : Int) else no)
    (stop : ∀ n : Nat, L (n + 1) (g N) (N : Int) = yes) (hN : N ≤ 9223372036854775807) : L FU (g 0) 0 = if (∀ j, j < N → p j = true) then yes else no := by
  have h := scan_loop N p g L yes (fun _ => no) step stop N FU 0 (by omega) (by have := FU_pos; omega)
  refine Eq.trans h ?_
  cases hf : (List.range' 0 N).find? (fun j => !p j) with
  | none => rw [if_pos (fun j hj => find_all.1 hf j (by omega) (by omega))]
  | some j =>
    have h1 := List.find?_some hf
    have h2 := List.mem_of_find?_eq_some hf
    rw [List.mem_range'_1] at h2
    rw [if_neg]
    intro hall
    have := hall j (by omega)
    simp [this] at h1
/-- The same over the elements of a list. -/
theorem list_loop0 {α R : Type} (l : List α) (p : α → Bool) (L : Nat → Int → Option R) (yes no : Option R)
    (step : ∀ (n i : Nat) (x : α), l[i]? = some x → L (n + 1) (i : Int) = if p x = true then L n ((i + 1 : Nat) : Int) else no)
    (stop : ∀ n : Nat, L (n + 1) (l.length : Int) = yes) (hl : l.length ≤ 9223372036854775807) : L FU 0 = if l.all p = true then yes else no := by
  have h := scan_loop0 l.length (fun i => (l[i]?.map p).getD true) (fun _ => ()) (fun n _ i => L n i) yes no (fun n i hi => by
    have hx : l[i]? = some l[i] := by simp [hi]
    rw [step n i _ hx]; simp [hx]) stop hl
  refine Eq.trans h ?_
  by_cases ha : l.all p = true
  · rw [if_pos ha, if_pos]
    intro j hj
    have := List.all_eq_true.1 ha l[j] (List.getElem_mem hj)
    simp [hj, this]
  · rw [if_neg ha, if_neg]
    intro hc
    refine ha (List.all_eq_true.2 fun x hx => ?_)
    obtain ⟨j, hj⟩ := List.getElem?_of_mem hx
    have := hc j (lt_of_at hj)
    simpa [hj] using this
end Go.Tb

set_option linter.unusedVariables false
set_option linter.unusedSimpArgs false
namespace Go.D4
open Go.Tb
theorem sane_eq : law04_sane = some true := by decide +kernel
theorem scan_from {R : Type} (N s : Nat) (p : Nat → Bool) (L : Nat → Int → Option R) (yes no : Option R)
    (step : ∀ n i : Nat, s ≤ i → i < N → L (n + 1) (i : Int) = if p i = true then L n ((i + 1 : Nat) : Int) else no)
    (stop : ∀ n i : Nat, N ≤ i → L (n + 1) (i : Int) = yes) : ∀ (d n i : Nat), s ≤ i → N ≤ i + d → d < n → L n (i : Int) = if (∀ j, j < N → i ≤ j → p j = true) then yes else no
  | 0, n + 1, i, hs, hd, hn => by
    rw [stop n i (by omega), if_pos (fun j h1 h2 => by omega)]
  | d + 1, n + 1, i, hs, hd, hn => by
    by_cases hi : N ≤ i
    · rw [stop n i hi, if_pos (fun j h1 h2 => by omega)]
    · rw [step n i hs (by omega)]
      cases hp : p i
      · rw [if_neg (by simp), if_neg (fun h => by have := h i (by omega) (Nat.le_refl _); simp [hp] at this)]
      · rw [if_pos rfl, scan_from N s p L yes no step stop d n (i + 1) (by omega) (by omega) (by omega)]
        by_cases hall : ∀ j, j < N → i + 1 ≤ j → p j = true
        · rw [if_pos hall, if_pos (fun j h1 h2 => by
            by_cases hj : j = i
            · subst hj; exact hp
            · exact hall j h1 (by omega))]
        · rw [if_neg hall, if_neg (fun h => hall fun j h1 h2 => h j h1 (by omega))]
theorem scan1 {R : Type} (N : Nat) (p : Nat → Bool) (L : Nat → Int → Option R) (yes no : Option R)
    (step : ∀ n i : Nat, 1 ≤ i → i < N → L (n + 1) (i : Int) = if p i = true then L n ((i + 1 : Nat) : Int) else no)
    (stop : ∀ n i : Nat, N ≤ i → L (n + 1) (i : Int) = yes) (hN : N ≤ 9223372036854775807) : L FU 1 = if (∀ j, j < N → 1 ≤ j → p j = true) then yes else no :=
  scan_from N 1 p L yes no step stop N FU 1 (by omega) (by omega) (by have := FU_pos; omega)
theorem for0 {S R : Type} (N : Nat) (g : Nat → S) (L : Nat → S → Int → Option R) (yes : Option R) {s0 : S} (h0 : g 0 = s0)
    (step : ∀ n i : Nat, i < N → L (n + 1) (g i) (i : Int) = L n (g (i + 1)) ((i + 1 : Nat) : Int))
    (stop : ∀ n : Nat, L (n + 1) (g N) (N : Int) = yes) (hN : N ≤ 9223372036854775807) : L FU s0 0 = yes := by
  rw [← h0]; exact for_loop0 N g L yes step stop hN
/-- A library loop: is there an element for which f holds? -/
theorem ContainsFunc_eq (l : List Int) (f : Int → Option Bool) (q : Int → Bool) (hf : ∀ x, f x = some (q x)) (hl : l.length ≤ 1000000) : slices_ContainsFunc_int l f = some (l.any q) := by
  unfold slices_ContainsFunc_int slices_IndexFunc_int
  have h := scan_loop l.length (fun i => (l[i]?.map fun x => !q x).getD true) (fun _ => ()) (fun n _ i => slices_IndexFunc_int_L1 l f n i) (some (-1)) (fun j => some (j : Int)) (fun n i hi => ?_) (fun n => ?_) l.length FU 0 (by omega) (by have := FU_pos; omega)
  · rw [bnd_eq (x := match (List.range' 0 l.length).find? (fun j => !((l[j]?.map fun x => !q x).getD true)) with | none => -1 | some j => (j : Int)) (by
      refine Eq.trans h ?_
      cases (List.range' 0 l.length).find? (fun j => !((l[j]?.map fun x => !q x).getD true)) <;> rfl)]
    congr 1
    cases hf : (List.range' 0 l.length).find? (fun j => !((l[j]?.map fun x => !q x).getD true)) with
    | none =>
      have := find_all.1 hf
      have ha : l.any q = false := List.any_eq_false.2 fun x hx => by
        obtain ⟨j, hj⟩ := List.getElem?_of_mem hx
        have := this j (by omega) (by have := lt_of_at hj; omega)
        simpa [hj] using this
      simp [ha]
    | some j =>
      have h1 := List.find?_some hf
      have h2 := List.mem_of_find?_eq_some hf
      rw [List.mem_range'_1] at h2
      have hx : l[j]? = some l[j] := List.getElem?_eq_getElem (by omega)
      rw [hx] at h1
      have ha : l.any q = true := by
        rw [List.any_eq_true]
        exact ⟨l[j], List.getElem_mem _, by simpa using h1⟩
      simp [ha]
  · show slices_IndexFunc_int_B1 l f (slices_IndexFunc_int_L1 l f n) _ = _
    have hx : l[i]? = some l[i] := by simp [hi]
    unfold slices_IndexFunc_int_B1
    rw [if_pos (by omega), ix_nat hx, bnd_eq (hf _), gd_pos (by omega), hx]
    cases h : q l[i] <;> simp [h]
  · show slices_IndexFunc_int_B1 l f (slices_IndexFunc_int_L1 l f n) _ = _
    unfold slices_IndexFunc_int_B1
    rw [if_neg (by omega)]; rfl
def within (n lo hi : Int) : Bool := decide (lo ≤ n) && decide (n ≤ hi)
theorem within_iff {n lo hi : Int} : within n lo hi = true ↔ lo ≤ n ∧ n ≤ hi := by unfold within; simp
theorem from_eq (n lo hi : Int) : cut_from n lo hi = some (within n lo hi) := by
  unfold cut_from within
  by_cases h : lo ≤ n <;> simp [h]
def dep (b : Bog) : Int := ((b.worth[0]?.getD []).length : Int)
theorem ix0 {α β : Type} {l : List α} {k : α → Option β} {x : α} (h : l[0]? = some x) : ix l 0 k = k x := ix_nat (i := 0) h
theorem depth_eq {b : Bog} (h : 1 ≤ b.worth.length) : cut_depth b = some (dep b) := by
  have hx : b.worth[0]? = some b.worth[0] := by simp
  unfold cut_depth dep
  rw [ix0 hx, hx]; rfl
def okW (w : Int) : Bool := within w (-50) 50
def okCol (d : Int) (c : List Int) : Bool := decide ((c.length : Int) = d) && c.all okW
def okB (b : Bog) : Bool := within b.worth.length 1 6 && within (dep b) 1 4 && b.worth.all (okCol (dep b))
def validate (b : Bog) : Int := if okB b = true then 0 else 1
def Short (b : Bog) : Prop := b.worth.length ≤ 50 ∧ ∀ c ∈ b.worth, c.length ≤ 50
theorem Validate_1_eq (w : Int) : cut_Validate_1 w = some (!okW w) := by
  unfold cut_Validate_1; rw [bnd_eq (from_eq _ _ _)]; rfl
theorem any_not {l : List Int} : (l.any fun x => !okW x) = !(l.all okW) := by
  induction l with
  | nil => rfl
  | cons x r ih => simp [ih]
theorem Validate_eq {b : Bog} (hs : Short b) : cut_Validate b = some (validate b) := by
  unfold cut_Validate validate okB
  rw [bnd_eq (from_eq _ _ _)]
  cases h1 : within b.worth.length 1 6
  · rw [if_neg (by simp)]; unfold cut_Validate_k3; simp
  have h1' := within_iff.1 h1
  rw [if_pos rfl, bnd_eq (depth_eq (by omega)), bnd_eq (from_eq _ _ _)]
  cases h2 : within (dep b) 1 4
  · unfold cut_Validate_k3; simp
  unfold cut_Validate_k3
  rw [if_neg (by simp), list_loop0 b.worth (okCol (dep b)) (cut_Validate_L1 b) (some 0) (some 1) (fun n i x hx => ?_) (fun n => ?_) (by omega)]
  · cases b.worth.all (okCol (dep b)) <;> simp
  · have := lt_of_at hx
    have hxl := hs.2 x (List.mem_of_getElem? hx)
    show cut_Validate_B1 b (cut_Validate_L1 b n) _ = _
    unfold cut_Validate_B1 okCol
    rw [if_pos (by omega), ix_nat hx, bnd_eq (depth_eq (by omega))]
    unfold cut_Validate_k2
    by_cases hd : (x.length : Int) = dep b
    · rw [if_pos hd, bnd_eq (ContainsFunc_eq x _ _ Validate_1_eq (by omega)), any_not, gd_pos (by omega)]
      cases x.all okW <;> simp [hd]
    · rw [if_neg hd, gd_pos (by omega)]; simp [hd]
  · show cut_Validate_B1 b (cut_Validate_L1 b n) _ = _
    unfold cut_Validate_B1
    rw [if_neg (by omega)]; rfl
end Go.D4

set_option linter.unusedVariables false
set_option linter.unusedSimpArgs false
namespace Go.D4
open Go.Tb
def gi (l : List Int) (i : Nat) : Int := l.getD i 0
theorem gi_of {l : List Int} {i : Nat} {x : Int} (h : l[i]? = some x) : gi l i = x := by simp [gi, List.getD, h]
def rightB (h : List Int) : Bool := decide (∀ j, j < h.length → 1 ≤ j → within (gi h j - gi h (j - 1)) (-1) 1 = true)
def okL (b : Bog) (h : List Int) : Bool := decide ((h.length : Int) = b.worth.length) && h.all (fun n => within n 0 (dep b))
def listE (b : Bog) (h : List Int) : Int := if validate b = 0 then (if okL b h = true then 0 else 1) else validate b
def hollowE (b : Bog) (h : List Int) : Int := if listE b h = 0 then (if rightB h = true then 0 else 6) else listE b h
structure Ok (b : Bog) : Prop where
  n1 : 1 ≤ b.worth.length
  n6 : b.worth.length ≤ 6
  d1 : 1 ≤ dep b
  d4 : dep b ≤ 4
  col : ∀ c ∈ b.worth, (c.length : Int) = dep b ∧ ∀ w ∈ c, -50 ≤ w ∧ w ≤ 50
theorem okB_iff {b : Bog} : okB b = true ↔ Ok b := by
  unfold okB
  simp only [Bool.and_eq_true, within_iff, List.all_eq_true, okCol, decide_eq_true_eq, okW]
  constructor
  · rintro ⟨⟨h1, h2⟩, h3⟩
    exact ⟨by omega, by omega, h2.1, h2.2, h3⟩
  · intro h
    exact ⟨⟨⟨by have := h.n1; omega, by have := h.n6; omega⟩, h.d1, h.d4⟩, h.col⟩
theorem val0 {b : Bog} : validate b = 0 ↔ Ok b := by
  rw [← okB_iff]; unfold validate; split <;> simp_all
theorem okL_iff {b : Bog} {h : List Int} : okL b h = true ↔ h.length = b.worth.length ∧ ∀ x ∈ h, 0 ≤ x ∧ x ≤ dep b := by
  unfold okL
  simp only [Bool.and_eq_true, decide_eq_true_eq, List.all_eq_true, within_iff]
  constructor
  · rintro ⟨h1, h2⟩; exact ⟨by omega, h2⟩
  · rintro ⟨h1, h2⟩; exact ⟨by omega, h2⟩
theorem list0 {b : Bog} {h : List Int} : listE b h = 0 ↔ Ok b ∧ okL b h = true := by
  unfold listE
  constructor
  · intro h0
    split at h0
    · rename_i hv
      split at h0
      · rename_i ho; exact ⟨val0.1 hv, ho⟩
      · cases h0
    · rename_i hv; exact absurd h0 hv
  · rintro ⟨h1, h2⟩
    rw [if_pos (val0.2 h1), if_pos h2]
theorem hollow0 {b : Bog} {h : List Int} : hollowE b h = 0 ↔ Ok b ∧ okL b h = true ∧ rightB h = true := by
  unfold hollowE
  constructor
  · intro h0
    split at h0
    · rename_i hv
      split at h0
      · rename_i ho; exact ⟨(list0.1 hv).1, (list0.1 hv).2, ho⟩
      · cases h0
    · rename_i hv; exact absurd h0 hv
  · rintro ⟨h1, h2, h3⟩
    rw [if_pos (list0.2 ⟨h1, h2⟩), if_pos h3]
theorem isList_eq {b : Bog} {h : List Int} (hs : Short b) (hl : h.length ≤ 1000000) : cut_isList b h = some (listE b h) := by
  unfold cut_isList listE
  rw [bnd_eq (Validate_eq hs)]
  by_cases hv : validate b = 0
  · have hb := val0.1 hv
    rw [if_pos hv, if_pos hv]
    have hf : ∀ x, cut_isList_1 b x = some (!within x 0 (dep b)) := fun x => by
      unfold cut_isList_1
      rw [bnd_eq (depth_eq hb.n1), bnd_eq (from_eq _ _ _)]
    have hn : (h.any fun x => !within x 0 (dep b)) = !(h.all fun x => within x 0 (dep b)) := by
      induction h with
      | nil => rfl
      | cons x r ih => simp only [List.any_cons, List.all_cons, ih (by simp at hl; omega), Bool.not_and]
    by_cases hln : (h.length : Int) = b.worth.length
    · rw [if_pos hln, bnd_eq (ContainsFunc_eq h _ _ hf hl), hn]
      unfold cut_isList_k1 okL
      cases h.all fun x => within x 0 (dep b) <;> simp [hln]
    · rw [if_neg hln]
      unfold cut_isList_k1 okL
      simp [hln]
  · rw [if_neg hv, if_neg hv]
theorem right_eq {h : List Int} (hl : h.length ≤ 1000000) (hb : ∀ x ∈ h, -1000 ≤ x ∧ x ≤ 1000) : cut_right h = some (rightB h) := by
  unfold cut_right rightB
  rw [scan1 h.length (fun j => within (gi h j - gi h (j - 1)) (-1) 1) (cut_right_L1 h) (some true) (some false) (fun n i h1 hi => ?_) (fun n i hi => ?_) (by omega)]
  · by_cases hp : ∀ j, j < h.length → 1 ≤ j → within (gi h j - gi h (j - 1)) (-1) 1 = true
    · rw [if_pos hp, decide_eq_true hp]
    · rw [if_neg hp, decide_eq_false hp]
  · have hx : h[i]? = some h[i] := by simp [hi]
    have hy : h[i - 1]? = some h[i - 1] := List.getElem?_eq_getElem (by omega)
    have bx := hb h[i] (List.getElem_mem _)
    have by_ := hb h[i - 1] (List.getElem_mem _)
    show cut_right_B1 h (cut_right_L1 h n) _ = _
    unfold cut_right_B1
    rw [if_pos (by omega), ix_nat hx, gd_pos (by omega), show ((i : Int) - 1) = ((i - 1 : Nat) : Int) by omega, ix_nat hy, gd_pos (by omega), bnd_eq (from_eq _ _ _), gi_of hx, gi_of hy, gd_pos (by omega)]
    rfl
  · show cut_right_B1 h (cut_right_L1 h n) _ = _
    unfold cut_right_B1
    rw [if_neg (by omega)]; rfl
theorem CheckHollow_eq {b : Bog} {h : List Int} (hs : Short b) (hl : h.length ≤ 1000000) : cut_CheckHollow b h = some (hollowE b h) := by
  unfold cut_CheckHollow hollowE
  rw [bnd_eq (isList_eq hs hl)]
  by_cases h0 : listE b h = 0
  · have ⟨hb, ho⟩ := list0.1 h0
    have hx := (okL_iff.1 ho).2
    rw [if_pos h0, if_pos h0, bnd_eq (right_eq hl (fun x hm => by have := hx x hm; have := hb.d4; omega))]
    cases rightB h <;> rfl
  · rw [if_neg h0, if_neg h0]
def isum : List Int → Int
  | [] => 0
  | x :: r => x + isum r
def colW (b : Bog) (c : Nat) (n : Int) : Int := isum ((b.worth.getD c []).take n.toNat)
def wsum (b : Bog) (h : List Int) : Nat → Int
  | 0 => 0
  | c + 1 => wsum b h c + colW b c (gi h c)
def longB (b : Bog) (ls : List (List Int)) : Bool := !(ls.all fun l => !decide ((100 : Int) < l.length)) || (!(b.worth.all fun l => !decide ((50 : Int) < l.length)) || decide ((50 : Int) < b.worth.length))
theorem Long_eq {b : Bog} {ls : List (List Int)} (h1 : ls.length ≤ 9223372036854775807) (h2 : b.worth.length ≤ 9223372036854775807) : law04_Long b ls = some (longB b ls) := by
  unfold law04_Long longB
  rw [list_loop0 ls (fun l => !decide ((100 : Int) < l.length)) (law04_Long_L2 b ls) (law04_Long_k2 b) (some true) (fun n i x hx => ?_) (fun n => ?_) h1]
  · cases ls.all fun l => !decide ((100 : Int) < l.length)
    · simp
    · simp only [if_true, Bool.not_true, Bool.false_or]
      unfold law04_Long_k2
      rw [list_loop0 b.worth (fun l => !decide ((50 : Int) < l.length)) (law04_Long_L1 b) (law04_Long_k1 b) (some true) (fun n i x hx => ?_) (fun n => ?_) h2]
      · cases b.worth.all fun l => !decide ((50 : Int) < l.length)
        · simp
        · simp [law04_Long_k1]
      · have := lt_of_at hx
        show law04_Long_B1 b (law04_Long_L1 b n) _ = _
        unfold law04_Long_B1
        rw [if_pos (by omega), ix_nat hx, gd_pos (by omega)]
        by_cases h : (50 : Int) < x.length <;> simp [h]
      · show law04_Long_B1 b (law04_Long_L1 b n) _ = _
        unfold law04_Long_B1
        rw [if_neg (by omega)]
  · have := lt_of_at hx
    show law04_Long_B2 b ls (law04_Long_L2 b ls n) _ = _
    unfold law04_Long_B2
    rw [if_pos (by omega), ix_nat hx, gd_pos (by omega)]
    by_cases h : (100 : Int) < x.length <;> simp [h]
  · show law04_Long_B2 b ls (law04_Long_L2 b ls n) _ = _
    unfold law04_Long_B2
    rw [if_neg (by omega)]
theorem long_short {b : Bog} {ls : List (List Int)} (h : longB b ls = false) : Short b ∧ ∀ l ∈ ls, l.length ≤ 100 := by
  unfold longB at h
  simp only [Bool.or_eq_false_iff, Bool.not_eq_false', List.all_eq_true, Bool.not_eq_true', decide_eq_false_iff_not] at h
  obtain ⟨h1, h2, h3⟩ := h
  exact ⟨⟨by omega, fun c hc => by have := h2 c hc; omega⟩, fun l hl => by have := h1 l hl; omega⟩
end Go.D4

set_option linter.unusedVariables false
set_option linter.unusedSimpArgs false
namespace Go.D4
open Go.Tb
theorem Clone_eq {l : List Int} (h : l.length ≤ 1000000) : slices_Clone_int l = some l := by
  unfold slices_Clone_int
  rw [gd_pos (by simpa using h)]; rfl
def bump (h : List Int) (c : Nat) : List Int := h.set c (gi h c + 1)
def openB (b : Bog) (h : List Int) (c : Nat) : Bool := decide (gi h c + 1 ≤ dep b) && rightB (bump h c)
theorem gi_mem {h : List Int} {c : Nat} (hc : c < h.length) : gi h c ∈ h := by
  have : h[c]? = some h[c] := by simp [hc]
  rw [gi_of this]; exact List.getElem_mem hc
theorem gi_at {h : List Int} {c : Nat} (hc : c < h.length) : h[c]? = some (gi h c) := by
  have : h[c]? = some h[c] := by simp [hc]
  rw [gi_of this]; exact this
theorem bump_hollow {b : Bog} {h : List Int} (hb : Ok b) (ho : okL b h = true) {c : Nat} (hc : c < h.length) (hop : openB b h c = true) : hollowE b (bump h c) = 0 := by
  unfold openB at hop
  simp only [Bool.and_eq_true, decide_eq_true_eq] at hop
  refine hollow0.2 ⟨hb, okL_iff.2 ⟨by simp [bump, (okL_iff.1 ho).1], fun x hx => ?_⟩, hop.2⟩
  unfold bump at hx
  rcases List.mem_or_eq_of_mem_set hx with h1 | h1
  · exact (okL_iff.1 ho).2 x h1
  · have := (okL_iff.1 ho).2 _ (gi_mem hc)
    omega
end Go.D4

set_option linter.unusedVariables false
set_option linter.unusedSimpArgs false
namespace Go.D4
open Go.Tb
def inCols (b : Bog) (c : Int) : Bool := within c 0 ((b.worth.length : Int) - 1)
/-- The hollow after the first i columns of an order (a column that is not open changes nothing). -/
def ordN (b : Bog) (o : List Int) : Nat → List Int
  | 0 => List.replicate b.worth.length 0
  | i + 1 => if openB b (ordN b o i) (gi o i).toNat = true then bump (ordN b o i) (gi o i).toNat else ordN b o i
theorem okL_zero {b : Bog} (hb : Ok b) : okL b (List.replicate b.worth.length 0) = true :=
  okL_iff.2 ⟨by simp, fun x hx => by have := List.eq_of_mem_replicate hx; have := hb.d1; omega⟩
def ordP (b : Bog) (o : List Int) (i : Nat) : Bool := openB b (ordN b o i) (gi o i).toNat
def orderR (b : Bog) (o : List Int) : List Int × Int × Int :=
  match (List.range' 0 o.length).find? (fun j => !ordP b o j) with
  | none => (ordN b o o.length, (o.length : Int), 0)
  | some j => ([], (j : Int), 6)
def checkR (b : Bog) (o : List Int) : List Int × Int × Int :=
  if validate b = 0 then (if (24 : Int) < o.length then ([], 0, 3) else if o.all (inCols b) = true then orderR b o else ([], 0, 4)) else ([], 0, validate b)
end Go.D4

set_option linter.unusedVariables false
set_option linter.unusedSimpArgs false
namespace Go.D4
open Go.Tb
theorem rightB_iff {h : List Int} : rightB h = true ↔ ∀ j, j < h.length → 1 ≤ j → -1 ≤ gi h j - gi h (j - 1) ∧ gi h j - gi h (j - 1) ≤ 1 := by
  unfold rightB
  simp only [decide_eq_true_eq, within_iff]
end Go.D4

set_option linter.unusedVariables false
set_option linter.unusedSimpArgs false
namespace Go.D4
open Go.Tb
structure Inv (b : Bog) (h at_ : List Int) (r : Nat) : Prop where
  ok : Ok b
  lh : okL b h = true
  rh : rightB h = true
  la : okL b at_ = true
  ra : rightB at_ = true
  le : ∀ c, c < h.length → gi at_ c ≤ gi h c
  r_ : isum h - isum at_ = (r : Int)
theorem Inv.len {b : Bog} {h at_ : List Int} {r : Nat} (i : Inv b h at_ r) : at_.length = h.length ∧ h.length ≤ 6 := by
  have := (okL_iff.1 i.lh).1; have := (okL_iff.1 i.la).1; have := i.ok.n6
  omega
theorem isum_bump : ∀ {l : List Int} {c : Nat}, c < l.length → isum (bump l c) = isum l + 1
  | x :: r, 0, _ => by simp [bump, isum, gi]; omega
  | x :: r, c + 1, h => by
    have := isum_bump (l := r) (c := c) (by simpa using h)
    simp only [bump, isum, List.set_cons_succ] at this ⊢
    have e : gi (x :: r) (c + 1) = gi r c := by simp [gi, List.getD]
    rw [e]; omega
theorem isum_le : ∀ {l m : List Int}, l.length = m.length → (∀ c, c < m.length → gi l c ≤ gi m c) → isum l ≤ isum m ∧ (isum l = isum m → l = m)
  | [], [], _, _ => by simp
  | x :: r, y :: s, hl, h => by
    have h0 := h 0 (by simp)
    have ih := isum_le (l := r) (m := s) (by simpa using hl) (fun c hc => by
      have := h (c + 1) (by simpa using hc)
      simpa [gi, List.getD] using this)
    simp only [gi, List.getD, List.getElem?_cons_zero, Option.getD_some] at h0
    simp only [isum]
    refine ⟨by omega, fun e => ?_⟩
    have e1 : x = y := by omega
    have e2 := ih.2 (by omega)
    rw [e1, e2]
theorem gi_bump {l : List Int} {c j : Nat} (hc : c < l.length) : gi (bump l c) j = if j = c then gi l c + 1 else gi l j := by
  unfold bump gi
  simp only [List.getD, List.getElem?_set]
  by_cases h : c = j
  · subst h; simp [hc]
  · rw [if_neg h, if_neg (fun e => h e.symm)]
theorem Inv.next {b : Bog} {h at_ : List Int} {r c : Nat} (i : Inv b h at_ (r + 1)) (hc : c < at_.length) (hlt : gi at_ c < gi h c) (hop : openB b at_ c = true) : Inv b h (bump at_ c) r := by
  have hh := hollow0.1 (bump_hollow i.ok i.la hc hop)
  refine ⟨i.ok, i.lh, i.rh, hh.2.1, hh.2.2, fun j hj => ?_, ?_⟩
  · rw [gi_bump hc]
    split
    · rename_i e; subst e; omega
    · exact i.le j hj
  · rw [isum_bump hc]; have := i.r_; omega
theorem Inv.zero {b : Bog} {h : List Int} (h0 : hollowE b h = 0) : Inv b h (List.replicate h.length 0) (isum h).toNat ∧ (isum h).toNat ≤ 24 := by
  have ⟨hb, ho, hr⟩ := hollow0.1 h0
  have ⟨hl, hx⟩ := okL_iff.1 ho
  have g0 : ∀ c, gi (List.replicate h.length 0) c = 0 := fun c => by
    unfold gi; simp only [List.getD, List.getElem?_replicate]; split <;> rfl
  have s0 : ∀ n, isum (List.replicate n 0) = 0 := fun n => by
    induction n with
    | zero => rfl
    | succ n ih => simp [List.replicate_succ, isum, ih]
  have nn : 0 ≤ isum h ∧ isum h ≤ 4 * (h.length : Int) := by
    have hd := hb.d4
    clear hl ho hr h0 g0
    induction h with
    | nil => simp [isum]
    | cons x r ih =>
      have := ih (fun y hy => hx y (List.mem_cons_of_mem _ hy))
      have := hx x (List.mem_cons_self ..)
      simp only [isum, List.length_cons]; omega
  have h6 := hb.n6
  refine ⟨⟨hb, ho, hr, by rw [hl]; exact okL_zero hb, rightB_iff.2 fun j hj h1 => by rw [g0, g0]; omega, fun c hc => ?_, ?_⟩, by omega⟩
  · rw [g0]; exact (hx _ (gi_mem hc)).1
  · rw [s0]; omega
theorem Inv.done {b : Bog} {h at_ : List Int} (i : Inv b h at_ 0) : at_ = h := by
  have ⟨hl, _⟩ := i.len
  exact (isum_le hl i.le).2 (by have := i.r_; omega)
end Go.D4

set_option linter.unusedVariables false
set_option linter.unusedSimpArgs false
namespace Go.D4
open Go.Tb
/-- What is known of an order that has been made so far. -/
structure Led (b : Bog) (out at_ : List Int) : Prop where
  cols : ∀ x ∈ out, inCols b x = true
  all : ∀ j, j < out.length → ordP b out j = true
  to : ordN b out out.length = at_
theorem ordN_pre {b : Bog} {o s : List Int} : ∀ i, i ≤ o.length → ordN b (o ++ s) i = ordN b o i
  | 0, _ => rfl
  | i + 1, h => by
    have ih := ordN_pre (b := b) (o := o) (s := s) i (by omega)
    have e : gi (o ++ s) i = gi o i := by
      have hlt : i < o.length := by omega
      unfold gi
      simp only [List.getD, List.getElem?_append_left hlt]
    show (if openB b (ordN b (o ++ s) i) (gi (o ++ s) i).toNat = true then _ else _) = (if _ then _ else _)
    rw [ih, e]
theorem Led.next {b : Bog} {out at_ : List Int} {c : Nat} (l : Led b out at_) (hc : c < b.worth.length) (hop : openB b at_ c = true) : Led b (out ++ [(c : Int)]) (bump at_ c) := by
  have e : gi (out ++ [(c : Int)]) out.length = (c : Int) := gi_of (by simp)
  have e2 : ordN b (out ++ [(c : Int)]) out.length = at_ := by rw [ordN_pre _ (Nat.le_refl _), l.to]
  refine ⟨fun x hx => ?_, fun j hj => ?_, ?_⟩
  · rcases List.mem_append.1 hx with h | h
    · exact l.cols x h
    · have : x = (c : Int) := by simpa using h
      rw [this]; exact within_iff.2 (by omega)
  · by_cases hjl : j < out.length
    · have h1 := l.all j hjl
      unfold ordP at h1 ⊢
      have e3 : gi (out ++ [(c : Int)]) j = gi out j := by
        unfold gi
        simp only [List.getD, List.getElem?_append_left hjl]
      rw [ordN_pre _ (by omega), e3]; exact h1
    · have : j = out.length := by simp at hj; omega
      subst this
      unfold ordP
      rw [e2, e]; exact hop
  · rw [List.length_append, List.length_singleton]
    show (if openB b (ordN b (out ++ [(c : Int)]) out.length) (gi (out ++ [(c : Int)]) out.length).toNat = true then _ else _) = _
    rw [e2, e]
    have et : ((c : Int)).toNat = c := by omega
    rw [et, if_pos hop]
theorem Led.check {b : Bog} {o h : List Int} (hb : Ok b) (l : Led b o h) (h24 : o.length ≤ 24) : checkR b o = (h, (o.length : Int), 0) := by
  unfold checkR orderR
  rw [if_pos (val0.2 hb), if_neg (by omega), if_pos (List.all_eq_true.2 l.cols)]
  have hf : (List.range' 0 o.length).find? (fun j => !ordP b o j) = none := find_all.2 fun j _ hj => l.all j (by omega)
  rw [hf, l.to]
end Go.D4

set_option linter.unusedVariables false
set_option linter.unusedSimpArgs false
namespace Go.D4
open Go.Tb
/-- A bog of n columns with d blocks each. -/
def shape (n d : Nat) : Bog := ⟨List.replicate n (List.replicate d 0)⟩
def a6 (x : Arr6) : List Int := [x.at0, x.at1, x.at2, x.at3, x.at4, x.at5]
def stepOk (h : List Int) (x : Int) : Bool := match h.getLast? with | none => true | some y => within (x - y) (-1) 1
def specL (d : Nat) : Nat → List (List Int)
  | 0 => [[]]
  | c + 1 => (specL d c).flatMap fun h => (((List.range (d + 1)).map fun (x : Nat) => (x : Int)).filter (stepOk h)).map fun x => h ++ [x]
def agree (n d : Nat) : Bool := match cut_all (shape n d) with
  | some l => l.map a6 == (specL d n).map fun h => h ++ List.replicate (6 - n) 0
  | none => false
end Go.D4

set_option linter.unusedVariables false
set_option linter.unusedSimpArgs false
namespace Go.D4
open Go.Tb
section
variable {a b : Bog} (hw : a.worth.length = b.worth.length) (hd : cut_depth a = cut_depth b)
include hw hd
theorem all_k1 (l1 : List Arr6) (l2 : List Int) (rec1 : List Arr6 → List Int → Option (List Arr6)) : cut_all_k1 a l1 l2 rec1 = cut_all_k1 b l1 l2 rec1 := by
  unfold cut_all_k1; simp only [hw, hd]
theorem all_L1 (l1 : List Arr6) (l2 : List Int) (rec1 : List Arr6 → List Int → Option (List Arr6)) : ∀ n t, cut_all_L1 a l1 l2 rec1 n t = cut_all_L1 b l1 l2 rec1 n t
  | 0, t => rfl
  | n + 1, t => by
    show cut_all_B1 a l1 l2 rec1 (cut_all_L1 a l1 l2 rec1 n) t = cut_all_B1 b l1 l2 rec1 (cut_all_L1 b l1 l2 rec1 n) t
    have e : cut_all_L1 a l1 l2 rec1 n = cut_all_L1 b l1 l2 rec1 n := funext fun t => all_L1 l1 l2 rec1 n t
    rw [e]
    unfold cut_all_B1
    simp only [hw, hd, all_k1 hw hd]
theorem all_L2 : ∀ n l1 l2, cut_all_L2 a n l1 l2 = cut_all_L2 b n l1 l2
  | 0, l1, l2 => rfl
  | n + 1, l1, l2 => by
    show cut_all_B2 a (cut_all_L2 a n) l1 l2 = cut_all_B2 b (cut_all_L2 b n) l1 l2
    have e : cut_all_L2 a n = cut_all_L2 b n := funext fun l1 => funext fun l2 => all_L2 n l1 l2
    rw [e]
    unfold cut_all_B2
    rw [all_L1 hw hd]
theorem all_congr : cut_all a = cut_all b := all_L2 hw hd FU _ _
end
theorem shape_depth {n d : Nat} (hn : 1 ≤ n) : cut_depth (shape n d) = some (d : Int) := by
  have hx : (shape n d).worth[0]? = some (List.replicate d 0) := by unfold shape; simp only [List.getElem?_replicate]; rw [if_pos (by omega)]
  unfold cut_depth
  rw [ix0 hx]; simp
theorem all_shape {b : Bog} (hb : Ok b) : cut_all b = cut_all (shape b.worth.length (dep b).toNat) :=
  all_congr (by simp [shape]) (by rw [depth_eq hb.n1, shape_depth hb.n1, show (((dep b).toNat : Nat) : Int) = dep b by have := hb.d1; omega])
theorem mem_spec {d : Nat} : ∀ (c : Nat) (h : List Int), h ∈ specL d c ↔ h.length = c ∧ (∀ x ∈ h, 0 ≤ x ∧ x ≤ (d : Int)) ∧ rightB h = true
  | 0, h => by
    simp only [specL, List.mem_singleton]
    constructor
    · rintro rfl; exact ⟨rfl, by simp, by decide⟩
    · rintro ⟨h1, _, _⟩; exact List.length_eq_zero_iff.1 h1
  | c + 1, h => by
    have ih := mem_spec (d := d) c
    have key : ∀ (g : List Int) (x : Int), g.length = c → (rightB (g ++ [x]) = true ↔ rightB g = true ∧ stepOk g x = true) := fun g x hg => by
      have g1 : ∀ j, j < g.length → gi (g ++ [x]) j = gi g j := fun j hj => by
        unfold gi
        simp only [List.getD, List.getElem?_append_left hj]
      have g2 : gi (g ++ [x]) g.length = x := gi_of (by simp)
      have hs : stepOk g x = true ↔ (1 ≤ g.length → -1 ≤ x - gi g (g.length - 1) ∧ x - gi g (g.length - 1) ≤ 1) := by
        unfold stepOk
        cases hl : g.getLast? with
        | none => have := List.getLast?_eq_none_iff.1 hl; subst this; simp
        | some y =>
          rw [List.getLast?_eq_getElem?] at hl
          have hlt := lt_of_at hl
          rw [gi_of hl]
          simp only [within_iff]
          exact ⟨fun h _ => h, fun h => h (by omega)⟩
      rw [rightB_iff, rightB_iff, hs]
      constructor
      · intro h
        refine ⟨fun j hj h1 => ?_, fun h1 => ?_⟩
        · have := h j (by simp; omega) h1
          rw [g1 j hj, g1 (j - 1) (by omega)] at this; exact this
        · have := h g.length (by simp) h1
          rw [g2, g1 (g.length - 1) (by omega)] at this; exact this
      · rintro ⟨h1, h2⟩ j hj h3
        by_cases e : j = g.length
        · subst e
          rw [g2, g1 (g.length - 1) (by omega)]; exact h2 h3
        · have hj' : j < g.length := by simp at hj; omega
          rw [g1 j hj', g1 (j - 1) (by omega)]; exact h1 j hj' h3
    simp only [specL, List.mem_flatMap, List.mem_map, List.mem_filter, List.mem_range]
    constructor
    · rintro ⟨g, hg, x, ⟨⟨y, hy, rfl⟩, hst⟩, rfl⟩
      obtain ⟨h1, h2, h3⟩ := (ih g).1 hg
      refine ⟨by simp [h1], fun z hz => ?_, (key g _ h1).2 ⟨h3, hst⟩⟩
      rcases List.mem_append.1 hz with h | h
      · exact h2 z h
      · have : z = (y : Int) := by simpa using h
        omega
    · rintro ⟨h1, h2, h3⟩
      have hne : h ≠ [] := by intro e; rw [e] at h1; simp at h1
      have e := List.dropLast_concat_getLast hne
      have hl : h.dropLast.length = c := by simp [h1]
      have hlast := h2 (h.getLast hne) (List.getLast_mem hne)
      rw [← e] at h3
      obtain ⟨k1, k2⟩ := (key _ _ hl).1 h3
      refine ⟨h.dropLast, (ih _).2 ⟨hl, fun z hz => h2 z (by rw [List.dropLast_eq_take] at hz; exact List.mem_of_mem_take hz), k1⟩, h.getLast hne, ⟨⟨(h.getLast hne).toNat, by omega, by omega⟩, k2⟩, e⟩
end Go.D4

set_option linter.unusedVariables false
set_option linter.unusedSimpArgs false
namespace Go.D4
theorem agree_n {n d : Nat} (h1 : 1 ≤ n) (h2 : n ≤ 5) (h3 : 1 ≤ d) (h4 : d ≤ 4) : agree n d = true := by
  have e : ∀ n ∈ List.range' 1 5, ∀ d ∈ List.range' 1 4, agree n d = true := by decide +kernel
  exact e n (by rw [List.mem_range'_1]; omega) d (by rw [List.mem_range'_1]; omega)
end Go.D4

set_option linter.unusedVariables false
set_option linter.unusedSimpArgs false
namespace Go.D4
set_option maxHeartbeats 0 in
theorem agree_61 : agree 6 1 = true := by decide +kernel
set_option maxHeartbeats 0 in
theorem agree_62 : agree 6 2 = true := by decide +kernel
set_option maxHeartbeats 0 in
theorem agree_63 : agree 6 3 = true := by decide +kernel
set_option maxHeartbeats 0 in
theorem agree_64 : agree 6 4 = true := by decide +kernel
theorem agree_all {n d : Nat} (h1 : 1 ≤ n) (h2 : n ≤ 6) (h3 : 1 ≤ d) (h4 : d ≤ 4) : agree n d = true := by
  by_cases h : n = 6
  · subst h
    have : d = 1 ∨ d = 2 ∨ d = 3 ∨ d = 4 := by omega
    rcases this with rfl | rfl | rfl | rfl
    · exact agree_61
    · exact agree_62
    · exact agree_63
    · exact agree_64
  · exact agree_n h1 (by omega) h3 h4
end Go.D4

set_option linter.unusedVariables false
set_option linter.unusedSimpArgs false
namespace Go.D4
open Go.Tb
theorem hollow_list_eq {b : Bog} (hb : Ok b) (x : Arr6) : cut_hollow_list x b = some ((a6 x).take b.worth.length) := by
  have h6 := hb.n6
  have e : Int.toNat (b.worth.length : Int) = b.worth.length := by omega
  unfold cut_hollow_list
  rw [gd_pos (by omega), e, bnd_eq (Clone_eq (by rw [List.length_take]; omega))]; rfl
def W (b : Bog) (h : List Int) : Int := wsum b h h.length
/-- The right hollows of a bog. -/
def hollows (b : Bog) : List (List Int) := specL (dep b).toNat b.worth.length
theorem mem_hollows {b : Bog} (hb : Ok b) {h : List Int} : h ∈ hollows b ↔ hollowE b h = 0 := by
  have := hb.d1
  unfold hollows
  rw [mem_spec, hollow0, okL_iff, show (((dep b).toNat : Nat) : Int) = dep b by omega]
  exact ⟨fun ⟨h1, h2, h3⟩ => ⟨hb, ⟨h1, h2⟩, h3⟩, fun ⟨_, ⟨h1, h2⟩, h3⟩ => ⟨h1, h2, h3⟩⟩
def pad (h : List Int) : List Int := h ++ List.replicate (6 - h.length) 0
theorem all_pad {b : Bog} (hb : Ok b) : ∃ l, cut_all b = some l ∧ l.map a6 = (hollows b).map pad := by
  have ha := agree_all hb.n1 hb.n6 (d := (dep b).toNat) (by have := hb.d1; omega) (by have := hb.d4; omega)
  unfold agree at ha
  rw [← all_shape hb] at ha
  have hp : (hollows b).map pad = (specL (dep b).toNat b.worth.length).map fun h => h ++ List.replicate (6 - b.worth.length) 0 := by
    unfold hollows
    refine List.map_congr_left fun h hh => ?_
    unfold pad
    rw [((mem_spec _ h).1 hh).1]
  cases hl : cut_all b with
  | none => rw [hl] at ha; cases ha
  | some l => rw [hl] at ha; exact ⟨l, rfl, by rw [hp]; simpa using ha⟩
theorem hollow_len {b : Bog} {h : List Int} (h0 : hollowE b h = 0) : h.length = b.worth.length := (okL_iff.1 (hollow0.1 h0).2.1).1
theorem ix6 {R : Type} (x : Arr6) {k : Int → Int → Int → Int → Int → Int → Option R} :
    (gd ((([x.at0, x.at1, x.at2, x.at3, x.at4, x.at5] : List Int)).length = 6) <|
    ix (([x.at0, x.at1, x.at2, x.at3, x.at4, x.at5] : List Int)) 0 fun x2 =>
    ix (([x.at0, x.at1, x.at2, x.at3, x.at4, x.at5] : List Int)) 1 fun x3 =>
    ix (([x.at0, x.at1, x.at2, x.at3, x.at4, x.at5] : List Int)) 2 fun x4 =>
    ix (([x.at0, x.at1, x.at2, x.at3, x.at4, x.at5] : List Int)) 3 fun x5 =>
    ix (([x.at0, x.at1, x.at2, x.at3, x.at4, x.at5] : List Int)) 4 fun x6 =>
    ix (([x.at0, x.at1, x.at2, x.at3, x.at4, x.at5] : List Int)) 5 fun x7 => k x2 x3 x4 x5 x6 x7) = k x.at0 x.at1 x.at2 x.at3 x.at4 x.at5 := by
  rw [gd_pos (by simp), ix_eq (i := 0) (by decide) rfl, ix_eq (i := 1) (by decide) rfl, ix_eq (i := 2) (by decide) rfl, ix_eq (i := 3) (by decide) rfl, ix_eq (i := 4) (by decide) rfl, ix_eq (i := 5) (by decide) rfl]
theorem spec_len (d : Nat) : ∀ c, (specL d c).length ≤ (d + 1) ^ c
  | 0 => by simp [specL]
  | c + 1 => by
    have ih := spec_len d c
    have e : ∀ l : List (List Int), (l.flatMap fun h => (((List.range (d + 1)).map fun (x : Nat) => (x : Int)).filter (stepOk h)).map fun x => h ++ [x]).length ≤ l.length * (d + 1) := fun l => by
      induction l with
      | nil => simp
      | cons h r ih =>
        simp only [List.flatMap_cons, List.length_append, List.length_map, List.length_cons]
        have := List.length_filter_le (stepOk h) ((List.range (d + 1)).map fun (x : Nat) => (x : Int))
        simp only [List.length_map, List.length_range] at this
        rw [Nat.succ_mul]; omega
    simp only [specL]
    refine Nat.le_trans (e _) ?_
    rw [Nat.pow_succ]
    exact Nat.mul_le_mul_right _ ih
theorem hollows_len {b : Bog} (hb : Ok b) : (hollows b).length ≤ 15625 ∧ 1 ≤ (hollows b).length := by
  constructor
  · have h1 := spec_len (dep b).toNat b.worth.length
    have h2 : ((dep b).toNat + 1) ^ b.worth.length ≤ 5 ^ b.worth.length := Nat.pow_le_pow_left (by have := hb.d4; omega) _
    have h3 : 5 ^ b.worth.length ≤ 5 ^ 6 := Nat.pow_le_pow_right (by omega) hb.n6
    unfold hollows; omega
  · have h0 : hollowE b (List.replicate b.worth.length 0) = 0 := hollow0.2 ⟨hb, okL_zero hb, rightB_iff.2 fun j hj h1 => by
      have g0 : ∀ c, gi (List.replicate b.worth.length 0) c = 0 := fun c => by
        unfold gi; simp only [List.getD, List.getElem?_replicate]; split <;> rfl
      rw [g0, g0]; omega⟩
    exact List.length_pos_of_mem ((mem_hollows hb).2 h0)
end Go.D4

set_option linter.unusedVariables false
set_option linter.unusedSimpArgs false
namespace Go.D4
open Go.Tb
/-- The right hollows with one more column, of less than j blocks. -/
def rowx (h : List Int) (j : Nat) : List (List Int) := (((List.range j).map fun (x : Nat) => (x : Int)).filter (stepOk h)).map fun x => h ++ [x]
end Go.D4
