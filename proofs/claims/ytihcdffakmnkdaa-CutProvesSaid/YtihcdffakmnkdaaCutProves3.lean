/- Lemmas and walks that the proof of this claim uses: D4m3, D4m4, D4m5, D4m6, D4m7, D4m8, D4m9. -/
import Derived.Test.YtihcdffakmnkdaaCutProves2
set_option linter.unusedVariables false
set_option linter.unusedSimpArgs false
namespace Go.D4
open Go.Tb Go.Proofs Go.RowKit
theorem Tc19 : callable Try.prog 19 = true := by kernel_rfl
theorem Tc21 : callable Try.prog 21 = true := by kernel_rfl
theorem Tc22 : callable Try.prog 22 = true := by kernel_rfl
theorem Tc28 : callable Try.prog 28 = true := by kernel_rfl
theorem Tc49 : callable Try.prog 49 = true := by kernel_rfl
theorem Tc61 : callable Try.prog 61 = true := by kernel_rfl
theorem Tc63 : callable Try.prog 63 = true := by kernel_rfl
theorem Tc64 : callable Try.prog 64 = true := by kernel_rfl
theorem Tc96 : callable Try.prog 96 = true := by kernel_rfl
set_option maxRecDepth 20000 in
set_option maxHeartbeats 1000000 in
theorem cut_isList_1_ok {cap0 : Bog} {a0 : Int} {A_cap0_worth : Option Addr} {c_cap0_worth : Nat} {b_cap0 : Nat} {w : World} {res : Bool} (h_cap0_worth : Sl2 w A_cap0_worth c_cap0_worth 1 encN cap0.worth) (hc_cap0 : Cells w ⟨b_cap0, 0, none⟩ [.slice A_cap0_worth cap0.worth.length c_cap0_worth]) (F : cut_isList_1 cap0 a0 = some res) : Calls Try.prog 96 #[.int .i64 a0, .pointer (some (⟨b_cap0, 0, none⟩))] w (Rt w (.bool res)) := by
  refine calls_of_cw (args := [.int .i64 a0, .pointer (some (⟨b_cap0, 0, none⟩))]) Try.func96 rfl rfl rfl rfl ?_
  have H := Hp.start w
  have R0 := H.ext
  unfold cut_isList_1 at F
  refine CW.seq fun K1 hK1 => ?_
  refine CW.region ?_
  refine LW.pure rfl rfl (RV.assign rfl) ?_
  refine LW.nil (hK1 _ _ ?_)
  refine CW.seq fun K2 hK2 => ?_
  obtain ⟨r1, hr1, F⟩ := bnd_some F
  obtain ⟨r2, hr2, F⟩ := bnd_some F
  refine CW.region ?_
  refine LW.pure rfl rfl (RV.move rfl) ?_
  refine LW.pure rfl rfl (RV.loadA [.slice A_cap0_worth cap0.worth.length c_cap0_worth] Tk24 rfl (hc_cap0.ext R0) rfl rfl) ?_
  refine LW.go rfl rfl (OW.call Tc68 rfl (cut_depth_ok (a0 := cap0) (h_cap0_worth.ext R0) hr1) ?_)
  rintro _ w1 ⟨rfl, E1⟩
  refine ⟨_, rfl, ?_⟩
  replace H := H.grow E1
  replace R0 := H.ext
  refine LW.go rfl rfl (OW.call Tc67 rfl (cut_from_ok (a0 := a0) (a1 := (0 : Int)) (a2 := r1) hr2) ?_)
  rintro _ w2 ⟨rfl, E2⟩
  refine ⟨_, rfl, ?_⟩
  replace H := H.grow E2
  replace R0 := H.ext
  refine LW.pure rfl rfl (RV.not rfl) ?_
  refine LW.pure rfl rfl (RV.assign rfl) ?_
  refine LW.nil (hK2 _ _ ?_)
  refine CW.ret ?_
  obtain rfl := Option.some.inj F
  refine ⟨_, (ResOK.one rfl), ?_⟩
  refine ⟨(by first | rfl | simp), R0⟩
set_option maxRecDepth 20000 in
set_option maxHeartbeats 1000000 in
theorem cut_isList_ok {a0 : Bog} {a1 : List Int} {A_a0_worth : Option Addr} {c_a0_worth : Nat} {A_a1 : Option Addr} {c_a1 : Nat} {w : World} {res : Int} (h_a0_worth : Sl2 w A_a0_worth c_a0_worth 1 encN a0.worth) (h_a1 : Sl w A_a1 c_a1 1 (a1.map encN)) (F : cut_isList a0 a1 = some res) : Calls Try.prog 63 #[.agg #[.slice A_a0_worth a0.worth.length c_a0_worth], .slice A_a1 a1.length c_a1] w (Rt w (.int .i64 res)) := by
  refine calls_of_cw (args := [.agg #[.slice A_a0_worth a0.worth.length c_a0_worth], .slice A_a1 a1.length c_a1]) Try.func63 rfl rfl rfl rfl ?_
  have H := Hp.start w
  have R0 := H.ext
  unfold cut_isList at F
  refine CW.seq fun K1 hK1 => ?_
  refine CW.region ?_
  refine LW.go rfl rfl (OW.box rfl fun b1 w1 N1 => ?_)
  replace H := H.new N1 N1.blk
  replace R0 := H.ext
  refine LW.pure rfl rfl (RV.assign rfl) ?_
  refine LW.nil (hK1 _ _ ?_)
  refine CW.seq fun K2 hK2 => ?_
  refine CW.seq fun K3 hK3 => ?_
  obtain ⟨r1, hr1, F⟩ := bnd_some F
  refine CW.region ?_
  refine LW.pure rfl rfl (RV.loadA [.slice A_a0_worth a0.worth.length c_a0_worth] Tk24 rfl (H.blk 0 rfl).cells rfl rfl) ?_
  refine LW.go rfl rfl (OW.call Tc25 rfl (cut_Validate_ok (a0 := a0) (h_a0_worth.ext R0) hr1) ?_)
  rintro _ w2 ⟨rfl, E1⟩
  refine ⟨_, rfl, ?_⟩
  replace H := H.grow E1
  replace R0 := H.ext
  refine LW.pure rfl rfl (RV.assign rfl) ?_
  refine LW.nil (hK3 _ _ ?_)
  refine CW.seq fun K4 hK4 => ?_
  refine CW.region ?_
  refine LW.pure rfl rfl (RV.move rfl) ?_
  refine LW.pure rfl rfl (RV.nei rfl rfl) ?_
  refine LW.nil (hK4 _ _ ?_)
  by_cases hp1 : r1 = 0
  ·
    replace F := ite_y hp1 F
    have hq1 := dec_t hp1
    refine CW.condF rfl (not_f hq1) ?_
    refine CW.skip (hK2 _ _ ?_)
    refine CW.seq fun K5 hK5 => ?_
    refine CW.seqJ (fun ρ wl1 => (∃ (t21_1 : Bool), cut_isList_k1 t21_1 = some res ∧ ρ = [(4, .int .i64 0), (21, .bool t21_1)] ∧ Hp w wl1 [])) ?_ ?_
    ·
      rintro _ wl1 ⟨t21_1, F, rfl, H⟩
      have R0 := H.ext
      unfold cut_isList_k1 at F
      by_cases hp2 : t21_1 = true
      ·
        replace F := ite_y hp2 F
        have hq2 : t21_1 = true := hp2
        refine CW.condT rfl hq2 ?_
        refine CW.seq fun K6 hK6 => ?_
        refine CW.region ?_
        refine LW.pure rfl rfl (RV.assign rfl) ?_
        refine LW.nil (hK6 _ _ ?_)
        refine CW.ret ?_
        obtain rfl := Option.some.inj F
        refine ⟨_, (ResOK.one rfl), ?_⟩
        refine ⟨(by first | rfl | simp), R0⟩
      ·
        replace F := ite_n hp2 F
        have hq2 : t21_1 = false := raw_f hp2
        refine CW.condF rfl hq2 ?_
        refine CW.skip (hK5 _ _ ?_)
        refine CW.seq fun K7 hK7 => ?_
        refine CW.region ?_
        refine LW.pure rfl rfl (RV.assign rfl) ?_
        refine LW.nil (hK7 _ _ ?_)
        refine CW.ret ?_
        obtain rfl := Option.some.inj F
        refine ⟨_, (ResOK.one rfl), ?_⟩
        refine ⟨(by first | rfl | simp), R0⟩
    ·
      intro K8 hK8 jK17
      by_cases hp3 : ((a1.length : Int)) = ((a0.worth.length : Int))
      ·
        replace F := ite_y hp3 F
        have hq3 := dec_t hp3
        obtain ⟨r2, hr2, F⟩ := bnd_some F
        refine CW.region ?_
        refine LW.pure rfl rfl (RV.move rfl) ?_
        refine LW.pure rfl rfl (RV.len Ts25 rfl) ?_
        refine LW.pure rfl rfl (RV.fieldAddr Tf24_0 rfl) ?_
        refine LW.pure rfl rfl (RV.load1 Tk22 rfl ((H.blk 0 rfl).cells.off 0) rfl) ?_
        refine LW.pure rfl rfl (RV.len Ts22 rfl) ?_
        refine LW.pure rfl rfl (RV.nei rfl rfl) ?_
        refine LW.pure rfl rfl (RV.move rfl) ?_
        refine LW.pureYB rfl rfl rfl rfl (not_f hq3) (RV.move rfl) ?_
        refine LW.pureYB rfl rfl rfl rfl (not_f hq3) (RV.makeFunc (fs := []) (cs := [.pointer (some (⟨b1, 0, none⟩))]) rfl rfl) ?_
        refine LW.yesB rfl rfl rfl rfl (not_f hq3) (OW.call Tc69 rfl (slices_ContainsFunc_int_ok (a0 := a1) (a1 := (fun x0 => cut_isList_1 a0 x0)) (h_a1.ext R0) (fun x0 r hF w3 hE => CallsV.cap Tc96 (by simp) (cut_isList_1_ok (cap0 := a0) (a0 := x0) ((h_a0_worth.ext R0).ext hE) ((H.blk 0 rfl).cells.ext hE) hF)) hr2) ?_)
        rintro _ w4 ⟨rfl, E2⟩
        refine ⟨_, rfl, ?_⟩
        replace H := H.grow E2
        replace R0 := H.ext
        refine LW.pure rfl rfl (RV.pickFB rfl (not_f hq3) rfl) ?_
        replace H := H.pick (L' := []) [] (by decide) rfl
        replace R0 := H.ext
        refine LW.nil (jK17 _ _ ⟨_, ?_, ⟨r2, F, rfl, H⟩⟩)
        exact ⟨rfl, rfl, trivial⟩
      ·
        replace F := ite_n hp3 F
        have hq3 := dec_f hp3
        refine CW.region ?_
        refine LW.pure rfl rfl (RV.move rfl) ?_
        refine LW.pure rfl rfl (RV.len Ts25 rfl) ?_
        refine LW.pure rfl rfl (RV.fieldAddr Tf24_0 rfl) ?_
        refine LW.pure rfl rfl (RV.load1 Tk22 rfl ((H.blk 0 rfl).cells.off 0) rfl) ?_
        refine LW.pure rfl rfl (RV.len Ts22 rfl) ?_
        refine LW.pure rfl rfl (RV.nei rfl rfl) ?_
        refine LW.pure rfl rfl (RV.move rfl) ?_
        refine LW.noB rfl rfl rfl rfl (ne_beq (v := true) (not_t hq3) rfl) ?_
        refine LW.noB rfl rfl rfl rfl (ne_beq (v := true) (not_t hq3) rfl) ?_
        refine LW.noB rfl rfl rfl rfl (ne_beq (v := true) (not_t hq3) rfl) ?_
        refine LW.pure rfl rfl (RV.pickTB rfl (not_t hq3) rfl) ?_
        replace H := H.pick (L' := []) [] (by decide) rfl
        replace R0 := H.ext
        refine LW.nil (jK17 _ _ ⟨_, ?_, ⟨true, F, rfl, H⟩⟩)
        exact ⟨rfl, rfl, trivial⟩
  ·
    replace F := ite_n hp1 F
    have hq1 := dec_f hp1
    refine CW.condT rfl (not_t hq1) ?_
    refine CW.seq fun K9 hK9 => ?_
    refine CW.region ?_
    refine LW.pure rfl rfl (RV.move rfl) ?_
    refine LW.pure rfl rfl (RV.assign rfl) ?_
    refine LW.nil (hK9 _ _ ?_)
    refine CW.ret ?_
    obtain rfl := Option.some.inj F
    refine ⟨_, (ResOK.one rfl), ?_⟩
    refine ⟨(by first | rfl | simp), R0⟩
set_option maxRecDepth 20000 in
set_option maxHeartbeats 1000000 in
theorem cut_right_ok {a0 : List Int} {A_a0 : Option Addr} {c_a0 : Nat} {w : World} {res : Bool} (h_a0 : Sl w A_a0 c_a0 1 (a0.map encN)) (F : cut_right a0 = some res) : Calls Try.prog 64 #[.slice A_a0 a0.length c_a0] w (Rt w (.bool res)) := by
  refine calls_of_cw (args := [.slice A_a0 a0.length c_a0]) Try.func64 rfl rfl rfl rfl ?_
  have H := Hp.start w
  have R0 := H.ext
  unfold cut_right at F
  refine CW.seq fun K1 hK1 => ?_
  refine CW.region ?_
  refine LW.pure rfl rfl (RV.assign rfl) ?_
  refine LW.nil (hK1 _ _ ?_)
  refine CW.seqJ (fun ρ wl1 => (cut_right_k1 = some res ∧ ρ = [(2, .bool false)] ∧ Hp w wl1 [])) ?_ ?_
  ·
    rintro _ wl1 ⟨F, rfl, H⟩
    have R0 := H.ext
    unfold cut_right_k1 at F
    refine CW.seq fun K2 hK2 => ?_
    refine CW.region ?_
    refine LW.pure rfl rfl (RV.assign rfl) ?_
    refine LW.nil (hK2 _ _ ?_)
    refine CW.ret ?_
    obtain rfl := Option.some.inj F
    refine ⟨_, (ResOK.one rfl), ?_⟩
    refine ⟨(by first | rfl | simp), R0⟩
  ·
    intro K3 hK3 jK54
    refine CW.seq fun K4 hK4 => ?_
    refine CW.region ?_
    refine LW.pure rfl rfl (RV.assign rfl) ?_
    refine LW.nil (hK4 _ _ ?_)
    refine CW.block ?_
    refine CW.loop (fun meas ρ wl2 => ∃ (t3_1 : Int), cut_right_L1 a0 meas t3_1 = some res ∧ ρ = [(0, .slice A_a0 a0.length c_a0), (2, .bool false), (3, .int .i64 t3_1)] ∧ Hp w wl2 []) FU ⟨_, ?_, ((1 : Int)), F, rfl, H⟩ ?_
    · exact ⟨rfl, rfl, rfl, trivial⟩
    rintro mk1 _ wl2 ⟨t3_1, F, rfl, H⟩
    have R0 := H.ext
    replace F := cut_right_L1_s F
    obtain ⟨mk1, rfl, F⟩ := F
    generalize hrec1 : cut_right_L1 a0 mk1 = rec1 at F
    unfold cut_right_B1 at F
    refine CW.seq fun K5 hK5 => ?_
    refine CW.seq fun K6 hK6 => ?_
    refine CW.region ?_
    refine LW.pure rfl rfl (RV.move rfl) ?_
    refine LW.pure rfl rfl (RV.move rfl) ?_
    refine LW.pure rfl rfl (RV.len Ts25 rfl) ?_
    refine LW.pure rfl rfl (RV.lss rfl rfl) ?_
    refine LW.nil (hK6 _ _ ?_)
    by_cases hp1 : t3_1 < ((a0.length : Int))
    ·
      replace F := ite_y hp1 F
      have hq1 := dec_t hp1
      refine CW.condT rfl hq1 ?_
      refine CW.skip (hK5 _ _ ?_)
      refine CW.seq fun K7 hK7 => ?_
      refine CW.block ?_
      refine CW.seq fun K8 hK8 => ?_
      obtain ⟨x1, hbx1, hx1, F⟩ := ix_some F
      obtain ⟨hg1, F⟩ := gd_some F
      obtain ⟨x2, hbx2, hx2, F⟩ := ix_some F
      obtain ⟨hg2, F⟩ := gd_some F
      obtain ⟨r1, hr1, F⟩ := bnd_some F
      refine CW.draw [] (fun _ => True) (.cons 0 1 (.cons 1 1 (.cons 2 1 (.cons 3 1 (.cons 4 1 (.cons 5 1 (.cons 6 1 (.cons 7 1 (.cons 8 1 (.cons 9 1 (.cons 10 0 (.cons 11 1 .nil)))))))))))) mixed (by kernel_rfl) fun w1 E1 => ?_
      replace H := H.grow E1
      replace R0 := H.ext
      refine DW.fix rfl rfl rfl (fun _ EQ => RV.move rfl) ?_
      refine DW.fix rfl rfl rfl (fun _ EQ => RV.move rfl) ?_
      refine DW.fix rfl rfl rfl (fun _ EQ => RV.indexAddr Ts25 rfl rfl hbx1 (h_a0.addr_ hx1)) ?_
      refine DW.fix rfl rfl rfl (fun _ EQ => RV.load1 Tk3 rfl ((h_a0.at_ hx1).ext (R0.trans EQ)) rfl) ?_
      refine DW.fix rfl rfl rfl (fun _ EQ => RV.move rfl) ?_
      refine DW.fix rfl rfl rfl (fun _ EQ => RV.move rfl) ?_
      refine DW.fix rfl rfl rfl (fun _ EQ => RV.sub rfl rfl hg1) ?_
      refine DW.fix rfl rfl rfl (fun _ EQ => RV.indexAddr Ts25 rfl rfl hbx2 (h_a0.addr_ hx2)) ?_
      refine DW.fix rfl rfl rfl (fun _ EQ => RV.load1 Tk3 rfl ((h_a0.at_ hx2).ext (R0.trans EQ)) rfl) ?_
      refine DW.fix rfl rfl rfl (fun _ EQ => RV.sub rfl rfl hg2) ?_
      refine DW.sole rfl rfl rfl (OW.call Tc67 rfl (cut_from_ok (a0 := x1 - x2) (a1 := (-1 : Int)) (a2 := (1 : Int)) hr1) ?_)
      rintro _ w2 ⟨rfl, E2⟩
      refine ⟨_, rfl, fun _ => E2, ModX.ext E2, ?_⟩
      replace H := H.grow E2
      replace R0 := H.ext
      refine DW.fix rfl rfl rfl (fun _ EQ => RV.not rfl) ?_
      refine DW.nil (hK8 _ _ ?_)
      by_cases hp2 : r1 = true
      ·
        replace F := ite_y hp2 F
        have hq2 : r1 = true := hp2
        refine CW.condF rfl (not_f hq2) ?_
        refine CW.skip (hK7 _ _ ?_)
        obtain ⟨hg3, F⟩ := gd_some F
        refine CW.region ?_
        refine LW.pure rfl rfl (RV.move rfl) ?_
        refine LW.pure rfl rfl (RV.add rfl rfl hg3) ?_
        refine LW.pure rfl rfl (RV.assign rfl) ?_
        refine LW.nil ?_
        subst hrec1
        refine ⟨mk1, Nat.lt_succ_self _, _, ?_, (t3_1 + 1), F, rfl, H⟩
        exact ⟨rfl, rfl, rfl, trivial⟩
      ·
        replace F := ite_n hp2 F
        have hq2 : r1 = false := raw_f hp2
        refine CW.condT rfl (not_t hq2) ?_
        refine CW.seq fun K9 hK9 => ?_
        refine CW.region ?_
        refine LW.pure rfl rfl (RV.assign rfl) ?_
        refine LW.nil (hK9 _ _ ?_)
        refine CW.ret ?_
        obtain rfl := Option.some.inj F
        refine ⟨_, (ResOK.one rfl), ?_⟩
        refine ⟨(by first | rfl | simp), R0⟩
    ·
      replace F := ite_n hp1 F
      have hq1 := dec_f hp1
      refine CW.condF rfl hq1 ?_
      refine CW.exit (jK54 _ _ ⟨_, ?_, ⟨F, rfl, H⟩⟩)
      exact ⟨rfl, trivial⟩
set_option maxRecDepth 20000 in
set_option maxHeartbeats 1000000 in
theorem cut_CheckHollow_ok {a0 : Bog} {a1 : List Int} {A_a0_worth : Option Addr} {c_a0_worth : Nat} {A_a1 : Option Addr} {c_a1 : Nat} {w : World} {res : Int} (h_a0_worth : Sl2 w A_a0_worth c_a0_worth 1 encN a0.worth) (h_a1 : Sl w A_a1 c_a1 1 (a1.map encN)) (F : cut_CheckHollow a0 a1 = some res) : Calls Try.prog 22 #[.agg #[.slice A_a0_worth a0.worth.length c_a0_worth], .slice A_a1 a1.length c_a1] w (Rt w (.int .i64 res)) := by
  refine calls_of_cw (args := [.agg #[.slice A_a0_worth a0.worth.length c_a0_worth], .slice A_a1 a1.length c_a1]) Try.func22 rfl rfl rfl rfl ?_
  have H := Hp.start w
  have R0 := H.ext
  unfold cut_CheckHollow at F
  refine CW.seq fun K1 hK1 => ?_
  refine CW.region ?_
  refine LW.go rfl rfl (OW.box rfl fun b1 w1 N1 => ?_)
  replace H := H.new N1 N1.blk
  replace R0 := H.ext
  refine LW.pure rfl rfl (RV.assign rfl) ?_
  refine LW.nil (hK1 _ _ ?_)
  refine CW.seq fun K2 hK2 => ?_
  refine CW.seq fun K3 hK3 => ?_
  obtain ⟨r1, hr1, F⟩ := bnd_some F
  refine CW.region ?_
  refine LW.pure rfl rfl (RV.loadA [.slice A_a0_worth a0.worth.length c_a0_worth] Tk24 rfl (H.blk 0 rfl).cells rfl rfl) ?_
  refine LW.pure rfl rfl (RV.move rfl) ?_
  refine LW.go rfl rfl (OW.call Tc63 rfl (cut_isList_ok (a0 := a0) (a1 := a1) (h_a0_worth.ext R0) (h_a1.ext R0) hr1) ?_)
  rintro _ w2 ⟨rfl, E1⟩
  refine ⟨_, rfl, ?_⟩
  replace H := H.grow E1
  replace R0 := H.ext
  refine LW.pure rfl rfl (RV.assign rfl) ?_
  refine LW.nil (hK3 _ _ ?_)
  refine CW.seq fun K4 hK4 => ?_
  refine CW.region ?_
  refine LW.pure rfl rfl (RV.move rfl) ?_
  refine LW.pure rfl rfl (RV.nei rfl rfl) ?_
  refine LW.nil (hK4 _ _ ?_)
  by_cases hp1 : r1 = 0
  ·
    replace F := ite_y hp1 F
    have hq1 := dec_t hp1
    refine CW.condF rfl (not_f hq1) ?_
    refine CW.skip (hK2 _ _ ?_)
    refine CW.seq fun K5 hK5 => ?_
    refine CW.seq fun K6 hK6 => ?_
    obtain ⟨r2, hr2, F⟩ := bnd_some F
    refine CW.region ?_
    refine LW.pure rfl rfl (RV.move rfl) ?_
    refine LW.go rfl rfl (OW.call Tc64 rfl (cut_right_ok (a0 := a1) (h_a1.ext R0) hr2) ?_)
    rintro _ w3 ⟨rfl, E2⟩
    refine ⟨_, rfl, ?_⟩
    replace H := H.grow E2
    replace R0 := H.ext
    refine LW.pure rfl rfl (RV.not rfl) ?_
    refine LW.nil (hK6 _ _ ?_)
    by_cases hp2 : r2 = true
    ·
      replace F := ite_y hp2 F
      have hq2 : r2 = true := hp2
      refine CW.condF rfl (not_f hq2) ?_
      refine CW.skip (hK5 _ _ ?_)
      refine CW.seq fun K7 hK7 => ?_
      refine CW.region ?_
      refine LW.pure rfl rfl (RV.assign rfl) ?_
      refine LW.nil (hK7 _ _ ?_)
      refine CW.ret ?_
      obtain rfl := Option.some.inj F
      refine ⟨_, (ResOK.one rfl), ?_⟩
      refine ⟨(by first | rfl | simp), R0⟩
    ·
      replace F := ite_n hp2 F
      have hq2 : r2 = false := raw_f hp2
      refine CW.condT rfl (not_t hq2) ?_
      refine CW.seq fun K8 hK8 => ?_
      refine CW.region ?_
      refine LW.pure rfl rfl (RV.assign rfl) ?_
      refine LW.nil (hK8 _ _ ?_)
      refine CW.ret ?_
      obtain rfl := Option.some.inj F
      refine ⟨_, (ResOK.one rfl), ?_⟩
      refine ⟨(by first | rfl | simp), R0⟩
  ·
    replace F := ite_n hp1 F
    have hq1 := dec_f hp1
    refine CW.condT rfl (not_t hq1) ?_
    refine CW.seq fun K9 hK9 => ?_
    refine CW.region ?_
    refine LW.pure rfl rfl (RV.move rfl) ?_
    refine LW.pure rfl rfl (RV.assign rfl) ?_
    refine LW.nil (hK9 _ _ ?_)
    refine CW.ret ?_
    obtain rfl := Option.some.inj F
    refine ⟨_, (ResOK.one rfl), ?_⟩
    refine ⟨(by first | rfl | simp), R0⟩
set_option maxRecDepth 20000 in
set_option maxHeartbeats 1000000 in
theorem cut_open_ok {a0 : Bog} {a1 : List Int} {a2 : Int} {A_a0_worth : Option Addr} {c_a0_worth : Nat} {A_a1 : Option Addr} {c_a1 : Nat} {w : World} {res : Bool} (h_a0_worth : Sl2 w A_a0_worth c_a0_worth 1 encN a0.worth) (h_a1 : Sl w A_a1 c_a1 1 (a1.map encN)) (F : cut_open a0 a1 a2 = some res) : Calls Try.prog 61 #[.agg #[.slice A_a0_worth a0.worth.length c_a0_worth], .slice A_a1 a1.length c_a1, .int .i64 a2] w (Rt w (.bool res)) := by
  refine calls_of_cw (args := [.agg #[.slice A_a0_worth a0.worth.length c_a0_worth], .slice A_a1 a1.length c_a1, .int .i64 a2]) Try.func61 rfl rfl rfl rfl ?_
  have H := Hp.start w
  have R0 := H.ext
  unfold cut_open at F
  refine CW.seq fun K1 hK1 => ?_
  refine CW.region ?_
  refine LW.go rfl rfl (OW.box rfl fun b1 w1 N1 => ?_)
  replace H := H.new N1 N1.blk
  replace R0 := H.ext
  refine LW.pure rfl rfl (RV.assign rfl) ?_
  refine LW.nil (hK1 _ _ ?_)
  refine CW.seq fun K2 hK2 => ?_
  obtain ⟨r1, hr1, F⟩ := bnd_some F
  refine CW.region ?_
  refine LW.pure rfl rfl (RV.move rfl) ?_
  refine LW.go rfl rfl (OW.call Tc87 rfl (slices_Clone_int_ok (a0 := a1) (h_a1.ext R0) hr1) ?_)
  rintro _ w2 ⟨A5_0, c5_0, rfl, E1⟩
  refine ⟨_, rfl, ?_⟩
  replace H : Hp w w2 [.own A5_0 c5_0 3 1 (List.map encN r1), .blk b1 24 [.slice A_a0_worth a0.worth.length c_a0_worth]] := H.append E1
  replace R0 := H.ext
  refine LW.pure rfl rfl (RV.assign rfl) ?_
  refine LW.nil (hK2 _ _ ?_)
  refine CW.seq fun K3 hK3 => ?_
  obtain ⟨x1, hbx1, hx1, F⟩ := ix_some F
  obtain ⟨hg1, F⟩ := gd_some F
  obtain ⟨x2, hbx2, hx2, F⟩ := ix_some F
  refine CW.region ?_
  refine LW.pure rfl rfl (RV.move rfl) ?_
  refine LW.pure rfl rfl (RV.move rfl) ?_
  refine LW.pure rfl rfl (RV.indexAddr Ts25 rfl rfl hbx1 ((H.own 0 rfl).sl.addr_ hx1)) ?_
  refine LW.pure rfl rfl (RV.load1 Tk3 rfl ((H.own 0 rfl).sl.at_ hx1) rfl) ?_
  refine LW.pure rfl rfl (RV.add rfl rfl hg1) ?_
  refine LW.pure rfl rfl (RV.indexAddr Ts25 rfl rfl hbx2 ((H.own 0 rfl).sl.addr_ hx2)) ?_
  refine LW.go rfl rfl (OW.storeO (enc := encN) (vs := [.int .i64 (x1 + 1)]) 0 (x1 + 1) Tk3 rfl rfl (H.own 0 rfl) (fun _ => rfl) rfl hx2 rfl rfl (by decide) rfl rfl fun w3 M1 O1 => ?_)
  replace H : Hp w w3 [.own A5_0 c5_0 3 1 (List.map encN ((r1.set (Int.toNat a2) (x1 + 1)))), .blk b1 24 [.slice A_a0_worth a0.worth.length c_a0_worth]] := H.mod 0 rfl M1 O1 (.inl rfl)
  replace R0 := H.ext
  refine LW.nil (hK3 _ _ ?_)
  refine CW.seq fun K4 hK4 => ?_
  obtain ⟨x3, hbx3, hx3, F⟩ := ix_some F
  obtain ⟨r2, hr2, F⟩ := bnd_some F
  by_cases hp1 : x3 ≤ r2
  ·
    replace F := ite_y hp1 F
    have hq1 := dec_t hp1
    obtain ⟨r3, hr3, F⟩ := bnd_some F
    refine CW.draw [] (fun _ => True) (.cons 0 1 (.cons 1 1 (.cons 2 1 (.cons 3 1 (.cons 4 1 (.cons 5 0 (.cons 6 1 (.cons 7 1 (.cons 8 1 (.cons 9 0 (.cons 10 1 (.cons 11 1 .nil)))))))))))) mixed (by kernel_rfl) fun w4 E2 => ?_
    replace H := H.grow E2
    replace R0 := H.ext
    refine DW.fix rfl rfl rfl (fun _ EQ => RV.move rfl) ?_
    refine DW.fix rfl rfl rfl (fun _ EQ => RV.move rfl) ?_
    refine DW.fix rfl rfl rfl (fun _ EQ => RV.indexAddr Ts25 rfl rfl (by first | exact hbx3 | (simp at hbx3 ⊢; omega)) ((H.own 0 rfl).sl.addr_ hx3)) ?_
    refine DW.fix rfl rfl rfl (fun _ EQ => RV.load1 Tk3 rfl (((H.grow EQ).own 0 rfl).sl.at_ hx3) rfl) ?_
    refine DW.fix rfl rfl rfl (fun _ EQ => RV.loadA [.slice A_a0_worth a0.worth.length c_a0_worth] Tk24 rfl ((H.grow EQ).blk 1 rfl).cells rfl rfl) ?_
    refine DW.sole rfl rfl rfl (OW.call Tc68 rfl (cut_depth_ok (a0 := a0) (h_a0_worth.ext R0) hr2) ?_)
    rintro _ w5 ⟨rfl, E3⟩
    refine ⟨_, rfl, fun _ => E3, ModX.ext E3, ?_⟩
    replace H := H.grow E3
    replace R0 := H.ext
    refine DW.fix rfl rfl rfl (fun _ EQ => RV.leq rfl rfl) ?_
    refine DW.fix rfl rfl rfl (fun _ EQ => RV.move rfl) ?_
    refine DW.fixYB rfl rfl rfl rfl rfl hq1 (fun _ EQ => RV.move rfl) ?_
    refine DW.soleYB rfl rfl rfl rfl rfl hq1 (OW.call Tc64 (evs_cast rfl (by first | rfl | (simp; done) | (simp; omega))) (cut_right_ok (a0 := (r1.set (Int.toNat a2) (x1 + 1))) (H.own 0 rfl).sl hr3) ?_)
    rintro _ w6 ⟨rfl, E4⟩
    refine ⟨_, rfl, fun _ => E4, ModX.ext E4, ?_⟩
    replace H := H.grow E4
    replace R0 := H.ext
    refine DW.fix rfl rfl rfl (fun _ EQ => RV.pickTB rfl hq1 rfl) ?_
    refine DW.fix rfl rfl rfl (fun _ EQ => RV.assign rfl) ?_
    refine DW.nil (hK4 _ _ ?_)
    refine CW.ret ?_
    obtain rfl := Option.some.inj F
    refine ⟨_, (ResOK.one rfl), ?_⟩
    refine ⟨(by first | rfl | simp), R0⟩
  ·
    replace F := ite_n hp1 F
    have hq1 := dec_f hp1
    refine CW.draw [] (fun _ => True) (.cons 0 1 (.cons 1 1 (.cons 2 1 (.cons 3 1 (.cons 4 1 (.cons 5 0 (.cons 6 1 (.cons 7 1 (.cons 8 1 (.cons 9 0 (.cons 10 1 (.cons 11 1 .nil)))))))))))) mixed (by kernel_rfl) fun w7 E5 => ?_
    replace H := H.grow E5
    replace R0 := H.ext
    refine DW.fix rfl rfl rfl (fun _ EQ => RV.move rfl) ?_
    refine DW.fix rfl rfl rfl (fun _ EQ => RV.move rfl) ?_
    refine DW.fix rfl rfl rfl (fun _ EQ => RV.indexAddr Ts25 rfl rfl (by first | exact hbx3 | (simp at hbx3 ⊢; omega)) ((H.own 0 rfl).sl.addr_ hx3)) ?_
    refine DW.fix rfl rfl rfl (fun _ EQ => RV.load1 Tk3 rfl (((H.grow EQ).own 0 rfl).sl.at_ hx3) rfl) ?_
    refine DW.fix rfl rfl rfl (fun _ EQ => RV.loadA [.slice A_a0_worth a0.worth.length c_a0_worth] Tk24 rfl ((H.grow EQ).blk 1 rfl).cells rfl rfl) ?_
    refine DW.sole rfl rfl rfl (OW.call Tc68 rfl (cut_depth_ok (a0 := a0) (h_a0_worth.ext R0) hr2) ?_)
    rintro _ w8 ⟨rfl, E6⟩
    refine ⟨_, rfl, fun _ => E6, ModX.ext E6, ?_⟩
    replace H := H.grow E6
    replace R0 := H.ext
    refine DW.fix rfl rfl rfl (fun _ EQ => RV.leq rfl rfl) ?_
    refine DW.fix rfl rfl rfl (fun _ EQ => RV.move rfl) ?_
    refine DW.fixNB rfl rfl rfl rfl rfl (ne_beq (v := false) hq1 rfl) ?_
    refine DW.soleNB rfl rfl rfl rfl rfl (ne_beq (v := false) hq1 rfl) ?_
    refine DW.fix rfl rfl rfl (fun _ EQ => RV.pickFB rfl hq1 rfl) ?_
    refine DW.fix rfl rfl rfl (fun _ EQ => RV.assign rfl) ?_
    refine DW.nil (hK4 _ _ ?_)
    refine CW.ret ?_
    obtain rfl := Option.some.inj F
    refine ⟨_, (ResOK.one rfl), ?_⟩
    refine ⟨(by first | rfl | simp), R0⟩
set_option maxRecDepth 20000 in
set_option maxHeartbeats 1000000 in
theorem cut_Open_ok {a0 : Bog} {a1 : List Int} {A_a0_worth : Option Addr} {c_a0_worth : Nat} {A_a1 : Option Addr} {c_a1 : Nat} {w : World} {res : (List Int) × Int} (h_a0_worth : Sl2 w A_a0_worth c_a0_worth 1 encN a0.worth) (h_a1 : Sl w A_a1 c_a1 1 (a1.map encN)) (F : cut_Open a0 a1 = some res) : Calls Try.prog 19 #[.agg #[.slice A_a0_worth a0.worth.length c_a0_worth], .slice A_a1 a1.length c_a1] w (fun e w' => ∃ (A1 : Option Addr) (c1 : Nat), e = .returned (.tuple #[.slice A1 res.1.length c1, .int .i64 res.2]) ∧ Hp w w' [.own A1 c1 3 1 (List.map encN res.1)]) := by
  refine calls_of_cw (args := [.agg #[.slice A_a0_worth a0.worth.length c_a0_worth], .slice A_a1 a1.length c_a1]) Try.func19 rfl rfl rfl rfl ?_
  have H := Hp.start w
  have R0 := H.ext
  unfold cut_Open at F
  refine CW.seq fun K1 hK1 => ?_
  refine CW.region ?_
  refine LW.go rfl rfl (OW.box rfl fun b1 w1 N1 => ?_)
  replace H := H.new N1 N1.blk
  replace R0 := H.ext
  refine LW.pure rfl rfl (RV.assign rfl) ?_
  refine LW.pure rfl rfl (RV.assign rfl) ?_
  refine LW.nil (hK1 _ _ ?_)
  refine CW.seq fun K2 hK2 => ?_
  refine CW.seq fun K3 hK3 => ?_
  obtain ⟨r2, hr2, F⟩ := bnd_some F
  refine CW.region ?_
  refine LW.pure rfl rfl (RV.loadA [.slice A_a0_worth a0.worth.length c_a0_worth] Tk24 rfl (H.blk 0 rfl).cells rfl rfl) ?_
  refine LW.pure rfl rfl (RV.move rfl) ?_
  refine LW.go rfl rfl (OW.call Tc22 rfl (cut_CheckHollow_ok (a0 := a0) (a1 := a1) (h_a0_worth.ext R0) (h_a1.ext R0) hr2) ?_)
  rintro _ w2 ⟨rfl, E1⟩
  refine ⟨_, rfl, ?_⟩
  replace H := H.grow E1
  replace R0 := H.ext
  refine LW.pure rfl rfl (RV.assign rfl) ?_
  refine LW.nil (hK3 _ _ ?_)
  refine CW.seq fun K4 hK4 => ?_
  refine CW.region ?_
  refine LW.pure rfl rfl (RV.move rfl) ?_
  refine LW.pure rfl rfl (RV.nei rfl rfl) ?_
  refine LW.nil (hK4 _ _ ?_)
  by_cases hp1 : r2 = 0
  ·
    replace F := ite_y hp1 F
    have hq1 := dec_t hp1
    refine CW.condF rfl (not_f hq1) ?_
    refine CW.skip (hK2 _ _ ?_)
    refine CW.seq fun K5 hK5 => ?_
    refine CW.region ?_
    refine LW.pure rfl rfl (RV.assign rfl) ?_
    refine LW.nil (hK5 _ _ ?_)
    refine CW.seqJ (fun ρ wl1 => (∃ (l1 : List Int) (Al1 : Option Addr) (cl1 : Nat), cut_Open_k1 l1 = some res ∧ ρ = [(4, .slice none 0 0), (5, .int .i64 0), (7, .slice Al1 l1.length cl1)] ∧ Hp w wl1 [.own Al1 cl1 3 1 (List.map encN l1)])) ?_ ?_
    ·
      rintro _ wl1 ⟨l1, Al1, cl1, F, rfl, H⟩
      have R0 := H.ext
      unfold cut_Open_k1 at F
      refine CW.seq fun K6 hK6 => ?_
      refine CW.region ?_
      refine LW.pure rfl rfl (RV.move rfl) ?_
      refine LW.pure rfl rfl (RV.assign rfl) ?_
      refine LW.pure rfl rfl (RV.assign rfl) ?_
      refine LW.nil (hK6 _ _ ?_)
      refine CW.ret ?_
      obtain rfl := Option.some.inj F
      refine ⟨_, (ResOK.two rfl rfl), ?_⟩
      exact ⟨Al1, cl1, (by first | rfl | (simp; done) | (simp; omega)), H⟩
    ·
      intro K7 hK7 jK81
      refine CW.seq fun K8 hK8 => ?_
      refine CW.region ?_
      refine LW.pure rfl rfl (RV.move rfl) ?_
      refine LW.pure rfl rfl (RV.len Ts25 rfl) ?_
      refine LW.pure rfl rfl (RV.move rfl) ?_
      refine LW.nil (hK8 _ _ ?_)
      refine CW.block ?_
      replace H := H.nilOwn 3 1
      replace R0 := H.ext
      refine CW.loop (fun meas ρ wl2 => ∃ (t17_1 : Int) (l3 : List Int) (Al3 : Option Addr) (cl3 : Nat), cut_Open_L1 a0 a1 meas t17_1 l3 = some res ∧ ρ = [(1, .slice A_a1 a1.length c_a1), (2, .pointer (some (⟨b1, 0, none⟩))), (4, .slice none 0 0), (5, .int .i64 0), (7, .slice Al3 l3.length cl3), (16, .int .i64 ((a1.length : Int))), (17, .int .i64 t17_1)] ∧ Hp w wl2 [.own Al3 cl3 3 1 (List.map encN l3), .blk b1 24 [.slice A_a0_worth a0.worth.length c_a0_worth]]) FU ⟨_, ?_, ((0 : Int)), (([] : List Int)), none, 0, F, rfl, H⟩ ?_
      · exact ⟨rfl, rfl, rfl, rfl, (look_slice rfl (by first | rfl | (simp; done) | (simp; omega))), rfl, rfl, trivial⟩
      rintro mk1 _ wl2 ⟨t17_1, l3, Al3, cl3, F, rfl, H⟩
      have R0 := H.ext
      replace F := cut_Open_L1_s F
      obtain ⟨mk1, rfl, F⟩ := F
      generalize hrec1 : cut_Open_L1 a0 a1 mk1 = rec1 at F
      unfold cut_Open_B1 at F
      refine CW.seq fun K9 hK9 => ?_
      refine CW.region ?_
      refine LW.pure rfl rfl (RV.lss rfl rfl) ?_
      refine LW.nil (hK9 _ _ ?_)
      refine CW.seq fun K10 hK10 => ?_
      by_cases hp2 : t17_1 < ((a1.length : Int))
      ·
        replace F := ite_y hp2 F
        have hq2 := dec_t hp2
        refine CW.condT rfl hq2 ?_
        refine CW.skip (hK10 _ _ ?_)
        refine CW.seqJ (fun ρ wl3 => (∃ (l2 : List Int) (Al2 : Option Addr) (cl2 : Nat), cut_Open_k2 t17_1 rec1 l2 = some res ∧ ρ = [(1, .slice A_a1 a1.length c_a1), (2, .pointer (some (⟨b1, 0, none⟩))), (4, .slice none 0 0), (5, .int .i64 0), (7, .slice Al2 l2.length cl2), (16, .int .i64 ((a1.length : Int))), (17, .int .i64 t17_1)] ∧ Hp w wl3 [.own Al2 cl2 3 1 (List.map encN l2), .blk b1 24 [.slice A_a0_worth a0.worth.length c_a0_worth]])) ?_ ?_
        ·
          rintro _ wl3 ⟨l2, Al2, cl2, F, rfl, H⟩
          have R0 := H.ext
          unfold cut_Open_k2 at F
          obtain ⟨hg1, F⟩ := gd_some F
          refine CW.region ?_
          refine LW.pure rfl rfl (RV.add rfl rfl hg1) ?_
          refine LW.pure rfl rfl (RV.move rfl) ?_
          refine LW.nil ?_
          subst hrec1
          refine ⟨mk1, Nat.lt_succ_self _, _, ?_, (t17_1 + 1), l2, Al2, cl2, F, rfl, H⟩
          exact ⟨rfl, rfl, rfl, rfl, (look_slice rfl (by first | rfl | (simp; done) | (simp; omega))), rfl, rfl, trivial⟩
        ·
          intro K11 hK11 jK101
          refine CW.block ?_
          refine CW.seq fun K12 hK12 => ?_
          refine CW.region ?_
          refine LW.pure rfl rfl (RV.move rfl) ?_
          refine LW.pure rfl rfl (RV.assign rfl) ?_
          refine LW.nil (hK12 _ _ ?_)
          refine CW.seq fun K13 hK13 => ?_
          obtain ⟨r1, hr1, F⟩ := bnd_some F
          refine CW.region ?_
          refine LW.pure rfl rfl (RV.loadA [.slice A_a0_worth a0.worth.length c_a0_worth] Tk24 rfl (H.blk 1 rfl).cells rfl rfl) ?_
          refine LW.pure rfl rfl (RV.move rfl) ?_
          refine LW.pure rfl rfl (RV.move rfl) ?_
          refine LW.go rfl rfl (OW.call Tc61 rfl (cut_open_ok (a0 := a0) (a1 := a1) (a2 := t17_1) (h_a0_worth.ext R0) (h_a1.ext R0) hr1) ?_)
          rintro _ w3 ⟨rfl, E2⟩
          refine ⟨_, rfl, ?_⟩
          replace H := H.grow E2
          replace R0 := H.ext
          refine LW.nil (hK13 _ _ ?_)
          by_cases hp3 : r1 = true
          ·
            replace F := ite_y hp3 F
            have hq3 : r1 = true := hp3
            refine CW.condT rfl hq3 ?_
            obtain ⟨hg2, F⟩ := gd_some F
            refine CW.region ?_
            refine LW.pure rfl rfl (RV.move rfl) ?_
            refine LW.pure rfl rfl (RV.move rfl) ?_
            refine LW.go rfl rfl (OW.buildSlice (e := 3) (vs := [.int .i64 t17_1]) (cs := [.int .i64 t17_1]) rfl (fun _ => by kernel_rfl) fun b2 w4 N2 => ?_)
            replace H := H.made' (k := 1) (t := 3) (enc := encN) (l := ([t17_1] : List Int)) N2 N2.blk (fun _ => rfl) rfl (by first | decide | omega | (simp; done) | (simp; omega))
            replace R0 := H.ext
            refine LW.go rfl rfl (OW.appendG (enc := encN) (l := l3) (xs := ([t17_1] : List Int)) Ts25 rfl (look_slice rfl (by first | rfl | (simp; done) | (simp; omega))) (H.own 1 rfl) (H.own 0 rfl).sl (fun _ => rfl) rfl rfl hg2 (by decide) fun A2 c2 w5 O1 M1 D1 => ?_)
            replace H : Hp w w5 [.own (some ⟨b2, 0, none⟩) ((([t17_1] : List Int)).length) 3 1 (List.map encN (([t17_1] : List Int))), .own A2 c2 3 1 (List.map encN ((l3 ++ ([t17_1] : List Int)))), .blk b1 24 [.slice A_a0_worth a0.worth.length c_a0_worth]] := H.mod 1 rfl M1 O1 D1
            replace R0 := H.ext
            refine LW.pure rfl rfl (RV.assign rfl) ?_
            replace H := H.pick (L' := [.own A2 c2 3 1 (List.map encN ((l3 ++ ([t17_1] : List Int)))), .blk b1 24 [.slice A_a0_worth a0.worth.length c_a0_worth]]) [1, 2] (by decide) rfl
            replace R0 := H.ext
            refine LW.nil (jK101 _ _ ⟨_, ?_, ⟨((l3 ++ ([t17_1] : List Int))), A2, c2, F, rfl, H⟩⟩)
            exact ⟨rfl, rfl, rfl, rfl, (look_slice rfl (by first | rfl | (simp; done) | (simp; omega))), rfl, rfl, trivial⟩
          ·
            replace F := ite_n hp3 F
            have hq3 : r1 = false := raw_f hp3
            refine CW.condF rfl hq3 ?_
            refine CW.skip (jK101 _ _ ⟨_, ?_, ⟨l3, Al3, cl3, F, rfl, H⟩⟩)
            exact ⟨rfl, rfl, rfl, rfl, (look_slice rfl (by first | rfl | (simp; done) | (simp; omega))), rfl, rfl, trivial⟩
      ·
        replace F := ite_n hp2 F
        have hq2 := dec_f hp2
        refine CW.condF rfl hq2 ?_
        replace H := H.pick (L' := [.own Al3 cl3 3 1 (List.map encN l3)]) [0] (by decide) rfl
        replace R0 := H.ext
        refine CW.exit (jK81 _ _ ⟨_, ?_, ⟨l3, Al3, cl3, F, rfl, H⟩⟩)
        exact ⟨rfl, rfl, (look_slice rfl (by first | rfl | (simp; done) | (simp; omega))), trivial⟩
  ·
    replace F := ite_n hp1 F
    have hq1 := dec_f hp1
    refine CW.condT rfl (not_t hq1) ?_
    refine CW.seq fun K14 hK14 => ?_
    refine CW.region ?_
    refine LW.pure rfl rfl (RV.move rfl) ?_
    refine LW.pure rfl rfl (RV.assign rfl) ?_
    refine LW.pure rfl rfl (RV.assign rfl) ?_
    refine LW.nil (hK14 _ _ ?_)
    refine CW.ret ?_
    obtain rfl := Option.some.inj F
    refine ⟨_, (ResOK.two rfl rfl), ?_⟩
    replace H := H.nilOwn 3 1
    replace R0 := H.ext
    replace H := H.pick (L' := [.own none 0 3 1 (List.map encN (([] : List Int)))]) [0] (by decide) rfl
    replace R0 := H.ext
    exact ⟨none, 0, (by first | rfl | (simp; done) | (simp; omega)), H⟩
set_option maxRecDepth 20000 in
set_option maxHeartbeats 1000000 in
theorem ref04_SameInts_ok {a0 : List Int} {a1 : List Int} {A_a0 : Option Addr} {c_a0 : Nat} {A_a1 : Option Addr} {c_a1 : Nat} {w : World} {res : Bool} (h_a0 : Sl w A_a0 c_a0 1 (a0.map encN)) (h_a1 : Sl w A_a1 c_a1 1 (a1.map encN)) (F : ref04_SameInts a0 a1 = some res) : Calls Try.prog 21 #[.slice A_a0 a0.length c_a0, .slice A_a1 a1.length c_a1] w (Rt w (.bool res)) := by
  refine calls_of_cw (args := [.slice A_a0 a0.length c_a0, .slice A_a1 a1.length c_a1]) Try.func21 rfl rfl rfl rfl ?_
  have H := Hp.start w
  have R0 := H.ext
  unfold ref04_SameInts at F
  refine CW.seq fun K1 hK1 => ?_
  refine CW.region ?_
  refine LW.pure rfl rfl (RV.assign rfl) ?_
  refine LW.nil (hK1 _ _ ?_)
  refine CW.seq fun K2 hK2 => ?_
  refine CW.seq fun K3 hK3 => ?_
  refine CW.region ?_
  refine LW.pure rfl rfl (RV.move rfl) ?_
  refine LW.pure rfl rfl (RV.len Ts25 rfl) ?_
  refine LW.pure rfl rfl (RV.move rfl) ?_
  refine LW.pure rfl rfl (RV.len Ts25 rfl) ?_
  refine LW.pure rfl rfl (RV.nei rfl rfl) ?_
  refine LW.nil (hK3 _ _ ?_)
  by_cases hp1 : ((a0.length : Int)) = ((a1.length : Int))
  ·
    replace F := ite_y hp1 F
    have hq1 := dec_t hp1
    refine CW.condF rfl (not_f hq1) ?_
    refine CW.skip (hK2 _ _ ?_)
    refine CW.seqJ (fun ρ wl1 => (ref04_SameInts_k1 = some res ∧ ρ = [(4, .bool false)] ∧ Hp w wl1 [])) ?_ ?_
    ·
      rintro _ wl1 ⟨F, rfl, H⟩
      have R0 := H.ext
      unfold ref04_SameInts_k1 at F
      refine CW.seq fun K4 hK4 => ?_
      refine CW.region ?_
      refine LW.pure rfl rfl (RV.assign rfl) ?_
      refine LW.nil (hK4 _ _ ?_)
      refine CW.ret ?_
      obtain rfl := Option.some.inj F
      refine ⟨_, (ResOK.one rfl), ?_⟩
      refine ⟨(by first | rfl | simp), R0⟩
    ·
      intro K5 hK5 jK59
      refine CW.seq fun K6 hK6 => ?_
      refine CW.region ?_
      refine LW.pure rfl rfl (RV.assign rfl) ?_
      refine LW.nil (hK6 _ _ ?_)
      refine CW.block ?_
      refine CW.loop (fun meas ρ wl2 => ∃ (t5_1 : Int), ref04_SameInts_L1 a0 a1 meas t5_1 = some res ∧ ρ = [(0, .slice A_a0 a0.length c_a0), (1, .slice A_a1 a1.length c_a1), (4, .bool false), (5, .int .i64 t5_1)] ∧ Hp w wl2 []) FU ⟨_, ?_, ((0 : Int)), F, rfl, H⟩ ?_
      · exact ⟨rfl, rfl, rfl, rfl, trivial⟩
      rintro mk1 _ wl2 ⟨t5_1, F, rfl, H⟩
      have R0 := H.ext
      replace F := ref04_SameInts_L1_s F
      obtain ⟨mk1, rfl, F⟩ := F
      generalize hrec1 : ref04_SameInts_L1 a0 a1 mk1 = rec1 at F
      unfold ref04_SameInts_B1 at F
      refine CW.seq fun K7 hK7 => ?_
      refine CW.seq fun K8 hK8 => ?_
      refine CW.region ?_
      refine LW.pure rfl rfl (RV.move rfl) ?_
      refine LW.pure rfl rfl (RV.move rfl) ?_
      refine LW.pure rfl rfl (RV.len Ts25 rfl) ?_
      refine LW.pure rfl rfl (RV.lss rfl rfl) ?_
      refine LW.nil (hK8 _ _ ?_)
      by_cases hp2 : t5_1 < ((a0.length : Int))
      ·
        replace F := ite_y hp2 F
        have hq2 := dec_t hp2
        refine CW.condT rfl hq2 ?_
        refine CW.skip (hK7 _ _ ?_)
        refine CW.seq fun K9 hK9 => ?_
        refine CW.block ?_
        refine CW.seq fun K10 hK10 => ?_
        obtain ⟨x1, hbx1, hx1, F⟩ := ix_some F
        obtain ⟨x2, hbx2, hx2, F⟩ := ix_some F
        refine CW.draw [] (fun _ => True) (.cons 0 1 (.cons 1 1 (.cons 2 1 (.cons 3 1 (.cons 4 1 (.cons 5 1 (.cons 6 1 (.cons 7 1 (.cons 8 1 .nil))))))))) mixed (by kernel_rfl) fun w1 E1 => ?_
        replace H := H.grow E1
        replace R0 := H.ext
        refine DW.fix rfl rfl rfl (fun _ EQ => RV.move rfl) ?_
        refine DW.fix rfl rfl rfl (fun _ EQ => RV.move rfl) ?_
        refine DW.fix rfl rfl rfl (fun _ EQ => RV.indexAddr Ts25 rfl rfl hbx1 (h_a0.addr_ hx1)) ?_
        refine DW.fix rfl rfl rfl (fun _ EQ => RV.load1 Tk3 rfl ((h_a0.at_ hx1).ext (R0.trans EQ)) rfl) ?_
        refine DW.fix rfl rfl rfl (fun _ EQ => RV.move rfl) ?_
        refine DW.fix rfl rfl rfl (fun _ EQ => RV.move rfl) ?_
        refine DW.fix rfl rfl rfl (fun _ EQ => RV.indexAddr Ts25 rfl rfl hbx2 (h_a1.addr_ hx2)) ?_
        refine DW.fix rfl rfl rfl (fun _ EQ => RV.load1 Tk3 rfl ((h_a1.at_ hx2).ext (R0.trans EQ)) rfl) ?_
        refine DW.fix rfl rfl rfl (fun _ EQ => RV.nei rfl rfl) ?_
        refine DW.nil (hK10 _ _ ?_)
        by_cases hp3 : x1 = x2
        ·
          replace F := ite_y hp3 F
          have hq3 := dec_t hp3
          refine CW.condF rfl (not_f hq3) ?_
          refine CW.skip (hK9 _ _ ?_)
          obtain ⟨hg1, F⟩ := gd_some F
          refine CW.region ?_
          refine LW.pure rfl rfl (RV.move rfl) ?_
          refine LW.pure rfl rfl (RV.add rfl rfl hg1) ?_
          refine LW.pure rfl rfl (RV.assign rfl) ?_
          refine LW.nil ?_
          subst hrec1
          refine ⟨mk1, Nat.lt_succ_self _, _, ?_, (t5_1 + 1), F, rfl, H⟩
          exact ⟨rfl, rfl, rfl, rfl, trivial⟩
        ·
          replace F := ite_n hp3 F
          have hq3 := dec_f hp3
          refine CW.condT rfl (not_t hq3) ?_
          refine CW.seq fun K11 hK11 => ?_
          refine CW.region ?_
          refine LW.pure rfl rfl (RV.assign rfl) ?_
          refine LW.nil (hK11 _ _ ?_)
          refine CW.ret ?_
          obtain rfl := Option.some.inj F
          refine ⟨_, (ResOK.one rfl), ?_⟩
          refine ⟨(by first | rfl | simp), R0⟩
      ·
        replace F := ite_n hp2 F
        have hq2 := dec_f hp2
        refine CW.condF rfl hq2 ?_
        refine CW.exit (jK59 _ _ ⟨_, ?_, ⟨F, rfl, H⟩⟩)
        exact ⟨rfl, trivial⟩
  ·
    replace F := ite_n hp1 F
    have hq1 := dec_f hp1
    refine CW.condT rfl (not_t hq1) ?_
    refine CW.seq fun K12 hK12 => ?_
    refine CW.region ?_
    refine LW.pure rfl rfl (RV.assign rfl) ?_
    refine LW.nil (hK12 _ _ ?_)
    refine CW.ret ?_
    obtain rfl := Option.some.inj F
    refine ⟨_, (ResOK.one rfl), ?_⟩
    refine ⟨(by first | rfl | simp), R0⟩
set_option maxRecDepth 20000 in
set_option maxHeartbeats 1000000 in
theorem law04_sane_ok {w : World} {res : Bool} (F : law04_sane = some res) : Calls Try.prog 18 #[] w (Rt w (.bool res)) := by
  refine calls_of_cw (args := []) Try.func18 rfl rfl rfl rfl ?_
  have H := Hp.start w
  have R0 := H.ext
  unfold law04_sane at F
  refine CW.seq fun K1 hK1 => ?_
  refine CW.region ?_
  refine LW.pure rfl rfl (RV.assign rfl) ?_
  refine LW.nil (hK1 _ _ ?_)
  refine CW.seq fun K2 hK2 => ?_
  obtain ⟨r1, hr1, F⟩ := bnd_some F
  refine CW.region ?_
  refine LW.go rfl rfl (OW.buildSlice (e := 3) (vs := [.int .i64 (-3), .int .i64 5]) (cs := [.int .i64 (-3), .int .i64 5]) rfl (fun _ => by kernel_rfl) fun b1 w1 N1 => ?_)
  replace H := H.made' (k := 1) (t := 3) (enc := encN) (l := ([-3, 5] : List Int)) N1 N1.blk (fun _ => rfl) rfl (by first | decide | omega | (simp; done) | (simp; omega))
  replace R0 := H.ext
  refine LW.go rfl rfl (OW.buildSlice (e := 25) (vs := [.slice (some ⟨b1, 0, none⟩) 2 ((([-3, 5] : List Int)).length)]) (cs := [.slice (some ⟨b1, 0, none⟩) 2 ((([-3, 5] : List Int)).length)]) rfl (fun _ => by kernel_rfl) fun b2 w2 N2 => ?_)
  replace H := H.made' (k := 1) (t := 25) (enc := encH) (l := ([((some ⟨b1, 0, none⟩, (([-3, 5] : List Int)).length), ([-3, 5] : List Int))] : List ((Option Addr × Nat) × List Int))) N2 (by have q := N2.blk; simp only [List.flatMap_cons, List.flatMap_nil, encH, List.length_nil, List.append_nil, List.cons_append, List.nil_append]; first | done | exact q) (fun _ => rfl) rfl (by first | decide | omega | (simp; done) | (simp; omega))
  replace R0 := H.ext
  have hS25 : Sl2 w2 (some ⟨b2, 0, none⟩) 1 1 encN [([-3, 5] : List Int)] := Sl2.one (H.own 0 rfl).sl (H.own 1 rfl).sl
  refine LW.pure rfl rfl (RV.build (vs := [.slice (some ⟨b2, 0, none⟩) 1 1]) (cs := [.slice (some ⟨b2, 0, none⟩) 1 1]) rfl (fun _ => by kernel_rfl)) ?_
  refine LW.go rfl rfl (OW.call Tc28 (evs_cast rfl (by first | rfl | (simp; done) | (simp; omega))) (cut_Best_ok (a0 := (⟨([([-3, 5] : List Int)] : List (List Int))⟩ : Bog)) hS25 hr1) ?_)
  rintro _ w3 ⟨A7_0, c7_0, rfl, E1⟩
  refine ⟨_, rfl, ?_⟩
  have hS25 := hS25.ext E1.ext
  replace H : Hp w w3 [.own A7_0 c7_0 3 1 (List.map encN r1.1), .own (some ⟨b2, 0, none⟩) ((([((some ⟨b1, 0, none⟩, (([-3, 5] : List Int)).length), ([-3, 5] : List Int))] : List ((Option Addr × Nat) × List Int))).length) 25 1 (List.map encH (([((some ⟨b1, 0, none⟩, (([-3, 5] : List Int)).length), ([-3, 5] : List Int))] : List ((Option Addr × Nat) × List Int)))), .own (some ⟨b1, 0, none⟩) ((([-3, 5] : List Int)).length) 3 1 (List.map encN (([-3, 5] : List Int)))] := H.append E1
  replace R0 := H.ext
  refine LW.pure rfl rfl (RV.move rfl) ?_
  refine LW.pure rfl rfl (RV.extract rfl rfl) ?_
  refine LW.pure rfl rfl (RV.extract rfl rfl) ?_
  refine LW.pure rfl rfl (RV.extract rfl rfl) ?_
  refine LW.pure rfl rfl (RV.assign rfl) ?_
  refine LW.pure rfl rfl (RV.assign rfl) ?_
  refine LW.pure rfl rfl (RV.assign rfl) ?_
  refine LW.nil (hK2 _ _ ?_)
  refine CW.seq fun K3 hK3 => ?_
  obtain ⟨r2, hr2, F⟩ := bnd_some F
  refine CW.region ?_
  refine LW.go rfl rfl (OW.buildSlice (e := 3) (vs := [.int .i64 1, .int .i64 1]) (cs := [.int .i64 1, .int .i64 1]) rfl (fun _ => by kernel_rfl) fun b3 w4 N3 => ?_)
  have hS25 := hS25.ext N3.ext
  replace H := H.made' (k := 1) (t := 3) (enc := encN) (l := ([1, 1] : List Int)) N3 N3.blk (fun _ => rfl) rfl (by first | decide | omega | (simp; done) | (simp; omega))
  replace R0 := H.ext
  refine LW.go rfl rfl (OW.buildSlice (e := 3) (vs := [.int .i64 1, .int .i64 1]) (cs := [.int .i64 1, .int .i64 1]) rfl (fun _ => by kernel_rfl) fun b4 w5 N4 => ?_)
  have hS25 := hS25.ext N4.ext
  replace H := H.made' (k := 1) (t := 3) (enc := encN) (l := ([1, 1] : List Int)) N4 N4.blk (fun _ => rfl) rfl (by first | decide | omega | (simp; done) | (simp; omega))
  replace R0 := H.ext
  refine LW.go rfl rfl (OW.buildSlice (e := 25) (vs := [.slice (some ⟨b3, 0, none⟩) 2 ((([1, 1] : List Int)).length), .slice (some ⟨b4, 0, none⟩) 2 ((([1, 1] : List Int)).length)]) (cs := [.slice (some ⟨b3, 0, none⟩) 2 ((([1, 1] : List Int)).length), .slice (some ⟨b4, 0, none⟩) 2 ((([1, 1] : List Int)).length)]) rfl (fun _ => by kernel_rfl) fun b5 w6 N5 => ?_)
  have hS25 := hS25.ext N5.ext
  replace H := H.made' (k := 1) (t := 25) (enc := encH) (l := ([((some ⟨b3, 0, none⟩, (([1, 1] : List Int)).length), ([1, 1] : List Int)), ((some ⟨b4, 0, none⟩, (([1, 1] : List Int)).length), ([1, 1] : List Int))] : List ((Option Addr × Nat) × List Int))) N5 (by have q := N5.blk; simp only [List.flatMap_cons, List.flatMap_nil, encH, List.length_nil, List.append_nil, List.cons_append, List.nil_append]; first | done | exact q) (fun _ => rfl) rfl (by first | decide | omega | (simp; done) | (simp; omega))
  replace R0 := H.ext
  have hS27 : Sl2 w6 (some ⟨b5, 0, none⟩) 2 1 encN [([1, 1] : List Int), ([1, 1] : List Int)] := Sl2.two (H.own 0 rfl).sl (H.own 2 rfl).sl (H.own 1 rfl).sl
  refine LW.pure rfl rfl (RV.build (vs := [.slice (some ⟨b5, 0, none⟩) 2 2]) (cs := [.slice (some ⟨b5, 0, none⟩) 2 2]) rfl (fun _ => by kernel_rfl)) ?_
  refine LW.go rfl rfl (OW.call Tc49 (evs_cast rfl (by first | rfl | (simp; done) | (simp; omega))) (cut_Count_ok (a0 := (⟨([([1, 1] : List Int), ([1, 1] : List Int)] : List (List Int))⟩ : Bog)) hS27 hr2) ?_)
  rintro _ w7 ⟨rfl, E2⟩
  refine ⟨_, rfl, ?_⟩
  have hS25 := hS25.ext E2
  have hS27 := hS27.ext E2
  replace H := H.grow E2
  replace R0 := H.ext
  refine LW.pure rfl rfl (RV.move rfl) ?_
  refine LW.pure rfl rfl (RV.extract rfl rfl) ?_
  refine LW.pure rfl rfl (RV.extract rfl rfl) ?_
  refine LW.pure rfl rfl (RV.assign rfl) ?_
  refine LW.pure rfl rfl (RV.assign rfl) ?_
  refine LW.nil (hK3 _ _ ?_)
  refine CW.seq fun K4 hK4 => ?_
  obtain ⟨r3, hr3, F⟩ := bnd_some F
  refine CW.region ?_
  refine LW.go rfl rfl (OW.buildSlice (e := 3) (vs := [.int .i64 0]) (cs := [.int .i64 0]) rfl (fun _ => by kernel_rfl) fun b6 w8 N6 => ?_)
  have hS25 := hS25.ext N6.ext
  have hS27 := hS27.ext N6.ext
  replace H := H.made' (k := 1) (t := 3) (enc := encN) (l := ([0] : List Int)) N6 N6.blk (fun _ => rfl) rfl (by first | decide | omega | (simp; done) | (simp; omega))
  replace R0 := H.ext
  refine LW.go rfl rfl (OW.buildSlice (e := 3) (vs := [.int .i64 0]) (cs := [.int .i64 0]) rfl (fun _ => by kernel_rfl) fun b7 w9 N7 => ?_)
  have hS25 := hS25.ext N7.ext
  have hS27 := hS27.ext N7.ext
  replace H := H.made' (k := 1) (t := 3) (enc := encN) (l := ([0] : List Int)) N7 N7.blk (fun _ => rfl) rfl (by first | decide | omega | (simp; done) | (simp; omega))
  replace R0 := H.ext
  refine LW.go rfl rfl (OW.buildSlice (e := 3) (vs := [.int .i64 0]) (cs := [.int .i64 0]) rfl (fun _ => by kernel_rfl) fun b8 w10 N8 => ?_)
  have hS25 := hS25.ext N8.ext
  have hS27 := hS27.ext N8.ext
  replace H := H.made' (k := 1) (t := 3) (enc := encN) (l := ([0] : List Int)) N8 N8.blk (fun _ => rfl) rfl (by first | decide | omega | (simp; done) | (simp; omega))
  replace R0 := H.ext
  refine LW.go rfl rfl (OW.buildSlice (e := 25) (vs := [.slice (some ⟨b6, 0, none⟩) 1 ((([0] : List Int)).length), .slice (some ⟨b7, 0, none⟩) 1 ((([0] : List Int)).length), .slice (some ⟨b8, 0, none⟩) 1 ((([0] : List Int)).length)]) (cs := [.slice (some ⟨b6, 0, none⟩) 1 ((([0] : List Int)).length), .slice (some ⟨b7, 0, none⟩) 1 ((([0] : List Int)).length), .slice (some ⟨b8, 0, none⟩) 1 ((([0] : List Int)).length)]) rfl (fun _ => by kernel_rfl) fun b9 w11 N9 => ?_)
  have hS25 := hS25.ext N9.ext
  have hS27 := hS27.ext N9.ext
  replace H := H.made' (k := 1) (t := 25) (enc := encH) (l := ([((some ⟨b6, 0, none⟩, (([0] : List Int)).length), ([0] : List Int)), ((some ⟨b7, 0, none⟩, (([0] : List Int)).length), ([0] : List Int)), ((some ⟨b8, 0, none⟩, (([0] : List Int)).length), ([0] : List Int))] : List ((Option Addr × Nat) × List Int))) N9 (by have q := N9.blk; simp only [List.flatMap_cons, List.flatMap_nil, encH, List.length_nil, List.append_nil, List.cons_append, List.nil_append]; first | done | exact q) (fun _ => rfl) rfl (by first | decide | omega | (simp; done) | (simp; omega))
  replace R0 := H.ext
  have hS29 : Sl2 w11 (some ⟨b9, 0, none⟩) 3 1 encN [([0] : List Int), ([0] : List Int), ([0] : List Int)] := Sl2.three (H.own 0 rfl).sl (H.own 3 rfl).sl (H.own 2 rfl).sl (H.own 1 rfl).sl
  refine LW.pure rfl rfl (RV.build (vs := [.slice (some ⟨b9, 0, none⟩) 3 3]) (cs := [.slice (some ⟨b9, 0, none⟩) 3 3]) rfl (fun _ => by kernel_rfl)) ?_
  refine LW.go rfl rfl (OW.buildSlice (e := 3) (vs := [.int .i64 1, .int .i64 0, .int .i64 0]) (cs := [.int .i64 1, .int .i64 0, .int .i64 0]) rfl (fun _ => by kernel_rfl) fun b10 w12 N10 => ?_)
  have hS25 := hS25.ext N10.ext
  have hS27 := hS27.ext N10.ext
  have hS29 := hS29.ext N10.ext
  replace H := H.made' (k := 1) (t := 3) (enc := encN) (l := ([1, 0, 0] : List Int)) N10 N10.blk (fun _ => rfl) rfl (by first | decide | omega | (simp; done) | (simp; omega))
  replace R0 := H.ext
  refine LW.go rfl rfl (OW.call Tc19 (evs_cast rfl (by first | rfl | (simp; done) | (simp; omega))) (cut_Open_ok (a0 := (⟨([([0] : List Int), ([0] : List Int), ([0] : List Int)] : List (List Int))⟩ : Bog)) (a1 := ([1, 0, 0] : List Int)) hS29 (H.own 0 rfl).sl hr3) ?_)
  rintro _ w13 ⟨A11_0, c11_0, rfl, E3⟩
  refine ⟨_, rfl, ?_⟩
  have hS25 := hS25.ext E3.ext
  have hS27 := hS27.ext E3.ext
  have hS29 := hS29.ext E3.ext
  replace H : Hp w w13 [.own A11_0 c11_0 3 1 (List.map encN r3.1), .own (some ⟨b10, 0, none⟩) ((([1, 0, 0] : List Int)).length) 3 1 (List.map encN (([1, 0, 0] : List Int))), .own (some ⟨b9, 0, none⟩) ((([((some ⟨b6, 0, none⟩, (([0] : List Int)).length), ([0] : List Int)), ((some ⟨b7, 0, none⟩, (([0] : List Int)).length), ([0] : List Int)), ((some ⟨b8, 0, none⟩, (([0] : List Int)).length), ([0] : List Int))] : List ((Option Addr × Nat) × List Int))).length) 25 1 (List.map encH (([((some ⟨b6, 0, none⟩, (([0] : List Int)).length), ([0] : List Int)), ((some ⟨b7, 0, none⟩, (([0] : List Int)).length), ([0] : List Int)), ((some ⟨b8, 0, none⟩, (([0] : List Int)).length), ([0] : List Int))] : List ((Option Addr × Nat) × List Int)))), .own (some ⟨b8, 0, none⟩) ((([0] : List Int)).length) 3 1 (List.map encN (([0] : List Int))), .own (some ⟨b7, 0, none⟩) ((([0] : List Int)).length) 3 1 (List.map encN (([0] : List Int))), .own (some ⟨b6, 0, none⟩) ((([0] : List Int)).length) 3 1 (List.map encN (([0] : List Int))), .own (some ⟨b5, 0, none⟩) ((([((some ⟨b3, 0, none⟩, (([1, 1] : List Int)).length), ([1, 1] : List Int)), ((some ⟨b4, 0, none⟩, (([1, 1] : List Int)).length), ([1, 1] : List Int))] : List ((Option Addr × Nat) × List Int))).length) 25 1 (List.map encH (([((some ⟨b3, 0, none⟩, (([1, 1] : List Int)).length), ([1, 1] : List Int)), ((some ⟨b4, 0, none⟩, (([1, 1] : List Int)).length), ([1, 1] : List Int))] : List ((Option Addr × Nat) × List Int)))), .own (some ⟨b4, 0, none⟩) ((([1, 1] : List Int)).length) 3 1 (List.map encN (([1, 1] : List Int))), .own (some ⟨b3, 0, none⟩) ((([1, 1] : List Int)).length) 3 1 (List.map encN (([1, 1] : List Int))), .own A7_0 c7_0 3 1 (List.map encN r1.1), .own (some ⟨b2, 0, none⟩) ((([((some ⟨b1, 0, none⟩, (([-3, 5] : List Int)).length), ([-3, 5] : List Int))] : List ((Option Addr × Nat) × List Int))).length) 25 1 (List.map encH (([((some ⟨b1, 0, none⟩, (([-3, 5] : List Int)).length), ([-3, 5] : List Int))] : List ((Option Addr × Nat) × List Int)))), .own (some ⟨b1, 0, none⟩) ((([-3, 5] : List Int)).length) 3 1 (List.map encN (([-3, 5] : List Int)))] := H.append E3
  replace R0 := H.ext
  refine LW.pure rfl rfl (RV.move rfl) ?_
  refine LW.pure rfl rfl (RV.extract rfl rfl) ?_
  refine LW.pure rfl rfl (RV.extract rfl rfl) ?_
  refine LW.pure rfl rfl (RV.assign rfl) ?_
  refine LW.pure rfl rfl (RV.assign rfl) ?_
  refine LW.nil (hK4 _ _ ?_)
  refine CW.seq fun K5 hK5 => ?_
  by_cases hp1 : r1.2.2 = 0
  ·
    replace F := ite_y hp1 F
    have hq1 := dec_t hp1
    by_cases hp2 : r1.2.1 = 2
    ·
      replace F := ite_y hp2 F
      have hq2 := dec_t hp2
      obtain ⟨r4, hr4, F⟩ := bnd_some F
      by_cases hp3 : r4 = true
      ·
        replace F := ite_y hp3 F
        have hq3 : r4 = true := hp3
        by_cases hp4 : r2.2 = 0
        ·
          replace F := ite_y hp4 F
          have hq4 := dec_t hp4
          by_cases hp5 : r2.1 = 7
          ·
            replace F := ite_y hp5 F
            have hq5 := dec_t hp5
            by_cases hp6 : r3.2 = 0
            ·
              replace F := ite_y hp6 F
              have hq6 := dec_t hp6
              obtain ⟨r5, hr5, F⟩ := bnd_some F
              refine CW.region ?_
              refine LW.pure rfl rfl (RV.move rfl) ?_
              refine LW.pure rfl rfl (RV.eqi rfl rfl) ?_
              refine LW.pure rfl rfl (RV.move rfl) ?_
              refine LW.pureYB rfl rfl rfl rfl hq1 (RV.move rfl) ?_
              refine LW.pureYB rfl rfl rfl rfl hq1 (RV.eqi rfl rfl) ?_
              refine LW.pure rfl rfl (RV.pickTB rfl hq1 rfl) ?_
              refine LW.pure rfl rfl (RV.move rfl) ?_
              refine LW.pureYB rfl rfl rfl rfl hq2 (RV.move rfl) ?_
              refine LW.yesB rfl rfl rfl rfl hq2 (OW.buildSlice (e := 3) (vs := [.int .i64 2]) (cs := [.int .i64 2]) rfl (fun _ => by kernel_rfl) fun b11 w14 N11 => ?_)
              have hS25 := hS25.ext N11.ext
              have hS27 := hS27.ext N11.ext
              have hS29 := hS29.ext N11.ext
              replace H := H.made' (k := 1) (t := 3) (enc := encN) (l := ([2] : List Int)) N11 N11.blk (fun _ => rfl) rfl (by first | decide | omega | (simp; done) | (simp; omega))
              replace R0 := H.ext
              refine LW.yesB rfl rfl rfl rfl hq2 (OW.call Tc21 (evs_cast rfl (by first | rfl | (simp; done) | (simp; omega))) (ref04_SameInts_ok (a0 := r1.1) (a1 := ([2] : List Int)) (H.own 10 rfl).sl (H.own 0 rfl).sl hr4) ?_)
              rintro _ w15 ⟨rfl, E4⟩
              refine ⟨_, rfl, ?_⟩
              have hS25 := hS25.ext E4
              have hS27 := hS27.ext E4
              have hS29 := hS29.ext E4
              replace H := H.grow E4
              replace R0 := H.ext
              refine LW.pure rfl rfl (RV.pickTB rfl hq2 rfl) ?_
              refine LW.pure rfl rfl (RV.move rfl) ?_
              refine LW.pureYB rfl rfl rfl rfl hq3 (RV.move rfl) ?_
              refine LW.pureYB rfl rfl rfl rfl hq3 (RV.eqi rfl rfl) ?_
              refine LW.pure rfl rfl (RV.pickTB rfl hq3 rfl) ?_
              refine LW.pure rfl rfl (RV.move rfl) ?_
              refine LW.pureYB rfl rfl rfl rfl hq4 (RV.move rfl) ?_
              refine LW.pureYB rfl rfl rfl rfl hq4 (RV.eqi rfl rfl) ?_
              refine LW.pure rfl rfl (RV.pickTB rfl hq4 rfl) ?_
              refine LW.pure rfl rfl (RV.move rfl) ?_
              refine LW.pureYB rfl rfl rfl rfl hq5 (RV.move rfl) ?_
              refine LW.pureYB rfl rfl rfl rfl hq5 (RV.eqi rfl rfl) ?_
              refine LW.pure rfl rfl (RV.pickTB rfl hq5 rfl) ?_
              refine LW.pure rfl rfl (RV.move rfl) ?_
              refine LW.pureYB rfl rfl rfl rfl hq6 (RV.move rfl) ?_
              refine LW.yesB rfl rfl rfl rfl hq6 (OW.buildSlice (e := 3) (vs := [.int .i64 1, .int .i64 2]) (cs := [.int .i64 1, .int .i64 2]) rfl (fun _ => by kernel_rfl) fun b12 w16 N12 => ?_)
              have hS25 := hS25.ext N12.ext
              have hS27 := hS27.ext N12.ext
              have hS29 := hS29.ext N12.ext
              replace H := H.made' (k := 1) (t := 3) (enc := encN) (l := ([1, 2] : List Int)) N12 N12.blk (fun _ => rfl) rfl (by first | decide | omega | (simp; done) | (simp; omega))
              replace R0 := H.ext
              refine LW.yesB rfl rfl rfl rfl hq6 (OW.call Tc21 (evs_cast rfl (by first | rfl | (simp; done) | (simp; omega))) (ref04_SameInts_ok (a0 := r3.1) (a1 := ([1, 2] : List Int)) (H.own 2 rfl).sl (H.own 0 rfl).sl hr5) ?_)
              rintro _ w17 ⟨rfl, E5⟩
              refine ⟨_, rfl, ?_⟩
              have hS25 := hS25.ext E5
              have hS27 := hS27.ext E5
              have hS29 := hS29.ext E5
              replace H := H.grow E5
              replace R0 := H.ext
              refine LW.pure rfl rfl (RV.pickTB rfl hq6 rfl) ?_
              refine LW.pure rfl rfl (RV.assign rfl) ?_
              refine LW.nil (hK5 _ _ ?_)
              refine CW.ret ?_
              obtain rfl := Option.some.inj F
              refine ⟨_, (ResOK.one rfl), ?_⟩
              refine ⟨(by first | rfl | simp), R0⟩
            ·
              replace F := ite_n hp6 F
              have hq6 := dec_f hp6
              refine CW.region ?_
              refine LW.pure rfl rfl (RV.move rfl) ?_
              refine LW.pure rfl rfl (RV.eqi rfl rfl) ?_
              refine LW.pure rfl rfl (RV.move rfl) ?_
              refine LW.pureYB rfl rfl rfl rfl hq1 (RV.move rfl) ?_
              refine LW.pureYB rfl rfl rfl rfl hq1 (RV.eqi rfl rfl) ?_
              refine LW.pure rfl rfl (RV.pickTB rfl hq1 rfl) ?_
              refine LW.pure rfl rfl (RV.move rfl) ?_
              refine LW.pureYB rfl rfl rfl rfl hq2 (RV.move rfl) ?_
              refine LW.yesB rfl rfl rfl rfl hq2 (OW.buildSlice (e := 3) (vs := [.int .i64 2]) (cs := [.int .i64 2]) rfl (fun _ => by kernel_rfl) fun b13 w18 N13 => ?_)
              have hS25 := hS25.ext N13.ext
              have hS27 := hS27.ext N13.ext
              have hS29 := hS29.ext N13.ext
              replace H := H.made' (k := 1) (t := 3) (enc := encN) (l := ([2] : List Int)) N13 N13.blk (fun _ => rfl) rfl (by first | decide | omega | (simp; done) | (simp; omega))
              replace R0 := H.ext
              refine LW.yesB rfl rfl rfl rfl hq2 (OW.call Tc21 (evs_cast rfl (by first | rfl | (simp; done) | (simp; omega))) (ref04_SameInts_ok (a0 := r1.1) (a1 := ([2] : List Int)) (H.own 10 rfl).sl (H.own 0 rfl).sl hr4) ?_)
              rintro _ w19 ⟨rfl, E6⟩
              refine ⟨_, rfl, ?_⟩
              have hS25 := hS25.ext E6
              have hS27 := hS27.ext E6
              have hS29 := hS29.ext E6
              replace H := H.grow E6
              replace R0 := H.ext
              refine LW.pure rfl rfl (RV.pickTB rfl hq2 rfl) ?_
              refine LW.pure rfl rfl (RV.move rfl) ?_
              refine LW.pureYB rfl rfl rfl rfl hq3 (RV.move rfl) ?_
              refine LW.pureYB rfl rfl rfl rfl hq3 (RV.eqi rfl rfl) ?_
              refine LW.pure rfl rfl (RV.pickTB rfl hq3 rfl) ?_
              refine LW.pure rfl rfl (RV.move rfl) ?_
              refine LW.pureYB rfl rfl rfl rfl hq4 (RV.move rfl) ?_
              refine LW.pureYB rfl rfl rfl rfl hq4 (RV.eqi rfl rfl) ?_
              refine LW.pure rfl rfl (RV.pickTB rfl hq4 rfl) ?_
              refine LW.pure rfl rfl (RV.move rfl) ?_
              refine LW.pureYB rfl rfl rfl rfl hq5 (RV.move rfl) ?_
              refine LW.pureYB rfl rfl rfl rfl hq5 (RV.eqi rfl rfl) ?_
              refine LW.pure rfl rfl (RV.pickTB rfl hq5 rfl) ?_
              refine LW.pure rfl rfl (RV.move rfl) ?_
              refine LW.noB rfl rfl rfl rfl (ne_beq (v := false) hq6 rfl) ?_
              refine LW.noB rfl rfl rfl rfl (ne_beq (v := false) hq6 rfl) ?_
              refine LW.noB rfl rfl rfl rfl (ne_beq (v := false) hq6 rfl) ?_
              refine LW.pure rfl rfl (RV.pickFB rfl hq6 rfl) ?_
              refine LW.pure rfl rfl (RV.assign rfl) ?_
              refine LW.nil (hK5 _ _ ?_)
              refine CW.ret ?_
              obtain rfl := Option.some.inj F
              refine ⟨_, (ResOK.one rfl), ?_⟩
              refine ⟨(by first | rfl | simp), R0⟩
          ·
            replace F := ite_n hp5 F
            have hq5 := dec_f hp5
            refine CW.region ?_
            refine LW.pure rfl rfl (RV.move rfl) ?_
            refine LW.pure rfl rfl (RV.eqi rfl rfl) ?_
            refine LW.pure rfl rfl (RV.move rfl) ?_
            refine LW.pureYB rfl rfl rfl rfl hq1 (RV.move rfl) ?_
            refine LW.pureYB rfl rfl rfl rfl hq1 (RV.eqi rfl rfl) ?_
            refine LW.pure rfl rfl (RV.pickTB rfl hq1 rfl) ?_
            refine LW.pure rfl rfl (RV.move rfl) ?_
            refine LW.pureYB rfl rfl rfl rfl hq2 (RV.move rfl) ?_
            refine LW.yesB rfl rfl rfl rfl hq2 (OW.buildSlice (e := 3) (vs := [.int .i64 2]) (cs := [.int .i64 2]) rfl (fun _ => by kernel_rfl) fun b14 w20 N14 => ?_)
            have hS25 := hS25.ext N14.ext
            have hS27 := hS27.ext N14.ext
            have hS29 := hS29.ext N14.ext
            replace H := H.made' (k := 1) (t := 3) (enc := encN) (l := ([2] : List Int)) N14 N14.blk (fun _ => rfl) rfl (by first | decide | omega | (simp; done) | (simp; omega))
            replace R0 := H.ext
            refine LW.yesB rfl rfl rfl rfl hq2 (OW.call Tc21 (evs_cast rfl (by first | rfl | (simp; done) | (simp; omega))) (ref04_SameInts_ok (a0 := r1.1) (a1 := ([2] : List Int)) (H.own 10 rfl).sl (H.own 0 rfl).sl hr4) ?_)
            rintro _ w21 ⟨rfl, E7⟩
            refine ⟨_, rfl, ?_⟩
            have hS25 := hS25.ext E7
            have hS27 := hS27.ext E7
            have hS29 := hS29.ext E7
            replace H := H.grow E7
            replace R0 := H.ext
            refine LW.pure rfl rfl (RV.pickTB rfl hq2 rfl) ?_
            refine LW.pure rfl rfl (RV.move rfl) ?_
            refine LW.pureYB rfl rfl rfl rfl hq3 (RV.move rfl) ?_
            refine LW.pureYB rfl rfl rfl rfl hq3 (RV.eqi rfl rfl) ?_
            refine LW.pure rfl rfl (RV.pickTB rfl hq3 rfl) ?_
            refine LW.pure rfl rfl (RV.move rfl) ?_
            refine LW.pureYB rfl rfl rfl rfl hq4 (RV.move rfl) ?_
            refine LW.pureYB rfl rfl rfl rfl hq4 (RV.eqi rfl rfl) ?_
            refine LW.pure rfl rfl (RV.pickTB rfl hq4 rfl) ?_
            refine LW.pure rfl rfl (RV.move rfl) ?_
            refine LW.noB rfl rfl rfl rfl (ne_beq (v := false) hq5 rfl) ?_
            refine LW.noB rfl rfl rfl rfl (ne_beq (v := false) hq5 rfl) ?_
            refine LW.pure rfl rfl (RV.pickFB rfl hq5 rfl) ?_
            refine LW.pure rfl rfl (RV.move rfl) ?_
            refine LW.noB rfl rfl rfl rfl (ne_beq (v := false) rfl rfl) ?_
            refine LW.noB rfl rfl rfl rfl (ne_beq (v := false) rfl rfl) ?_
            refine LW.noB rfl rfl rfl rfl (ne_beq (v := false) rfl rfl) ?_
            refine LW.pure rfl rfl (RV.pickFB rfl rfl rfl) ?_
            refine LW.pure rfl rfl (RV.assign rfl) ?_
            refine LW.nil (hK5 _ _ ?_)
            refine CW.ret ?_
            obtain rfl := Option.some.inj F
            refine ⟨_, (ResOK.one rfl), ?_⟩
            refine ⟨(by first | rfl | simp), R0⟩
        ·
          replace F := ite_n hp4 F
          have hq4 := dec_f hp4
          refine CW.region ?_
          refine LW.pure rfl rfl (RV.move rfl) ?_
          refine LW.pure rfl rfl (RV.eqi rfl rfl) ?_
          refine LW.pure rfl rfl (RV.move rfl) ?_
          refine LW.pureYB rfl rfl rfl rfl hq1 (RV.move rfl) ?_
          refine LW.pureYB rfl rfl rfl rfl hq1 (RV.eqi rfl rfl) ?_
          refine LW.pure rfl rfl (RV.pickTB rfl hq1 rfl) ?_
          refine LW.pure rfl rfl (RV.move rfl) ?_
          refine LW.pureYB rfl rfl rfl rfl hq2 (RV.move rfl) ?_
          refine LW.yesB rfl rfl rfl rfl hq2 (OW.buildSlice (e := 3) (vs := [.int .i64 2]) (cs := [.int .i64 2]) rfl (fun _ => by kernel_rfl) fun b15 w22 N15 => ?_)
          have hS25 := hS25.ext N15.ext
          have hS27 := hS27.ext N15.ext
          have hS29 := hS29.ext N15.ext
          replace H := H.made' (k := 1) (t := 3) (enc := encN) (l := ([2] : List Int)) N15 N15.blk (fun _ => rfl) rfl (by first | decide | omega | (simp; done) | (simp; omega))
          replace R0 := H.ext
          refine LW.yesB rfl rfl rfl rfl hq2 (OW.call Tc21 (evs_cast rfl (by first | rfl | (simp; done) | (simp; omega))) (ref04_SameInts_ok (a0 := r1.1) (a1 := ([2] : List Int)) (H.own 10 rfl).sl (H.own 0 rfl).sl hr4) ?_)
          rintro _ w23 ⟨rfl, E8⟩
          refine ⟨_, rfl, ?_⟩
          have hS25 := hS25.ext E8
          have hS27 := hS27.ext E8
          have hS29 := hS29.ext E8
          replace H := H.grow E8
          replace R0 := H.ext
          refine LW.pure rfl rfl (RV.pickTB rfl hq2 rfl) ?_
          refine LW.pure rfl rfl (RV.move rfl) ?_
          refine LW.pureYB rfl rfl rfl rfl hq3 (RV.move rfl) ?_
          refine LW.pureYB rfl rfl rfl rfl hq3 (RV.eqi rfl rfl) ?_
          refine LW.pure rfl rfl (RV.pickTB rfl hq3 rfl) ?_
          refine LW.pure rfl rfl (RV.move rfl) ?_
          refine LW.noB rfl rfl rfl rfl (ne_beq (v := false) hq4 rfl) ?_
          refine LW.noB rfl rfl rfl rfl (ne_beq (v := false) hq4 rfl) ?_
          refine LW.pure rfl rfl (RV.pickFB rfl hq4 rfl) ?_
          refine LW.pure rfl rfl (RV.move rfl) ?_
          refine LW.noB rfl rfl rfl rfl (ne_beq (v := false) rfl rfl) ?_
          refine LW.noB rfl rfl rfl rfl (ne_beq (v := false) rfl rfl) ?_
          refine LW.pure rfl rfl (RV.pickFB rfl rfl rfl) ?_
          refine LW.pure rfl rfl (RV.move rfl) ?_
          refine LW.noB rfl rfl rfl rfl (ne_beq (v := false) rfl rfl) ?_
          refine LW.noB rfl rfl rfl rfl (ne_beq (v := false) rfl rfl) ?_
          refine LW.noB rfl rfl rfl rfl (ne_beq (v := false) rfl rfl) ?_
          refine LW.pure rfl rfl (RV.pickFB rfl rfl rfl) ?_
          refine LW.pure rfl rfl (RV.assign rfl) ?_
          refine LW.nil (hK5 _ _ ?_)
          refine CW.ret ?_
          obtain rfl := Option.some.inj F
          refine ⟨_, (ResOK.one rfl), ?_⟩
          refine ⟨(by first | rfl | simp), R0⟩
      ·
        replace F := ite_n hp3 F
        have hq3 : r4 = false := raw_f hp3
        refine CW.region ?_
        refine LW.pure rfl rfl (RV.move rfl) ?_
        refine LW.pure rfl rfl (RV.eqi rfl rfl) ?_
        refine LW.pure rfl rfl (RV.move rfl) ?_
        refine LW.pureYB rfl rfl rfl rfl hq1 (RV.move rfl) ?_
        refine LW.pureYB rfl rfl rfl rfl hq1 (RV.eqi rfl rfl) ?_
        refine LW.pure rfl rfl (RV.pickTB rfl hq1 rfl) ?_
        refine LW.pure rfl rfl (RV.move rfl) ?_
        refine LW.pureYB rfl rfl rfl rfl hq2 (RV.move rfl) ?_
        refine LW.yesB rfl rfl rfl rfl hq2 (OW.buildSlice (e := 3) (vs := [.int .i64 2]) (cs := [.int .i64 2]) rfl (fun _ => by kernel_rfl) fun b16 w24 N16 => ?_)
        have hS25 := hS25.ext N16.ext
        have hS27 := hS27.ext N16.ext
        have hS29 := hS29.ext N16.ext
        replace H := H.made' (k := 1) (t := 3) (enc := encN) (l := ([2] : List Int)) N16 N16.blk (fun _ => rfl) rfl (by first | decide | omega | (simp; done) | (simp; omega))
        replace R0 := H.ext
        refine LW.yesB rfl rfl rfl rfl hq2 (OW.call Tc21 (evs_cast rfl (by first | rfl | (simp; done) | (simp; omega))) (ref04_SameInts_ok (a0 := r1.1) (a1 := ([2] : List Int)) (H.own 10 rfl).sl (H.own 0 rfl).sl hr4) ?_)
        rintro _ w25 ⟨rfl, E9⟩
        refine ⟨_, rfl, ?_⟩
        have hS25 := hS25.ext E9
        have hS27 := hS27.ext E9
        have hS29 := hS29.ext E9
        replace H := H.grow E9
        replace R0 := H.ext
        refine LW.pure rfl rfl (RV.pickTB rfl hq2 rfl) ?_
        refine LW.pure rfl rfl (RV.move rfl) ?_
        refine LW.noB rfl rfl rfl rfl (ne_beq (v := false) hq3 rfl) ?_
        refine LW.noB rfl rfl rfl rfl (ne_beq (v := false) hq3 rfl) ?_
        refine LW.pure rfl rfl (RV.pickFB rfl hq3 rfl) ?_
        refine LW.pure rfl rfl (RV.move rfl) ?_
        refine LW.noB rfl rfl rfl rfl (ne_beq (v := false) rfl rfl) ?_
        refine LW.noB rfl rfl rfl rfl (ne_beq (v := false) rfl rfl) ?_
        refine LW.pure rfl rfl (RV.pickFB rfl rfl rfl) ?_
        refine LW.pure rfl rfl (RV.move rfl) ?_
        refine LW.noB rfl rfl rfl rfl (ne_beq (v := false) rfl rfl) ?_
        refine LW.noB rfl rfl rfl rfl (ne_beq (v := false) rfl rfl) ?_
        refine LW.pure rfl rfl (RV.pickFB rfl rfl rfl) ?_
        refine LW.pure rfl rfl (RV.move rfl) ?_
        refine LW.noB rfl rfl rfl rfl (ne_beq (v := false) rfl rfl) ?_
        refine LW.noB rfl rfl rfl rfl (ne_beq (v := false) rfl rfl) ?_
        refine LW.noB rfl rfl rfl rfl (ne_beq (v := false) rfl rfl) ?_
        refine LW.pure rfl rfl (RV.pickFB rfl rfl rfl) ?_
        refine LW.pure rfl rfl (RV.assign rfl) ?_
        refine LW.nil (hK5 _ _ ?_)
        refine CW.ret ?_
        obtain rfl := Option.some.inj F
        refine ⟨_, (ResOK.one rfl), ?_⟩
        refine ⟨(by first | rfl | simp), R0⟩
    ·
      replace F := ite_n hp2 F
      have hq2 := dec_f hp2
      refine CW.region ?_
      refine LW.pure rfl rfl (RV.move rfl) ?_
      refine LW.pure rfl rfl (RV.eqi rfl rfl) ?_
      refine LW.pure rfl rfl (RV.move rfl) ?_
      refine LW.pureYB rfl rfl rfl rfl hq1 (RV.move rfl) ?_
      refine LW.pureYB rfl rfl rfl rfl hq1 (RV.eqi rfl rfl) ?_
      refine LW.pure rfl rfl (RV.pickTB rfl hq1 rfl) ?_
      refine LW.pure rfl rfl (RV.move rfl) ?_
      refine LW.noB rfl rfl rfl rfl (ne_beq (v := false) hq2 rfl) ?_
      refine LW.noB rfl rfl rfl rfl (ne_beq (v := false) hq2 rfl) ?_
      refine LW.noB rfl rfl rfl rfl (ne_beq (v := false) hq2 rfl) ?_
      refine LW.pure rfl rfl (RV.pickFB rfl hq2 rfl) ?_
      refine LW.pure rfl rfl (RV.move rfl) ?_
      refine LW.noB rfl rfl rfl rfl (ne_beq (v := false) rfl rfl) ?_
      refine LW.noB rfl rfl rfl rfl (ne_beq (v := false) rfl rfl) ?_
      refine LW.pure rfl rfl (RV.pickFB rfl rfl rfl) ?_
      refine LW.pure rfl rfl (RV.move rfl) ?_
      refine LW.noB rfl rfl rfl rfl (ne_beq (v := false) rfl rfl) ?_
      refine LW.noB rfl rfl rfl rfl (ne_beq (v := false) rfl rfl) ?_
      refine LW.pure rfl rfl (RV.pickFB rfl rfl rfl) ?_
      refine LW.pure rfl rfl (RV.move rfl) ?_
      refine LW.noB rfl rfl rfl rfl (ne_beq (v := false) rfl rfl) ?_
      refine LW.noB rfl rfl rfl rfl (ne_beq (v := false) rfl rfl) ?_
      refine LW.pure rfl rfl (RV.pickFB rfl rfl rfl) ?_
      refine LW.pure rfl rfl (RV.move rfl) ?_
      refine LW.noB rfl rfl rfl rfl (ne_beq (v := false) rfl rfl) ?_
      refine LW.noB rfl rfl rfl rfl (ne_beq (v := false) rfl rfl) ?_
      refine LW.noB rfl rfl rfl rfl (ne_beq (v := false) rfl rfl) ?_
      refine LW.pure rfl rfl (RV.pickFB rfl rfl rfl) ?_
      refine LW.pure rfl rfl (RV.assign rfl) ?_
      refine LW.nil (hK5 _ _ ?_)
      refine CW.ret ?_
      obtain rfl := Option.some.inj F
      refine ⟨_, (ResOK.one rfl), ?_⟩
      refine ⟨(by first | rfl | simp), R0⟩
  ·
    replace F := ite_n hp1 F
    have hq1 := dec_f hp1
    refine CW.region ?_
    refine LW.pure rfl rfl (RV.move rfl) ?_
    refine LW.pure rfl rfl (RV.eqi rfl rfl) ?_
    refine LW.pure rfl rfl (RV.move rfl) ?_
    refine LW.noB rfl rfl rfl rfl (ne_beq (v := false) hq1 rfl) ?_
    refine LW.noB rfl rfl rfl rfl (ne_beq (v := false) hq1 rfl) ?_
    refine LW.pure rfl rfl (RV.pickFB rfl hq1 rfl) ?_
    refine LW.pure rfl rfl (RV.move rfl) ?_
    refine LW.noB rfl rfl rfl rfl (ne_beq (v := false) rfl rfl) ?_
    refine LW.noB rfl rfl rfl rfl (ne_beq (v := false) rfl rfl) ?_
    refine LW.noB rfl rfl rfl rfl (ne_beq (v := false) rfl rfl) ?_
    refine LW.pure rfl rfl (RV.pickFB rfl rfl rfl) ?_
    refine LW.pure rfl rfl (RV.move rfl) ?_
    refine LW.noB rfl rfl rfl rfl (ne_beq (v := false) rfl rfl) ?_
    refine LW.noB rfl rfl rfl rfl (ne_beq (v := false) rfl rfl) ?_
    refine LW.pure rfl rfl (RV.pickFB rfl rfl rfl) ?_
    refine LW.pure rfl rfl (RV.move rfl) ?_
    refine LW.noB rfl rfl rfl rfl (ne_beq (v := false) rfl rfl) ?_
    refine LW.noB rfl rfl rfl rfl (ne_beq (v := false) rfl rfl) ?_
    refine LW.pure rfl rfl (RV.pickFB rfl rfl rfl) ?_
    refine LW.pure rfl rfl (RV.move rfl) ?_
    refine LW.noB rfl rfl rfl rfl (ne_beq (v := false) rfl rfl) ?_
    refine LW.noB rfl rfl rfl rfl (ne_beq (v := false) rfl rfl) ?_
    refine LW.pure rfl rfl (RV.pickFB rfl rfl rfl) ?_
    refine LW.pure rfl rfl (RV.move rfl) ?_
    refine LW.noB rfl rfl rfl rfl (ne_beq (v := false) rfl rfl) ?_
    refine LW.noB rfl rfl rfl rfl (ne_beq (v := false) rfl rfl) ?_
    refine LW.noB rfl rfl rfl rfl (ne_beq (v := false) rfl rfl) ?_
    refine LW.pure rfl rfl (RV.pickFB rfl rfl rfl) ?_
    refine LW.pure rfl rfl (RV.assign rfl) ?_
    refine LW.nil (hK5 _ _ ?_)
    refine CW.ret ?_
    obtain rfl := Option.some.inj F
    refine ⟨_, (ResOK.one rfl), ?_⟩
    refine ⟨(by first | rfl | simp), R0⟩
end Go.D4

set_option linter.unusedVariables false
set_option linter.unusedSimpArgs false
namespace Go.D4
open Go.Tb Go.Proofs Go.RowKit
theorem Tc26 : callable Try.prog 26 = true := by kernel_rfl
theorem Tc93 : callable Try.prog 93 = true := by kernel_rfl
set_option maxRecDepth 20000 in
set_option maxHeartbeats 1000000 in
theorem ref04_Validate_ok {a0 : Bog} {A_a0_worth : Option Addr} {c_a0_worth : Nat} {w : World} {res : Int} (h_a0_worth : Sl2 w A_a0_worth c_a0_worth 1 encN a0.worth) (F : ref04_Validate a0 = some res) : Calls Try.prog 26 #[.agg #[.slice A_a0_worth a0.worth.length c_a0_worth]] w (Rt w (.int .i64 res)) := by
  refine calls_of_cw (args := [.agg #[.slice A_a0_worth a0.worth.length c_a0_worth]]) Try.func26 rfl rfl rfl rfl ?_
  have H := Hp.start w
  have R0 := H.ext
  unfold ref04_Validate at F
  refine CW.seq fun K1 hK1 => ?_
  refine CW.region ?_
  refine LW.go rfl rfl (OW.box rfl fun b1 w1 N1 => ?_)
  replace H := H.new N1 N1.blk
  replace R0 := H.ext
  refine LW.pure rfl rfl (RV.assign rfl) ?_
  refine LW.nil (hK1 _ _ ?_)
  refine CW.seq fun K2 hK2 => ?_
  refine CW.region ?_
  refine LW.pure rfl rfl (RV.fieldAddr Tf24_0 rfl) ?_
  refine LW.pure rfl rfl (RV.load1 Tk22 rfl ((H.blk 0 rfl).cells.off 0) rfl) ?_
  refine LW.pure rfl rfl (RV.len Ts22 rfl) ?_
  refine LW.pure rfl rfl (RV.assign rfl) ?_
  refine LW.nil (hK2 _ _ ?_)
  refine CW.seq fun K3 hK3 => ?_
  refine CW.seqJ (fun ρ wl1 => (∃ (t30_1 : Bool), ref04_Validate_k4 a0 t30_1 = some res ∧ ρ = [(1, .pointer (some (⟨b1, 0, none⟩))), (2, .int .i64 0), (3, .int .i64 ((a0.worth.length : Int))), (30, .bool t30_1)] ∧ Hp w wl1 [.blk b1 24 [.slice A_a0_worth a0.worth.length c_a0_worth]])) ?_ ?_
  ·
    rintro _ wl1 ⟨t30_1, F, rfl, H⟩
    have R0 := H.ext
    unfold ref04_Validate_k4 at F
    by_cases hp1 : t30_1 = true
    ·
      replace F := ite_y hp1 F
      have hq1 : t30_1 = true := hp1
      refine CW.condT rfl hq1 ?_
      refine CW.seq fun K4 hK4 => ?_
      refine CW.region ?_
      refine LW.pure rfl rfl (RV.assign rfl) ?_
      refine LW.nil (hK4 _ _ ?_)
      refine CW.ret ?_
      obtain rfl := Option.some.inj F
      refine ⟨_, (ResOK.one rfl), ?_⟩
      refine ⟨(by first | rfl | simp), R0⟩
    ·
      replace F := ite_n hp1 F
      have hq1 : t30_1 = false := raw_f hp1
      refine CW.condF rfl hq1 ?_
      refine CW.skip (hK3 _ _ ?_)
      refine CW.seqJ (fun ρ wl2 => (ref04_Validate_k1 = some res ∧ ρ = [(2, .int .i64 0)] ∧ Hp w wl2 [])) ?_ ?_
      ·
        rintro _ wl2 ⟨F, rfl, H⟩
        have R0 := H.ext
        unfold ref04_Validate_k1 at F
        refine CW.seq fun K5 hK5 => ?_
        refine CW.region ?_
        refine LW.pure rfl rfl (RV.assign rfl) ?_
        refine LW.nil (hK5 _ _ ?_)
        refine CW.ret ?_
        obtain rfl := Option.some.inj F
        refine ⟨_, (ResOK.one rfl), ?_⟩
        refine ⟨(by first | rfl | simp), R0⟩
      ·
        intro K6 hK6 jK385
        refine CW.seq fun K7 hK7 => ?_
        refine CW.region ?_
        refine LW.pure rfl rfl (RV.assign rfl) ?_
        refine LW.nil (hK7 _ _ ?_)
        refine CW.block ?_
        refine CW.loop (fun meas ρ wl3 => ∃ (t4_1 : Int), ref04_Validate_L2 a0 meas t4_1 = some res ∧ ρ = [(1, .pointer (some (⟨b1, 0, none⟩))), (2, .int .i64 0), (3, .int .i64 ((a0.worth.length : Int))), (4, .int .i64 t4_1)] ∧ Hp w wl3 [.blk b1 24 [.slice A_a0_worth a0.worth.length c_a0_worth]]) FU ⟨_, ?_, ((0 : Int)), F, rfl, H⟩ ?_
        · exact ⟨rfl, rfl, rfl, rfl, trivial⟩
        rintro mk1 _ wl3 ⟨t4_1, F, rfl, H⟩
        have R0 := H.ext
        replace F := ref04_Validate_L2_s F
        obtain ⟨mk1, rfl, F⟩ := F
        generalize hrec1 : ref04_Validate_L2 a0 mk1 = rec1 at F
        unfold ref04_Validate_B2 at F
        refine CW.seq fun K8 hK8 => ?_
        refine CW.seq fun K9 hK9 => ?_
        refine CW.region ?_
        refine LW.pure rfl rfl (RV.move rfl) ?_
        refine LW.pure rfl rfl (RV.move rfl) ?_
        refine LW.pure rfl rfl (RV.lss rfl rfl) ?_
        refine LW.nil (hK9 _ _ ?_)
        by_cases hp2 : t4_1 < ((a0.worth.length : Int))
        ·
          replace F := ite_y hp2 F
          have hq2 := dec_t hp2
          refine CW.condT rfl hq2 ?_
          refine CW.skip (hK8 _ _ ?_)
          refine CW.seqJ (fun ρ wl4 => (ref04_Validate_k2 t4_1 rec1 = some res ∧ ρ = [(1, .pointer (some (⟨b1, 0, none⟩))), (2, .int .i64 0), (3, .int .i64 ((a0.worth.length : Int))), (4, .int .i64 t4_1)] ∧ Hp w wl4 [.blk b1 24 [.slice A_a0_worth a0.worth.length c_a0_worth]])) ?_ ?_
          ·
            rintro _ wl4 ⟨F, rfl, H⟩
            have R0 := H.ext
            unfold ref04_Validate_k2 at F
            obtain ⟨hg1, F⟩ := gd_some F
            refine CW.region ?_
            refine LW.pure rfl rfl (RV.move rfl) ?_
            refine LW.pure rfl rfl (RV.add rfl rfl hg1) ?_
            refine LW.pure rfl rfl (RV.assign rfl) ?_
            refine LW.nil ?_
            subst hrec1
            refine ⟨mk1, Nat.lt_succ_self _, _, ?_, (t4_1 + 1), F, rfl, H⟩
            exact ⟨rfl, rfl, rfl, rfl, trivial⟩
          ·
            intro K10 hK10 jK490
            refine CW.block ?_
            refine CW.seq fun K11 hK11 => ?_
            refine CW.seq fun K12 hK12 => ?_
            obtain ⟨x6, hbx6, hx6, F⟩ := ix_some F
            obtain ⟨x7, hbx7, hx7, F⟩ := ix_some F
            refine CW.draw [] (fun _ => True) (.cons 0 1 (.cons 1 1 (.cons 2 1 (.cons 3 1 (.cons 4 1 (.cons 5 1 (.cons 6 1 (.cons 7 1 (.cons 8 1 (.cons 9 1 (.cons 10 1 (.cons 11 1 .nil)))))))))))) mixed (by kernel_rfl) fun w2 E1 => ?_
            replace H := H.grow E1
            replace R0 := H.ext
            refine DW.fix rfl rfl rfl (fun _ EQ => RV.fieldAddr Tf24_0 rfl) ?_
            refine DW.fix rfl rfl rfl (fun _ EQ => RV.load1 Tk22 rfl (((H.grow EQ).blk 0 rfl).cells.off 0) rfl) ?_
            refine DW.fix rfl rfl rfl (fun _ EQ => RV.move rfl) ?_
            obtain ⟨A1, c1, hC1, hS1⟩ := h_a0_worth.at_ hx6
            refine DW.fix rfl rfl rfl (fun _ EQ => RV.indexAddr Ts22 rfl rfl hbx6 (h_a0_worth.addr hbx6)) ?_
            refine DW.fix rfl rfl rfl (fun _ EQ => RV.load1 Tk25 rfl (hC1.ext (R0.trans EQ)) rfl) ?_
            refine DW.fix rfl rfl rfl (fun _ EQ => RV.len Ts25 rfl) ?_
            refine DW.fix rfl rfl rfl (fun _ EQ => RV.fieldAddr Tf24_0 rfl) ?_
            refine DW.fix rfl rfl rfl (fun _ EQ => RV.load1 Tk22 rfl (((H.grow EQ).blk 0 rfl).cells.off 0) rfl) ?_
            obtain ⟨A2, c2, hC2, hS2⟩ := h_a0_worth.at_ hx7
            refine DW.fix rfl rfl rfl (fun _ EQ => RV.indexAddr Ts22 rfl rfl hbx7 (h_a0_worth.addr hbx7)) ?_
            refine DW.fix rfl rfl rfl (fun _ EQ => RV.load1 Tk25 rfl (hC2.ext (R0.trans EQ)) rfl) ?_
            refine DW.fix rfl rfl rfl (fun _ EQ => RV.len Ts25 rfl) ?_
            refine DW.fix rfl rfl rfl (fun _ EQ => RV.nei rfl rfl) ?_
            refine DW.nil (hK12 _ _ ?_)
            by_cases hp3 : ((x6.length : Int)) = ((x7.length : Int))
            ·
              replace F := ite_y hp3 F
              have hq3 := dec_t hp3
              refine CW.condF rfl (not_f hq3) ?_
              refine CW.skip (hK11 _ _ ?_)
              refine CW.seq fun K13 hK13 => ?_
              refine CW.region ?_
              refine LW.pure rfl rfl (RV.assign rfl) ?_
              refine LW.nil (hK13 _ _ ?_)
              refine CW.block ?_
              refine CW.loop (fun meas ρ wl5 => ∃ (t5_1 : Int), ref04_Validate_L1 a0 t4_1 rec1 meas t5_1 = some res ∧ ρ = [(1, .pointer (some (⟨b1, 0, none⟩))), (2, .int .i64 0), (3, .int .i64 ((a0.worth.length : Int))), (4, .int .i64 t4_1), (5, .int .i64 t5_1)] ∧ Hp w wl5 [.blk b1 24 [.slice A_a0_worth a0.worth.length c_a0_worth]]) FU ⟨_, ?_, ((0 : Int)), F, rfl, H⟩ ?_
              · exact ⟨rfl, rfl, rfl, rfl, rfl, trivial⟩
              rintro mk2 _ wl5 ⟨t5_1, F, rfl, H⟩
              have R0 := H.ext
              replace F := ref04_Validate_L1_s F
              obtain ⟨mk2, rfl, F⟩ := F
              generalize hrec2 : ref04_Validate_L1 a0 t4_1 rec1 mk2 = rec2 at F
              unfold ref04_Validate_B1 at F
              refine CW.seq fun K14 hK14 => ?_
              refine CW.seq fun K15 hK15 => ?_
              obtain ⟨x1, hbx1, hx1, F⟩ := ix_some F
              refine CW.region ?_
              refine LW.pure rfl rfl (RV.move rfl) ?_
              refine LW.pure rfl rfl (RV.fieldAddr Tf24_0 rfl) ?_
              refine LW.pure rfl rfl (RV.load1 Tk22 rfl ((H.blk 0 rfl).cells.off 0) rfl) ?_
              refine LW.pure rfl rfl (RV.move rfl) ?_
              obtain ⟨A3, c3, hC3, hS3⟩ := h_a0_worth.at_ hx1
              refine LW.pure rfl rfl (RV.indexAddr Ts22 rfl rfl hbx1 (h_a0_worth.addr hbx1)) ?_
              refine LW.pure rfl rfl (RV.load1 Tk25 rfl (hC3.ext R0) rfl) ?_
              refine LW.pure rfl rfl (RV.len Ts25 rfl) ?_
              refine LW.pure rfl rfl (RV.lss rfl rfl) ?_
              refine LW.nil (hK15 _ _ ?_)
              by_cases hp4 : t5_1 < ((x1.length : Int))
              ·
                replace F := ite_y hp4 F
                have hq4 := dec_t hp4
                refine CW.condT rfl hq4 ?_
                refine CW.skip (hK14 _ _ ?_)
                refine CW.seq fun K16 hK16 => ?_
                refine CW.block ?_
                refine CW.seqJ (fun ρ wl6 => (∃ (t77_1 : Bool), ref04_Validate_k3 t5_1 rec2 t77_1 = some res ∧ ρ = [(1, .pointer (some (⟨b1, 0, none⟩))), (2, .int .i64 0), (3, .int .i64 ((a0.worth.length : Int))), (4, .int .i64 t4_1), (5, .int .i64 t5_1), (77, .bool t77_1)] ∧ Hp w wl6 [.blk b1 24 [.slice A_a0_worth a0.worth.length c_a0_worth]])) ?_ ?_
                ·
                  rintro _ wl6 ⟨t77_1, F, rfl, H⟩
                  have R0 := H.ext
                  unfold ref04_Validate_k3 at F
                  by_cases hp5 : t77_1 = true
                  ·
                    replace F := ite_y hp5 F
                    have hq5 : t77_1 = true := hp5
                    refine CW.condT rfl hq5 ?_
                    refine CW.seq fun K17 hK17 => ?_
                    refine CW.region ?_
                    refine LW.pure rfl rfl (RV.assign rfl) ?_
                    refine LW.nil (hK17 _ _ ?_)
                    refine CW.ret ?_
                    obtain rfl := Option.some.inj F
                    refine ⟨_, (ResOK.one rfl), ?_⟩
                    refine ⟨(by first | rfl | simp), R0⟩
                  ·
                    replace F := ite_n hp5 F
                    have hq5 : t77_1 = false := raw_f hp5
                    refine CW.condF rfl hq5 ?_
                    refine CW.skip (hK16 _ _ ?_)
                    obtain ⟨hg2, F⟩ := gd_some F
                    refine CW.region ?_
                    refine LW.pure rfl rfl (RV.move rfl) ?_
                    refine LW.pure rfl rfl (RV.add rfl rfl hg2) ?_
                    refine LW.pure rfl rfl (RV.assign rfl) ?_
                    refine LW.nil ?_
                    subst hrec2
                    refine ⟨mk2, Nat.lt_succ_self _, _, ?_, (t5_1 + 1), F, rfl, H⟩
                    exact ⟨rfl, rfl, rfl, rfl, rfl, trivial⟩
                ·
                  intro K18 hK18 jK508
                  obtain ⟨x2, hbx2, hx2, F⟩ := ix_some F
                  obtain ⟨x3, hbx3, hx3, F⟩ := ix_some F
                  by_cases hp6 : (50 : Int) < x3
                  ·
                    replace F := ite_y hp6 F
                    have hq6 := dec_t hp6
                    refine CW.region ?_
                    refine LW.pure rfl rfl (RV.fieldAddr Tf24_0 rfl) ?_
                    refine LW.pure rfl rfl (RV.load1 Tk22 rfl ((H.blk 0 rfl).cells.off 0) rfl) ?_
                    refine LW.pure rfl rfl (RV.move rfl) ?_
                    obtain ⟨A4, c4, hC4, hS4⟩ := h_a0_worth.at_ hx2
                    refine LW.pure rfl rfl (RV.indexAddr Ts22 rfl rfl hbx2 (h_a0_worth.addr hbx2)) ?_
                    refine LW.pure rfl rfl (RV.load1 Tk25 rfl (hC4.ext R0) rfl) ?_
                    refine LW.pure rfl rfl (RV.move rfl) ?_
                    refine LW.pure rfl rfl (RV.indexAddr Ts25 rfl rfl hbx3 (hS4.addr_ hx3)) ?_
                    refine LW.pure rfl rfl (RV.load1 Tk3 rfl ((hS4.at_ hx3).ext R0) rfl) ?_
                    refine LW.pure rfl rfl (RV.gtr rfl rfl) ?_
                    refine LW.pure rfl rfl (RV.move rfl) ?_
                    refine LW.noB rfl rfl rfl rfl (ne_beq (v := true) hq6 rfl) ?_
                    refine LW.noB rfl rfl rfl rfl (ne_beq (v := true) hq6 rfl) ?_
                    refine LW.noB rfl rfl rfl rfl (ne_beq (v := true) hq6 rfl) ?_
                    refine LW.noB rfl rfl rfl rfl (ne_beq (v := true) hq6 rfl) ?_
                    refine LW.noB rfl rfl rfl rfl (ne_beq (v := true) hq6 rfl) ?_
                    refine LW.noB rfl rfl rfl rfl (ne_beq (v := true) hq6 rfl) ?_
                    refine LW.noB rfl rfl rfl rfl (ne_beq (v := true) hq6 rfl) ?_
                    refine LW.noB rfl rfl rfl rfl (ne_beq (v := true) hq6 rfl) ?_
                    refine LW.noB rfl rfl rfl rfl (ne_beq (v := true) hq6 rfl) ?_
                    refine LW.pure rfl rfl (RV.pickTB rfl hq6 rfl) ?_
                    refine LW.nil (jK508 _ _ ⟨_, ?_, ⟨true, F, rfl, H⟩⟩)
                    exact ⟨rfl, rfl, rfl, rfl, rfl, rfl, trivial⟩
                  ·
                    replace F := ite_n hp6 F
                    have hq6 := dec_f hp6
                    obtain ⟨x4, hbx4, hx4, F⟩ := ix_some F
                    obtain ⟨x5, hbx5, hx5, F⟩ := ix_some F
                    refine CW.region ?_
                    refine LW.pure rfl rfl (RV.fieldAddr Tf24_0 rfl) ?_
                    refine LW.pure rfl rfl (RV.load1 Tk22 rfl ((H.blk 0 rfl).cells.off 0) rfl) ?_
                    refine LW.pure rfl rfl (RV.move rfl) ?_
                    obtain ⟨A5, c5, hC5, hS5⟩ := h_a0_worth.at_ hx2
                    refine LW.pure rfl rfl (RV.indexAddr Ts22 rfl rfl hbx2 (h_a0_worth.addr hbx2)) ?_
                    refine LW.pure rfl rfl (RV.load1 Tk25 rfl (hC5.ext R0) rfl) ?_
                    refine LW.pure rfl rfl (RV.move rfl) ?_
                    refine LW.pure rfl rfl (RV.indexAddr Ts25 rfl rfl hbx3 (hS5.addr_ hx3)) ?_
                    refine LW.pure rfl rfl (RV.load1 Tk3 rfl ((hS5.at_ hx3).ext R0) rfl) ?_
                    refine LW.pure rfl rfl (RV.gtr rfl rfl) ?_
                    refine LW.pure rfl rfl (RV.move rfl) ?_
                    refine LW.pureYB rfl rfl rfl rfl hq6 (RV.fieldAddr Tf24_0 rfl) ?_
                    refine LW.pureYB rfl rfl rfl rfl hq6 (RV.load1 Tk22 rfl ((H.blk 0 rfl).cells.off 0) rfl) ?_
                    refine LW.pureYB rfl rfl rfl rfl hq6 (RV.move rfl) ?_
                    obtain ⟨A6, c6, hC6, hS6⟩ := h_a0_worth.at_ hx4
                    refine LW.pureYB rfl rfl rfl rfl hq6 (RV.indexAddr Ts22 rfl rfl hbx4 (h_a0_worth.addr hbx4)) ?_
                    refine LW.pureYB rfl rfl rfl rfl hq6 (RV.load1 Tk25 rfl (hC6.ext R0) rfl) ?_
                    refine LW.pureYB rfl rfl rfl rfl hq6 (RV.move rfl) ?_
                    refine LW.pureYB rfl rfl rfl rfl hq6 (RV.indexAddr Ts25 rfl rfl hbx5 (hS6.addr_ hx5)) ?_
                    refine LW.pureYB rfl rfl rfl rfl hq6 (RV.load1 Tk3 rfl ((hS6.at_ hx5).ext R0) rfl) ?_
                    refine LW.pureYB rfl rfl rfl rfl hq6 (RV.lss rfl rfl) ?_
                    refine LW.pure rfl rfl (RV.pickFB rfl hq6 rfl) ?_
                    refine LW.nil (jK508 _ _ ⟨_, ?_, ⟨(decide (x5 < (-50))), F, rfl, H⟩⟩)
                    exact ⟨rfl, rfl, rfl, rfl, rfl, rfl, trivial⟩
              ·
                replace F := ite_n hp4 F
                have hq4 := dec_f hp4
                refine CW.condF rfl hq4 ?_
                refine CW.exit (jK490 _ _ ⟨_, ?_, ⟨F, rfl, H⟩⟩)
                exact ⟨rfl, rfl, rfl, rfl, trivial⟩
            ·
              replace F := ite_n hp3 F
              have hq3 := dec_f hp3
              refine CW.condT rfl (not_t hq3) ?_
              refine CW.seq fun K19 hK19 => ?_
              refine CW.region ?_
              refine LW.pure rfl rfl (RV.assign rfl) ?_
              refine LW.nil (hK19 _ _ ?_)
              refine CW.ret ?_
              obtain rfl := Option.some.inj F
              refine ⟨_, (ResOK.one rfl), ?_⟩
              refine ⟨(by first | rfl | simp), R0⟩
        ·
          replace F := ite_n hp2 F
          have hq2 := dec_f hp2
          refine CW.condF rfl hq2 ?_
          replace H := H.pick (L' := []) [] (by decide) rfl
          replace R0 := H.ext
          refine CW.exit (jK385 _ _ ⟨_, ?_, ⟨F, rfl, H⟩⟩)
          exact ⟨rfl, trivial⟩
  ·
    intro K20 hK20 jK510
    by_cases hp7 : ((a0.worth.length : Int)) < 1
    ·
      replace F := ite_y hp7 F
      have hq7 := dec_t hp7
      refine CW.region ?_
      refine LW.pure rfl rfl (RV.move rfl) ?_
      refine LW.pure rfl rfl (RV.lss rfl rfl) ?_
      refine LW.pure rfl rfl (RV.move rfl) ?_
      refine LW.noB rfl rfl rfl rfl (ne_beq (v := true) hq7 rfl) ?_
      refine LW.noB rfl rfl rfl rfl (ne_beq (v := true) hq7 rfl) ?_
      refine LW.pure rfl rfl (RV.pickTB rfl hq7 rfl) ?_
      refine LW.pure rfl rfl (RV.move rfl) ?_
      refine LW.noB rfl rfl rfl rfl (ne_beq (v := true) rfl rfl) ?_
      refine LW.noB rfl rfl rfl rfl (ne_beq (v := true) rfl rfl) ?_
      refine LW.noB rfl rfl rfl rfl (ne_beq (v := true) rfl rfl) ?_
      refine LW.noB rfl rfl rfl rfl (ne_beq (v := true) rfl rfl) ?_
      refine LW.noB rfl rfl rfl rfl (ne_beq (v := true) rfl rfl) ?_
      refine LW.noB rfl rfl rfl rfl (ne_beq (v := true) rfl rfl) ?_
      refine LW.pure rfl rfl (RV.pickTB rfl rfl rfl) ?_
      refine LW.pure rfl rfl (RV.move rfl) ?_
      refine LW.noB rfl rfl rfl rfl (ne_beq (v := true) rfl rfl) ?_
      refine LW.noB rfl rfl rfl rfl (ne_beq (v := true) rfl rfl) ?_
      refine LW.noB rfl rfl rfl rfl (ne_beq (v := true) rfl rfl) ?_
      refine LW.noB rfl rfl rfl rfl (ne_beq (v := true) rfl rfl) ?_
      refine LW.noB rfl rfl rfl rfl (ne_beq (v := true) rfl rfl) ?_
      refine LW.noB rfl rfl rfl rfl (ne_beq (v := true) rfl rfl) ?_
      refine LW.pure rfl rfl (RV.pickTB rfl rfl rfl) ?_
      refine LW.nil (jK510 _ _ ⟨_, ?_, ⟨true, F, rfl, H⟩⟩)
      exact ⟨rfl, rfl, rfl, rfl, trivial⟩
    ·
      replace F := ite_n hp7 F
      have hq7 := dec_f hp7
      by_cases hp8 : (6 : Int) < ((a0.worth.length : Int))
      ·
        replace F := ite_y hp8 F
        have hq8 := dec_t hp8
        refine CW.region ?_
        refine LW.pure rfl rfl (RV.move rfl) ?_
        refine LW.pure rfl rfl (RV.lss rfl rfl) ?_
        refine LW.pure rfl rfl (RV.move rfl) ?_
        refine LW.pureYB rfl rfl rfl rfl hq7 (RV.move rfl) ?_
        refine LW.pureYB rfl rfl rfl rfl hq7 (RV.gtr rfl rfl) ?_
        refine LW.pure rfl rfl (RV.pickFB rfl hq7 rfl) ?_
        refine LW.pure rfl rfl (RV.move rfl) ?_
        refine LW.noB rfl rfl rfl rfl (ne_beq (v := true) hq8 rfl) ?_
        refine LW.noB rfl rfl rfl rfl (ne_beq (v := true) hq8 rfl) ?_
        refine LW.noB rfl rfl rfl rfl (ne_beq (v := true) hq8 rfl) ?_
        refine LW.noB rfl rfl rfl rfl (ne_beq (v := true) hq8 rfl) ?_
        refine LW.noB rfl rfl rfl rfl (ne_beq (v := true) hq8 rfl) ?_
        refine LW.noB rfl rfl rfl rfl (ne_beq (v := true) hq8 rfl) ?_
        refine LW.pure rfl rfl (RV.pickTB rfl hq8 rfl) ?_
        refine LW.pure rfl rfl (RV.move rfl) ?_
        refine LW.noB rfl rfl rfl rfl (ne_beq (v := true) rfl rfl) ?_
        refine LW.noB rfl rfl rfl rfl (ne_beq (v := true) rfl rfl) ?_
        refine LW.noB rfl rfl rfl rfl (ne_beq (v := true) rfl rfl) ?_
        refine LW.noB rfl rfl rfl rfl (ne_beq (v := true) rfl rfl) ?_
        refine LW.noB rfl rfl rfl rfl (ne_beq (v := true) rfl rfl) ?_
        refine LW.noB rfl rfl rfl rfl (ne_beq (v := true) rfl rfl) ?_
        refine LW.pure rfl rfl (RV.pickTB rfl rfl rfl) ?_
        refine LW.nil (jK510 _ _ ⟨_, ?_, ⟨true, F, rfl, H⟩⟩)
        exact ⟨rfl, rfl, rfl, rfl, trivial⟩
      ·
        replace F := ite_n hp8 F
        have hq8 := dec_f hp8
        obtain ⟨x8, hbx8, hx8, F⟩ := ix_some F
        by_cases hp9 : ((x8.length : Int)) < 1
        ·
          replace F := ite_y hp9 F
          have hq9 := dec_t hp9
          refine CW.region ?_
          refine LW.pure rfl rfl (RV.move rfl) ?_
          refine LW.pure rfl rfl (RV.lss rfl rfl) ?_
          refine LW.pure rfl rfl (RV.move rfl) ?_
          refine LW.pureYB rfl rfl rfl rfl hq7 (RV.move rfl) ?_
          refine LW.pureYB rfl rfl rfl rfl hq7 (RV.gtr rfl rfl) ?_
          refine LW.pure rfl rfl (RV.pickFB rfl hq7 rfl) ?_
          refine LW.pure rfl rfl (RV.move rfl) ?_
          refine LW.pureYB rfl rfl rfl rfl hq8 (RV.fieldAddr Tf24_0 rfl) ?_
          refine LW.pureYB rfl rfl rfl rfl hq8 (RV.load1 Tk22 rfl ((H.blk 0 rfl).cells.off 0) rfl) ?_
          obtain ⟨A7, c7, hC7, hS7⟩ := h_a0_worth.at_ hx8
          refine LW.pureYB rfl rfl rfl rfl hq8 (RV.indexAddr Ts22 rfl rfl hbx8 (h_a0_worth.addr hbx8)) ?_
          refine LW.pureYB rfl rfl rfl rfl hq8 (RV.load1 Tk25 rfl (hC7.ext R0) rfl) ?_
          refine LW.pureYB rfl rfl rfl rfl hq8 (RV.len Ts25 rfl) ?_
          refine LW.pureYB rfl rfl rfl rfl hq8 (RV.lss rfl rfl) ?_
          refine LW.pure rfl rfl (RV.pickFB rfl hq8 rfl) ?_
          refine LW.pure rfl rfl (RV.move rfl) ?_
          refine LW.noB rfl rfl rfl rfl (ne_beq (v := true) hq9 rfl) ?_
          refine LW.noB rfl rfl rfl rfl (ne_beq (v := true) hq9 rfl) ?_
          refine LW.noB rfl rfl rfl rfl (ne_beq (v := true) hq9 rfl) ?_
          refine LW.noB rfl rfl rfl rfl (ne_beq (v := true) hq9 rfl) ?_
          refine LW.noB rfl rfl rfl rfl (ne_beq (v := true) hq9 rfl) ?_
          refine LW.noB rfl rfl rfl rfl (ne_beq (v := true) hq9 rfl) ?_
          refine LW.pure rfl rfl (RV.pickTB rfl hq9 rfl) ?_
          refine LW.nil (jK510 _ _ ⟨_, ?_, ⟨true, F, rfl, H⟩⟩)
          exact ⟨rfl, rfl, rfl, rfl, trivial⟩
        ·
          replace F := ite_n hp9 F
          have hq9 := dec_f hp9
          obtain ⟨x9, hbx9, hx9, F⟩ := ix_some F
          refine CW.region ?_
          refine LW.pure rfl rfl (RV.move rfl) ?_
          refine LW.pure rfl rfl (RV.lss rfl rfl) ?_
          refine LW.pure rfl rfl (RV.move rfl) ?_
          refine LW.pureYB rfl rfl rfl rfl hq7 (RV.move rfl) ?_
          refine LW.pureYB rfl rfl rfl rfl hq7 (RV.gtr rfl rfl) ?_
          refine LW.pure rfl rfl (RV.pickFB rfl hq7 rfl) ?_
          refine LW.pure rfl rfl (RV.move rfl) ?_
          refine LW.pureYB rfl rfl rfl rfl hq8 (RV.fieldAddr Tf24_0 rfl) ?_
          refine LW.pureYB rfl rfl rfl rfl hq8 (RV.load1 Tk22 rfl ((H.blk 0 rfl).cells.off 0) rfl) ?_
          obtain ⟨A8, c8, hC8, hS8⟩ := h_a0_worth.at_ hx8
          refine LW.pureYB rfl rfl rfl rfl hq8 (RV.indexAddr Ts22 rfl rfl hbx8 (h_a0_worth.addr hbx8)) ?_
          refine LW.pureYB rfl rfl rfl rfl hq8 (RV.load1 Tk25 rfl (hC8.ext R0) rfl) ?_
          refine LW.pureYB rfl rfl rfl rfl hq8 (RV.len Ts25 rfl) ?_
          refine LW.pureYB rfl rfl rfl rfl hq8 (RV.lss rfl rfl) ?_
          refine LW.pure rfl rfl (RV.pickFB rfl hq8 rfl) ?_
          refine LW.pure rfl rfl (RV.move rfl) ?_
          refine LW.pureYB rfl rfl rfl rfl hq9 (RV.fieldAddr Tf24_0 rfl) ?_
          refine LW.pureYB rfl rfl rfl rfl hq9 (RV.load1 Tk22 rfl ((H.blk 0 rfl).cells.off 0) rfl) ?_
          obtain ⟨A9, c9, hC9, hS9⟩ := h_a0_worth.at_ hx9
          refine LW.pureYB rfl rfl rfl rfl hq9 (RV.indexAddr Ts22 rfl rfl hbx9 (h_a0_worth.addr hbx9)) ?_
          refine LW.pureYB rfl rfl rfl rfl hq9 (RV.load1 Tk25 rfl (hC9.ext R0) rfl) ?_
          refine LW.pureYB rfl rfl rfl rfl hq9 (RV.len Ts25 rfl) ?_
          refine LW.pureYB rfl rfl rfl rfl hq9 (RV.gtr rfl rfl) ?_
          refine LW.pure rfl rfl (RV.pickFB rfl hq9 rfl) ?_
          refine LW.nil (jK510 _ _ ⟨_, ?_, ⟨(decide ((4 : Int) < ((x9.length : Int)))), F, rfl, H⟩⟩)
          exact ⟨rfl, rfl, rfl, rfl, trivial⟩
set_option maxRecDepth 20000 in
set_option maxHeartbeats 1000000 in
theorem ref04_depth_ok {a0 : Bog} {A_a0_worth : Option Addr} {c_a0_worth : Nat} {w : World} {res : Int} (h_a0_worth : Sl2 w A_a0_worth c_a0_worth 1 encN a0.worth) (F : ref04_depth a0 = some res) : Calls Try.prog 93 #[.agg #[.slice A_a0_worth a0.worth.length c_a0_worth]] w (Rt w (.int .i64 res)) := by
  refine calls_of_cw (args := [.agg #[.slice A_a0_worth a0.worth.length c_a0_worth]]) Try.func93 rfl rfl rfl rfl ?_
  have H := Hp.start w
  have R0 := H.ext
  unfold ref04_depth at F
  refine CW.seq fun K1 hK1 => ?_
  refine CW.region ?_
  refine LW.go rfl rfl (OW.box rfl fun b1 w1 N1 => ?_)
  replace H := H.new N1 N1.blk
  replace R0 := H.ext
  refine LW.pure rfl rfl (RV.assign rfl) ?_
  refine LW.nil (hK1 _ _ ?_)
  refine CW.seq fun K2 hK2 => ?_
  obtain ⟨x1, hbx1, hx1, F⟩ := ix_some F
  refine CW.region ?_
  refine LW.pure rfl rfl (RV.fieldAddr Tf24_0 rfl) ?_
  refine LW.pure rfl rfl (RV.load1 Tk22 rfl ((H.blk 0 rfl).cells.off 0) rfl) ?_
  obtain ⟨A1, c1, hC1, hS1⟩ := h_a0_worth.at_ hx1
  refine LW.pure rfl rfl (RV.indexAddr Ts22 rfl rfl hbx1 (h_a0_worth.addr hbx1)) ?_
  refine LW.pure rfl rfl (RV.load1 Tk25 rfl (hC1.ext R0) rfl) ?_
  refine LW.pure rfl rfl (RV.len Ts25 rfl) ?_
  refine LW.pure rfl rfl (RV.assign rfl) ?_
  refine LW.nil (hK2 _ _ ?_)
  refine CW.ret ?_
  obtain rfl := Option.some.inj F
  refine ⟨_, (ResOK.one rfl), ?_⟩
  refine ⟨(by first | rfl | simp), R0⟩
set_option maxRecDepth 20000 in
set_option maxHeartbeats 1000000 in
theorem ref04_right_ok {a0 : List Int} {A_a0 : Option Addr} {c_a0 : Nat} {w : World} {res : Bool} (h_a0 : Sl w A_a0 c_a0 1 (a0.map encN)) (F : ref04_right a0 = some res) : Calls Try.prog 72 #[.slice A_a0 a0.length c_a0] w (Rt w (.bool res)) := by
  refine calls_of_cw (args := [.slice A_a0 a0.length c_a0]) Try.func72 rfl rfl rfl rfl ?_
  have H := Hp.start w
  have R0 := H.ext
  unfold ref04_right at F
  refine CW.seq fun K1 hK1 => ?_
  refine CW.region ?_
  refine LW.pure rfl rfl (RV.assign rfl) ?_
  refine LW.nil (hK1 _ _ ?_)
  refine CW.seqJ (fun ρ wl1 => (ref04_right_k1 = some res ∧ ρ = [(2, .bool false)] ∧ Hp w wl1 [])) ?_ ?_
  ·
    rintro _ wl1 ⟨F, rfl, H⟩
    have R0 := H.ext
    unfold ref04_right_k1 at F
    refine CW.seq fun K2 hK2 => ?_
    refine CW.region ?_
    refine LW.pure rfl rfl (RV.assign rfl) ?_
    refine LW.nil (hK2 _ _ ?_)
    refine CW.ret ?_
    obtain rfl := Option.some.inj F
    refine ⟨_, (ResOK.one rfl), ?_⟩
    refine ⟨(by first | rfl | simp), R0⟩
  ·
    intro K3 hK3 jK54
    refine CW.seq fun K4 hK4 => ?_
    refine CW.region ?_
    refine LW.pure rfl rfl (RV.assign rfl) ?_
    refine LW.nil (hK4 _ _ ?_)
    refine CW.block ?_
    refine CW.loop (fun meas ρ wl2 => ∃ (t3_1 : Int), ref04_right_L1 a0 meas t3_1 = some res ∧ ρ = [(0, .slice A_a0 a0.length c_a0), (2, .bool false), (3, .int .i64 t3_1)] ∧ Hp w wl2 []) FU ⟨_, ?_, ((1 : Int)), F, rfl, H⟩ ?_
    · exact ⟨rfl, rfl, rfl, trivial⟩
    rintro mk1 _ wl2 ⟨t3_1, F, rfl, H⟩
    have R0 := H.ext
    replace F := ref04_right_L1_s F
    obtain ⟨mk1, rfl, F⟩ := F
    generalize hrec1 : ref04_right_L1 a0 mk1 = rec1 at F
    unfold ref04_right_B1 at F
    refine CW.seq fun K5 hK5 => ?_
    refine CW.seq fun K6 hK6 => ?_
    refine CW.region ?_
    refine LW.pure rfl rfl (RV.move rfl) ?_
    refine LW.pure rfl rfl (RV.move rfl) ?_
    refine LW.pure rfl rfl (RV.len Ts25 rfl) ?_
    refine LW.pure rfl rfl (RV.lss rfl rfl) ?_
    refine LW.nil (hK6 _ _ ?_)
    by_cases hp1 : t3_1 < ((a0.length : Int))
    ·
      replace F := ite_y hp1 F
      have hq1 := dec_t hp1
      refine CW.condT rfl hq1 ?_
      refine CW.skip (hK5 _ _ ?_)
      refine CW.seq fun K7 hK7 => ?_
      refine CW.block ?_
      refine CW.seqJ (fun ρ wl3 => (∃ (t33_1 : Bool), ref04_right_k2 t3_1 rec1 t33_1 = some res ∧ ρ = [(0, .slice A_a0 a0.length c_a0), (2, .bool false), (3, .int .i64 t3_1), (33, .bool t33_1)] ∧ Hp w wl3 [])) ?_ ?_
      ·
        rintro _ wl3 ⟨t33_1, F, rfl, H⟩
        have R0 := H.ext
        unfold ref04_right_k2 at F
        by_cases hp2 : t33_1 = true
        ·
          replace F := ite_y hp2 F
          have hq2 : t33_1 = true := hp2
          refine CW.condT rfl hq2 ?_
          refine CW.seq fun K8 hK8 => ?_
          refine CW.region ?_
          refine LW.pure rfl rfl (RV.assign rfl) ?_
          refine LW.nil (hK8 _ _ ?_)
          refine CW.ret ?_
          obtain rfl := Option.some.inj F
          refine ⟨_, (ResOK.one rfl), ?_⟩
          refine ⟨(by first | rfl | simp), R0⟩
        ·
          replace F := ite_n hp2 F
          have hq2 : t33_1 = false := raw_f hp2
          refine CW.condF rfl hq2 ?_
          refine CW.skip (hK7 _ _ ?_)
          obtain ⟨hg1, F⟩ := gd_some F
          refine CW.region ?_
          refine LW.pure rfl rfl (RV.move rfl) ?_
          refine LW.pure rfl rfl (RV.add rfl rfl hg1) ?_
          refine LW.pure rfl rfl (RV.assign rfl) ?_
          refine LW.nil ?_
          subst hrec1
          refine ⟨mk1, Nat.lt_succ_self _, _, ?_, (t3_1 + 1), F, rfl, H⟩
          exact ⟨rfl, rfl, rfl, trivial⟩
      ·
        intro K9 hK9 jK70
        obtain ⟨x1, hbx1, hx1, F⟩ := ix_some F
        obtain ⟨hg2, F⟩ := gd_some F
        obtain ⟨x2, hbx2, hx2, F⟩ := ix_some F
        obtain ⟨hg3, F⟩ := gd_some F
        by_cases hp3 : (1 : Int) < (x1 - x2)
        ·
          replace F := ite_y hp3 F
          have hq3 := dec_t hp3
          refine CW.draw [] (fun _ => True) (.cons 0 1 (.cons 1 1 (.cons 2 1 (.cons 3 1 (.cons 4 1 (.cons 5 1 (.cons 6 1 (.cons 7 1 (.cons 8 1 (.cons 9 1 (.cons 10 1 (.cons 11 1 (.cons 12 1 (.cons 13 1 (.cons 14 1 (.cons 15 1 (.cons 16 1 (.cons 17 1 (.cons 18 1 (.cons 19 1 (.cons 20 1 (.cons 21 1 (.cons 22 1 (.cons 23 1 .nil)))))))))))))))))))))))) mixed (by kernel_rfl) fun w1 E1 => ?_
          replace H := H.grow E1
          replace R0 := H.ext
          refine DW.fix rfl rfl rfl (fun _ EQ => RV.move rfl) ?_
          refine DW.fix rfl rfl rfl (fun _ EQ => RV.move rfl) ?_
          refine DW.fix rfl rfl rfl (fun _ EQ => RV.indexAddr Ts25 rfl rfl hbx1 (h_a0.addr_ hx1)) ?_
          refine DW.fix rfl rfl rfl (fun _ EQ => RV.load1 Tk3 rfl ((h_a0.at_ hx1).ext (R0.trans EQ)) rfl) ?_
          refine DW.fix rfl rfl rfl (fun _ EQ => RV.move rfl) ?_
          refine DW.fix rfl rfl rfl (fun _ EQ => RV.move rfl) ?_
          refine DW.fix rfl rfl rfl (fun _ EQ => RV.sub rfl rfl hg2) ?_
          refine DW.fix rfl rfl rfl (fun _ EQ => RV.indexAddr Ts25 rfl rfl hbx2 (h_a0.addr_ hx2)) ?_
          refine DW.fix rfl rfl rfl (fun _ EQ => RV.load1 Tk3 rfl ((h_a0.at_ hx2).ext (R0.trans EQ)) rfl) ?_
          refine DW.fix rfl rfl rfl (fun _ EQ => RV.sub rfl rfl hg3) ?_
          refine DW.fix rfl rfl rfl (fun _ EQ => RV.gtr rfl rfl) ?_
          refine DW.fix rfl rfl rfl (fun _ EQ => RV.move rfl) ?_
          refine DW.fixNB rfl rfl rfl rfl rfl (ne_beq (v := true) hq3 rfl) ?_
          refine DW.fixNB rfl rfl rfl rfl rfl (ne_beq (v := true) hq3 rfl) ?_
          refine DW.fixNB rfl rfl rfl rfl rfl (ne_beq (v := true) hq3 rfl) ?_
          refine DW.fixNB rfl rfl rfl rfl rfl (ne_beq (v := true) hq3 rfl) ?_
          refine DW.fixNB rfl rfl rfl rfl rfl (ne_beq (v := true) hq3 rfl) ?_
          refine DW.fixNB rfl rfl rfl rfl rfl (ne_beq (v := true) hq3 rfl) ?_
          refine DW.fixNB rfl rfl rfl rfl rfl (ne_beq (v := true) hq3 rfl) ?_
          refine DW.fixNB rfl rfl rfl rfl rfl (ne_beq (v := true) hq3 rfl) ?_
          refine DW.fixNB rfl rfl rfl rfl rfl (ne_beq (v := true) hq3 rfl) ?_
          refine DW.fixNB rfl rfl rfl rfl rfl (ne_beq (v := true) hq3 rfl) ?_
          refine DW.fixNB rfl rfl rfl rfl rfl (ne_beq (v := true) hq3 rfl) ?_
          refine DW.fix rfl rfl rfl (fun _ EQ => RV.pickTB rfl hq3 rfl) ?_
          refine DW.nil (jK70 _ _ ⟨_, ?_, ⟨true, F, rfl, H⟩⟩)
          exact ⟨rfl, rfl, rfl, rfl, trivial⟩
        ·
          replace F := ite_n hp3 F
          have hq3 := dec_f hp3
          obtain ⟨hg4, F⟩ := gd_some F
          obtain ⟨x3, hbx3, hx3, F⟩ := ix_some F
          obtain ⟨x4, hbx4, hx4, F⟩ := ix_some F
          obtain ⟨hg5, F⟩ := gd_some F
          refine CW.draw [] (fun _ => True) (.cons 0 1 (.cons 1 1 (.cons 2 1 (.cons 3 1 (.cons 4 1 (.cons 5 1 (.cons 6 1 (.cons 7 1 (.cons 8 1 (.cons 9 1 (.cons 10 1 (.cons 11 1 (.cons 12 1 (.cons 13 1 (.cons 14 1 (.cons 15 1 (.cons 16 1 (.cons 17 1 (.cons 18 1 (.cons 19 1 (.cons 20 1 (.cons 21 1 (.cons 22 1 (.cons 23 1 .nil)))))))))))))))))))))))) mixed (by kernel_rfl) fun w2 E2 => ?_
          replace H := H.grow E2
          replace R0 := H.ext
          refine DW.fix rfl rfl rfl (fun _ EQ => RV.move rfl) ?_
          refine DW.fix rfl rfl rfl (fun _ EQ => RV.move rfl) ?_
          refine DW.fix rfl rfl rfl (fun _ EQ => RV.indexAddr Ts25 rfl rfl hbx1 (h_a0.addr_ hx1)) ?_
          refine DW.fix rfl rfl rfl (fun _ EQ => RV.load1 Tk3 rfl ((h_a0.at_ hx1).ext (R0.trans EQ)) rfl) ?_
          refine DW.fix rfl rfl rfl (fun _ EQ => RV.move rfl) ?_
          refine DW.fix rfl rfl rfl (fun _ EQ => RV.move rfl) ?_
          refine DW.fix rfl rfl rfl (fun _ EQ => RV.sub rfl rfl hg2) ?_
          refine DW.fix rfl rfl rfl (fun _ EQ => RV.indexAddr Ts25 rfl rfl hbx2 (h_a0.addr_ hx2)) ?_
          refine DW.fix rfl rfl rfl (fun _ EQ => RV.load1 Tk3 rfl ((h_a0.at_ hx2).ext (R0.trans EQ)) rfl) ?_
          refine DW.fix rfl rfl rfl (fun _ EQ => RV.sub rfl rfl hg3) ?_
          refine DW.fix rfl rfl rfl (fun _ EQ => RV.gtr rfl rfl) ?_
          refine DW.fix rfl rfl rfl (fun _ EQ => RV.move rfl) ?_
          refine DW.fixYB rfl rfl rfl rfl rfl hq3 (fun _ EQ => RV.move rfl) ?_
          refine DW.fixYB rfl rfl rfl rfl rfl hq3 (fun _ EQ => RV.move rfl) ?_
          refine DW.fixYB rfl rfl rfl rfl rfl hq3 (fun _ EQ => RV.sub rfl rfl hg4) ?_
          refine DW.fixYB rfl rfl rfl rfl rfl hq3 (fun _ EQ => RV.indexAddr Ts25 rfl rfl hbx3 (h_a0.addr_ hx3)) ?_
          refine DW.fixYB rfl rfl rfl rfl rfl hq3 (fun _ EQ => RV.load1 Tk3 rfl ((h_a0.at_ hx3).ext (R0.trans EQ)) rfl) ?_
          refine DW.fixYB rfl rfl rfl rfl rfl hq3 (fun _ EQ => RV.move rfl) ?_
          refine DW.fixYB rfl rfl rfl rfl rfl hq3 (fun _ EQ => RV.move rfl) ?_
          refine DW.fixYB rfl rfl rfl rfl rfl hq3 (fun _ EQ => RV.indexAddr Ts25 rfl rfl hbx4 (h_a0.addr_ hx4)) ?_
          refine DW.fixYB rfl rfl rfl rfl rfl hq3 (fun _ EQ => RV.load1 Tk3 rfl ((h_a0.at_ hx4).ext (R0.trans EQ)) rfl) ?_
          refine DW.fixYB rfl rfl rfl rfl rfl hq3 (fun _ EQ => RV.sub rfl rfl hg5) ?_
          refine DW.fixYB rfl rfl rfl rfl rfl hq3 (fun _ EQ => RV.gtr rfl rfl) ?_
          refine DW.fix rfl rfl rfl (fun _ EQ => RV.pickFB rfl hq3 rfl) ?_
          refine DW.nil (jK70 _ _ ⟨_, ?_, ⟨(decide ((1 : Int) < (x3 - x4))), F, rfl, H⟩⟩)
          exact ⟨rfl, rfl, rfl, rfl, trivial⟩
    ·
      replace F := ite_n hp1 F
      have hq1 := dec_f hp1
      refine CW.condF rfl hq1 ?_
      refine CW.exit (jK54 _ _ ⟨_, ?_, ⟨F, rfl, H⟩⟩)
      exact ⟨rfl, trivial⟩
end Go.D4

set_option linter.unusedVariables false
set_option linter.unusedSimpArgs false
namespace Go.D4
open Go.Tb Go.Proofs Go.RowKit
theorem Tc17 : callable Try.prog 17 = true := by kernel_rfl
theorem Tc18 : callable Try.prog 18 = true := by kernel_rfl
theorem Tc72 : callable Try.prog 72 = true := by kernel_rfl
set_option maxRecDepth 20000 in
set_option maxHeartbeats 1000000 in
theorem ref04_worth_ok {a0 : Bog} {a1 : List Int} {A_a0_worth : Option Addr} {c_a0_worth : Nat} {A_a1 : Option Addr} {c_a1 : Nat} {w : World} {res : Int} (h_a0_worth : Sl2 w A_a0_worth c_a0_worth 1 encN a0.worth) (h_a1 : Sl w A_a1 c_a1 1 (a1.map encN)) (F : ref04_worth a0 a1 = some res) : Calls Try.prog 66 #[.agg #[.slice A_a0_worth a0.worth.length c_a0_worth], .slice A_a1 a1.length c_a1] w (Rt w (.int .i64 res)) := by
  refine calls_of_cw (args := [.agg #[.slice A_a0_worth a0.worth.length c_a0_worth], .slice A_a1 a1.length c_a1]) Try.func66 rfl rfl rfl rfl ?_
  have H := Hp.start w
  have R0 := H.ext
  unfold ref04_worth at F
  refine CW.seq fun K1 hK1 => ?_
  refine CW.region ?_
  refine LW.go rfl rfl (OW.box rfl fun b1 w1 N1 => ?_)
  replace H := H.new N1 N1.blk
  replace R0 := H.ext
  refine LW.pure rfl rfl (RV.assign rfl) ?_
  refine LW.nil (hK1 _ _ ?_)
  refine CW.seq fun K2 hK2 => ?_
  refine CW.region ?_
  refine LW.pure rfl rfl (RV.assign rfl) ?_
  refine LW.nil (hK2 _ _ ?_)
  refine CW.seqJ (fun ρ wl1 => (∃ (t5_1 : Int), ref04_worth_k1 t5_1 = some res ∧ ρ = [(4, .int .i64 0), (5, .int .i64 t5_1)] ∧ Hp w wl1 [])) ?_ ?_
  ·
    rintro _ wl1 ⟨t5_1, F, rfl, H⟩
    have R0 := H.ext
    unfold ref04_worth_k1 at F
    refine CW.seq fun K3 hK3 => ?_
    refine CW.region ?_
    refine LW.pure rfl rfl (RV.move rfl) ?_
    refine LW.pure rfl rfl (RV.assign rfl) ?_
    refine LW.nil (hK3 _ _ ?_)
    refine CW.ret ?_
    obtain rfl := Option.some.inj F
    refine ⟨_, (ResOK.one rfl), ?_⟩
    refine ⟨(by first | rfl | simp), R0⟩
  ·
    intro K4 hK4 jK218
    refine CW.seq fun K5 hK5 => ?_
    refine CW.region ?_
    refine LW.pure rfl rfl (RV.assign rfl) ?_
    refine LW.nil (hK5 _ _ ?_)
    refine CW.block ?_
    refine CW.loop (fun meas ρ wl2 => ∃ (t5_4 : Int) (t6_1 : Int), ref04_worth_L2 a0 a1 meas t5_4 t6_1 = some res ∧ ρ = [(1, .slice A_a1 a1.length c_a1), (2, .pointer (some (⟨b1, 0, none⟩))), (4, .int .i64 0), (5, .int .i64 t5_4), (6, .int .i64 t6_1)] ∧ Hp w wl2 [.blk b1 24 [.slice A_a0_worth a0.worth.length c_a0_worth]]) FU ⟨_, ?_, ((0 : Int)), ((0 : Int)), F, rfl, H⟩ ?_
    · exact ⟨rfl, rfl, rfl, rfl, rfl, trivial⟩
    rintro mk1 _ wl2 ⟨t5_4, t6_1, F, rfl, H⟩
    have R0 := H.ext
    replace F := ref04_worth_L2_s F
    obtain ⟨mk1, rfl, F⟩ := F
    generalize hrec1 : ref04_worth_L2 a0 a1 mk1 = rec1 at F
    unfold ref04_worth_B2 at F
    refine CW.seq fun K6 hK6 => ?_
    refine CW.seq fun K7 hK7 => ?_
    refine CW.region ?_
    refine LW.pure rfl rfl (RV.move rfl) ?_
    refine LW.pure rfl rfl (RV.move rfl) ?_
    refine LW.pure rfl rfl (RV.len Ts25 rfl) ?_
    refine LW.pure rfl rfl (RV.lss rfl rfl) ?_
    refine LW.nil (hK7 _ _ ?_)
    by_cases hp1 : t6_1 < ((a1.length : Int))
    ·
      replace F := ite_y hp1 F
      have hq1 := dec_t hp1
      refine CW.condT rfl hq1 ?_
      refine CW.skip (hK6 _ _ ?_)
      refine CW.seqJ (fun ρ wl3 => (∃ (t5_2 : Int), ref04_worth_k2 t6_1 rec1 t5_2 = some res ∧ ρ = [(1, .slice A_a1 a1.length c_a1), (2, .pointer (some (⟨b1, 0, none⟩))), (4, .int .i64 0), (5, .int .i64 t5_2), (6, .int .i64 t6_1)] ∧ Hp w wl3 [.blk b1 24 [.slice A_a0_worth a0.worth.length c_a0_worth]])) ?_ ?_
      ·
        rintro _ wl3 ⟨t5_2, F, rfl, H⟩
        have R0 := H.ext
        unfold ref04_worth_k2 at F
        obtain ⟨hg1, F⟩ := gd_some F
        refine CW.region ?_
        refine LW.pure rfl rfl (RV.move rfl) ?_
        refine LW.pure rfl rfl (RV.add rfl rfl hg1) ?_
        refine LW.pure rfl rfl (RV.assign rfl) ?_
        refine LW.nil ?_
        subst hrec1
        refine ⟨mk1, Nat.lt_succ_self _, _, ?_, t5_2, (t6_1 + 1), F, rfl, H⟩
        exact ⟨rfl, rfl, rfl, rfl, rfl, trivial⟩
      ·
        intro K8 hK8 jK278
        refine CW.block ?_
        refine CW.seq fun K9 hK9 => ?_
        refine CW.region ?_
        refine LW.pure rfl rfl (RV.assign rfl) ?_
        refine LW.nil (hK9 _ _ ?_)
        refine CW.block ?_
        refine CW.loop (fun meas ρ wl4 => ∃ (t5_3 : Int) (t7_1 : Int), ref04_worth_L1 a0 a1 t6_1 rec1 meas t5_3 t7_1 = some res ∧ ρ = [(1, .slice A_a1 a1.length c_a1), (2, .pointer (some (⟨b1, 0, none⟩))), (4, .int .i64 0), (5, .int .i64 t5_3), (6, .int .i64 t6_1), (7, .int .i64 t7_1)] ∧ Hp w wl4 [.blk b1 24 [.slice A_a0_worth a0.worth.length c_a0_worth]]) FU ⟨_, ?_, t5_4, ((0 : Int)), F, rfl, H⟩ ?_
        · exact ⟨rfl, rfl, rfl, rfl, rfl, rfl, trivial⟩
        rintro mk2 _ wl4 ⟨t5_3, t7_1, F, rfl, H⟩
        have R0 := H.ext
        replace F := ref04_worth_L1_s F
        obtain ⟨mk2, rfl, F⟩ := F
        generalize hrec2 : ref04_worth_L1 a0 a1 t6_1 rec1 mk2 = rec2 at F
        unfold ref04_worth_B1 at F
        refine CW.seq fun K10 hK10 => ?_
        refine CW.seq fun K11 hK11 => ?_
        obtain ⟨x1, hbx1, hx1, F⟩ := ix_some F
        refine CW.region ?_
        refine LW.pure rfl rfl (RV.move rfl) ?_
        refine LW.pure rfl rfl (RV.move rfl) ?_
        refine LW.pure rfl rfl (RV.move rfl) ?_
        refine LW.pure rfl rfl (RV.indexAddr Ts25 rfl rfl hbx1 (h_a1.addr_ hx1)) ?_
        refine LW.pure rfl rfl (RV.load1 Tk3 rfl ((h_a1.at_ hx1).ext R0) rfl) ?_
        refine LW.pure rfl rfl (RV.lss rfl rfl) ?_
        refine LW.nil (hK11 _ _ ?_)
        by_cases hp2 : t7_1 < x1
        ·
          replace F := ite_y hp2 F
          have hq2 := dec_t hp2
          refine CW.condT rfl hq2 ?_
          refine CW.skip (hK10 _ _ ?_)
          refine CW.seq fun K12 hK12 => ?_
          refine CW.block ?_
          obtain ⟨x2, hbx2, hx2, F⟩ := ix_some F
          obtain ⟨x3, hbx3, hx3, F⟩ := ix_some F
          obtain ⟨hg2, F⟩ := gd_some F
          refine CW.region ?_
          refine LW.pure rfl rfl (RV.move rfl) ?_
          refine LW.pure rfl rfl (RV.fieldAddr Tf24_0 rfl) ?_
          refine LW.pure rfl rfl (RV.load1 Tk22 rfl ((H.blk 0 rfl).cells.off 0) rfl) ?_
          refine LW.pure rfl rfl (RV.move rfl) ?_
          obtain ⟨A1, c1, hC1, hS1⟩ := h_a0_worth.at_ hx2
          refine LW.pure rfl rfl (RV.indexAddr Ts22 rfl rfl hbx2 (h_a0_worth.addr hbx2)) ?_
          refine LW.pure rfl rfl (RV.load1 Tk25 rfl (hC1.ext R0) rfl) ?_
          refine LW.pure rfl rfl (RV.move rfl) ?_
          refine LW.pure rfl rfl (RV.indexAddr Ts25 rfl rfl hbx3 (hS1.addr_ hx3)) ?_
          refine LW.pure rfl rfl (RV.load1 Tk3 rfl ((hS1.at_ hx3).ext R0) rfl) ?_
          refine LW.pure rfl rfl (RV.add rfl rfl hg2) ?_
          refine LW.pure rfl rfl (RV.assign rfl) ?_
          refine LW.nil (hK12 _ _ ?_)
          obtain ⟨hg3, F⟩ := gd_some F
          refine CW.region ?_
          refine LW.pure rfl rfl (RV.move rfl) ?_
          refine LW.pure rfl rfl (RV.add rfl rfl hg3) ?_
          refine LW.pure rfl rfl (RV.assign rfl) ?_
          refine LW.nil ?_
          subst hrec2
          refine ⟨mk2, Nat.lt_succ_self _, _, ?_, (t5_3 + x3), (t7_1 + 1), F, rfl, H⟩
          exact ⟨rfl, rfl, rfl, rfl, rfl, rfl, trivial⟩
        ·
          replace F := ite_n hp2 F
          have hq2 := dec_f hp2
          refine CW.condF rfl hq2 ?_
          refine CW.exit (jK278 _ _ ⟨_, ?_, ⟨t5_3, F, rfl, H⟩⟩)
          exact ⟨rfl, rfl, rfl, rfl, rfl, trivial⟩
    ·
      replace F := ite_n hp1 F
      have hq1 := dec_f hp1
      refine CW.condF rfl hq1 ?_
      replace H := H.pick (L' := []) [] (by decide) rfl
      replace R0 := H.ext
      refine CW.exit (jK218 _ _ ⟨_, ?_, ⟨t5_4, F, rfl, H⟩⟩)
      exact ⟨rfl, rfl, trivial⟩
end Go.D4

set_option linter.unusedVariables false
set_option linter.unusedSimpArgs false
namespace Go.D4
open Go.Tb Go.Proofs Go.RowKit
theorem Tc66 : callable Try.prog 66 = true := by kernel_rfl
set_option maxRecDepth 20000 in
set_option maxHeartbeats 1000000 in
theorem ref04_least_ok {a0 : List (List Int)} {A_a0 : Option Addr} {c_a0 : Nat} {w : World} {res : (List Int)} (h_a0 : Sl2 w A_a0 c_a0 1 encN a0) (F : ref04_least a0 = some res) : Calls Try.prog 76 #[.slice A_a0 a0.length c_a0] w (fun e w' => ∃ (A1 : Option Addr) (c1 : Nat), e = .returned (.slice A1 res.length c1) ∧ Hp w w' [.own A1 c1 3 1 (List.map encN res)]) := by
  refine calls_of_cw (args := [.slice A_a0 a0.length c_a0]) Try.func76 rfl rfl rfl rfl ?_
  have H := Hp.start w
  have R0 := H.ext
  unfold ref04_least at F
  refine CW.seq fun K1 hK1 => ?_
  refine CW.region ?_
  refine LW.pure rfl rfl (RV.assign rfl) ?_
  refine LW.nil (hK1 _ _ ?_)
  refine CW.seq fun K2 hK2 => ?_
  obtain ⟨x5, hbx5, hx5, F⟩ := ix_some F
  obtain ⟨hg1, F⟩ := gd_some F
  refine CW.region ?_
  refine LW.go rfl rfl (OW.buildSlice (e := 3) (vs := []) (cs := []) rfl (fun _ => by kernel_rfl) fun b1 w1 N1 => ?_)
  replace H := H.made' (k := 1) (t := 3) (enc := encN) (l := ([] : List Int)) N1 N1.blk (fun _ => rfl) rfl (by first | decide | omega | (simp; done) | (simp; omega))
  replace R0 := H.ext
  refine LW.pure rfl rfl (RV.move rfl) ?_
  obtain ⟨A2, c2, hC1, hS1⟩ := h_a0.at_ hx5
  refine LW.pure rfl rfl (RV.indexAddr Ts22 rfl rfl hbx5 (h_a0.addr hbx5)) ?_
  refine LW.pure rfl rfl (RV.load1 Tk25 rfl (hC1.ext R0) rfl) ?_
  refine LW.go rfl rfl (OW.appendG (enc := encN) (l := ([] : List Int)) (xs := x5) Ts25 (look_slice rfl (by first | rfl | (simp; done) | (simp; omega))) rfl (H.own 0 rfl) (hS1.ext R0) (fun _ => rfl) rfl rfl hg1 (by decide) fun A3 c3 w2 O1 M1 D1 => ?_)
  replace H : Hp w w2 [.own A3 c3 3 1 (List.map encN ((([] : List Int) ++ x5)))] := H.mod 0 rfl M1 O1 D1
  replace R0 := H.ext
  refine LW.pure rfl rfl (RV.assign rfl) ?_
  refine LW.nil (hK2 _ _ ?_)
  refine CW.seqJ (fun ρ wl1 => (∃ (l1 : List Int), ref04_least_k1 l1 = some res ∧ ρ = [(2, .slice none 0 0), (3, .slice A3 l1.length c3)] ∧ Hp w wl1 [.own A3 c3 3 1 (List.map encN l1)])) ?_ ?_
  ·
    rintro _ wl1 ⟨l1, F, rfl, H⟩
    have R0 := H.ext
    unfold ref04_least_k1 at F
    refine CW.seq fun K3 hK3 => ?_
    refine CW.region ?_
    refine LW.pure rfl rfl (RV.move rfl) ?_
    refine LW.pure rfl rfl (RV.assign rfl) ?_
    refine LW.nil (hK3 _ _ ?_)
    refine CW.ret ?_
    obtain rfl := Option.some.inj F
    refine ⟨_, (ResOK.one rfl), ?_⟩
    exact ⟨A3, c3, (by first | rfl | (simp; done) | (simp; omega)), H⟩
  ·
    intro K4 hK4 jK218
    refine CW.seq fun K5 hK5 => ?_
    refine CW.region ?_
    refine LW.pure rfl rfl (RV.assign rfl) ?_
    refine LW.nil (hK5 _ _ ?_)
    refine CW.block ?_
    refine CW.loop (fun meas ρ wl2 => ∃ (t4_1 : Int) (l4 : List Int), ref04_least_L2 a0 meas t4_1 l4 = some res ∧ ρ = [(0, .slice A_a0 a0.length c_a0), (2, .slice none 0 0), (3, .slice A3 l4.length c3), (4, .int .i64 t4_1)] ∧ Hp w wl2 [.own A3 c3 3 1 (List.map encN l4)]) FU ⟨_, ?_, ((0 : Int)), ((([] : List Int) ++ x5)), F, rfl, H⟩ ?_
    · exact ⟨rfl, rfl, (look_slice rfl (by first | rfl | (simp; done) | (simp; omega))), rfl, trivial⟩
    rintro mk1 _ wl2 ⟨t4_1, l4, F, rfl, H⟩
    have R0 := H.ext
    replace F := ref04_least_L2_s F
    obtain ⟨mk1, rfl, F⟩ := F
    generalize hrec1 : ref04_least_L2 a0 mk1 = rec1 at F
    unfold ref04_least_B2 at F
    refine CW.seq fun K6 hK6 => ?_
    refine CW.seq fun K7 hK7 => ?_
    refine CW.region ?_
    refine LW.pure rfl rfl (RV.move rfl) ?_
    refine LW.pure rfl rfl (RV.move rfl) ?_
    refine LW.pure rfl rfl (RV.len Ts22 rfl) ?_
    refine LW.pure rfl rfl (RV.lss rfl rfl) ?_
    refine LW.nil (hK7 _ _ ?_)
    by_cases hp1 : t4_1 < ((a0.length : Int))
    ·
      replace F := ite_y hp1 F
      have hq1 := dec_t hp1
      refine CW.condT rfl hq1 ?_
      refine CW.skip (hK6 _ _ ?_)
      refine CW.seqJ (fun ρ wl3 => (∃ (l2 : List Int), ref04_least_k2 t4_1 rec1 l2 = some res ∧ ρ = [(0, .slice A_a0 a0.length c_a0), (2, .slice none 0 0), (3, .slice A3 l2.length c3), (4, .int .i64 t4_1)] ∧ Hp w wl3 [.own A3 c3 3 1 (List.map encN l2)])) ?_ ?_
      ·
        rintro _ wl3 ⟨l2, F, rfl, H⟩
        have R0 := H.ext
        unfold ref04_least_k2 at F
        obtain ⟨hg2, F⟩ := gd_some F
        refine CW.region ?_
        refine LW.pure rfl rfl (RV.move rfl) ?_
        refine LW.pure rfl rfl (RV.add rfl rfl hg2) ?_
        refine LW.pure rfl rfl (RV.assign rfl) ?_
        refine LW.nil ?_
        subst hrec1
        refine ⟨mk1, Nat.lt_succ_self _, _, ?_, (t4_1 + 1), l2, F, rfl, H⟩
        exact ⟨rfl, rfl, (look_slice rfl (by first | rfl | (simp; done) | (simp; omega))), rfl, trivial⟩
      ·
        intro K8 hK8 jK278
        refine CW.block ?_
        refine CW.seq fun K9 hK9 => ?_
        refine CW.region ?_
        refine LW.pure rfl rfl (RV.assign rfl) ?_
        refine LW.nil (hK9 _ _ ?_)
        refine CW.block ?_
        refine CW.loop (fun meas ρ wl4 => ∃ (t5_1 : Int) (l3 : List Int), ref04_least_L1 a0 t4_1 rec1 meas t5_1 l3 = some res ∧ ρ = [(0, .slice A_a0 a0.length c_a0), (2, .slice none 0 0), (3, .slice A3 l3.length c3), (4, .int .i64 t4_1), (5, .int .i64 t5_1)] ∧ Hp w wl4 [.own A3 c3 3 1 (List.map encN l3)]) FU ⟨_, ?_, ((0 : Int)), l4, F, rfl, H⟩ ?_
        · exact ⟨rfl, rfl, (look_slice rfl (by first | rfl | (simp; done) | (simp; omega))), rfl, rfl, trivial⟩
        rintro mk2 _ wl4 ⟨t5_1, l3, F, rfl, H⟩
        have R0 := H.ext
        replace F := ref04_least_L1_s F
        obtain ⟨mk2, rfl, F⟩ := F
        generalize hrec2 : ref04_least_L1 a0 t4_1 rec1 mk2 = rec2 at F
        unfold ref04_least_B1 at F
        refine CW.seq fun K10 hK10 => ?_
        refine CW.seq fun K11 hK11 => ?_
        refine CW.region ?_
        refine LW.pure rfl rfl (RV.move rfl) ?_
        refine LW.pure rfl rfl (RV.move rfl) ?_
        refine LW.pure rfl rfl (RV.len Ts25 rfl) ?_
        refine LW.pure rfl rfl (RV.lss rfl rfl) ?_
        refine LW.nil (hK11 _ _ ?_)
        by_cases hp2 : t5_1 < ((l3.length : Int))
        ·
          replace F := ite_y hp2 F
          have hq2 := dec_t hp2
          refine CW.condT rfl hq2 ?_
          refine CW.skip (hK10 _ _ ?_)
          refine CW.seq fun K12 hK12 => ?_
          refine CW.block ?_
          obtain ⟨x1, hbx1, hx1, F⟩ := ix_some F
          obtain ⟨x2, hbx2, hx2, F⟩ := ix_some F
          obtain ⟨x3, hbx3, hx3, F⟩ := ix_some F
          obtain ⟨x4, hbx4, hx4, F⟩ := ix_some F
          refine CW.draw [15] (fun _ => True) (.cons 0 1 (.cons 1 1 (.cons 2 1 (.cons 3 1 (.cons 4 1 (.cons 5 1 (.cons 6 1 (.cons 7 1 (.cons 8 1 (.cons 9 1 (.cons 10 1 (.cons 11 1 (.cons 12 1 (.cons 13 1 (.cons 14 1 (.cons 15 0 .nil)))))))))))))))) mixed (by kernel_rfl) fun w3 E1 => ?_
          replace H := H.grow E1
          replace R0 := H.ext
          refine DW.fix rfl rfl rfl (fun _ EQ => RV.move rfl) ?_
          refine DW.fix rfl rfl rfl (fun _ EQ => RV.move rfl) ?_
          refine DW.fix rfl rfl rfl (fun _ EQ => RV.move rfl) ?_
          refine DW.fix rfl rfl rfl (fun _ EQ => RV.move rfl) ?_
          refine DW.fix rfl rfl rfl (fun _ EQ => RV.indexAddr Ts25 rfl rfl hbx1 ((H.own 0 rfl).sl.addr_ hx1)) ?_
          refine DW.fix rfl rfl rfl (fun _ EQ => RV.load1 Tk3 rfl (((H.grow EQ).own 0 rfl).sl.at_ hx1) rfl) ?_
          refine DW.fix rfl rfl rfl (fun _ EQ => RV.move rfl) ?_
          refine DW.fix rfl rfl rfl (fun _ EQ => RV.move rfl) ?_
          obtain ⟨A4, c4, hC2, hS2⟩ := h_a0.at_ hx2
          refine DW.fix rfl rfl rfl (fun _ EQ => RV.indexAddr Ts22 rfl rfl hbx2 (h_a0.addr hbx2)) ?_
          refine DW.fix rfl rfl rfl (fun _ EQ => RV.load1 Tk25 rfl (hC2.ext (R0.trans EQ)) rfl) ?_
          refine DW.fix rfl rfl rfl (fun _ EQ => RV.move rfl) ?_
          refine DW.fix rfl rfl rfl (fun _ EQ => RV.indexAddr Ts25 rfl rfl hbx3 (hS2.addr_ hx3)) ?_
          refine DW.fix rfl rfl rfl (fun _ EQ => RV.load1 Tk3 rfl ((hS2.at_ hx3).ext (R0.trans EQ)) rfl) ?_
          refine DW.fix rfl rfl rfl (fun _ EQ => RV.min2 rfl rfl) ?_
          refine DW.fix rfl rfl rfl (fun _ EQ => RV.indexAddr Ts25 rfl rfl hbx4 ((H.own 0 rfl).sl.addr_ hx4)) ?_
          refine DW.sole rfl rfl rfl (OW.storeO (enc := encN) (vs := [.int .i64 (min x1 x3)]) 0 (min x1 x3) Tk3 rfl rfl (H.own 0 rfl) (fun _ => rfl) rfl hx4 rfl rfl (by decide) rfl rfl fun w4 M2 O2 => ?_)
          refine ⟨fun h => absurd h (by decide), M2.modx (fun _ _ => trivial), ?_⟩
          replace H : Hp w w4 [.own A3 c3 3 1 (List.map encN ((l3.set (Int.toNat t5_1) (min x1 x3))))] := H.mod 0 rfl M2 O2 (.inl rfl)
          replace R0 := H.ext
          refine DW.nil (hK12 _ _ ?_)
          obtain ⟨hg3, F⟩ := gd_some F
          refine CW.region ?_
          refine LW.pure rfl rfl (RV.move rfl) ?_
          refine LW.pure rfl rfl (RV.add rfl rfl hg3) ?_
          refine LW.pure rfl rfl (RV.assign rfl) ?_
          refine LW.nil ?_
          subst hrec2
          refine ⟨mk2, Nat.lt_succ_self _, _, ?_, (t5_1 + 1), ((l3.set (Int.toNat t5_1) (min x1 x3))), F, rfl, H⟩
          exact ⟨rfl, rfl, (look_slice rfl (by first | rfl | (simp; done) | (simp; omega))), rfl, rfl, trivial⟩
        ·
          replace F := ite_n hp2 F
          have hq2 := dec_f hp2
          refine CW.condF rfl hq2 ?_
          refine CW.exit (jK278 _ _ ⟨_, ?_, ⟨l3, F, rfl, H⟩⟩)
          exact ⟨rfl, rfl, (look_slice rfl (by first | rfl | (simp; done) | (simp; omega))), rfl, trivial⟩
    ·
      replace F := ite_n hp1 F
      have hq1 := dec_f hp1
      refine CW.condF rfl hq1 ?_
      refine CW.exit (jK218 _ _ ⟨_, ?_, ⟨l4, F, rfl, H⟩⟩)
      exact ⟨rfl, (look_slice rfl (by first | rfl | (simp; done) | (simp; omega))), trivial⟩
end Go.D4

set_option linter.unusedVariables false
set_option linter.unusedSimpArgs false
namespace Go.D4
open Go.Tb Go.Proofs Go.RowKit
theorem Tc76 : callable Try.prog 76 = true := by kernel_rfl
end Go.D4

set_option linter.unusedVariables false
set_option linter.unusedSimpArgs false
namespace Go.D4
open Go.Tb Go.Proofs Go.RowKit
theorem Tz24 : tyZ Try.prog 24 = some (.agg #[.slice none 0 0]) := by kernel_rfl
set_option maxRecDepth 20000 in
set_option maxHeartbeats 1000000 in
theorem ref04_Copy_ok {a0 : Bog} {A_a0_worth : Option Addr} {c_a0_worth : Nat} {w : World} {res : Bog} (h_a0_worth : Sl2 w A_a0_worth c_a0_worth 1 encN a0.worth) (F : ref04_Copy a0 = some res) : Calls Try.prog 43 #[.agg #[.slice A_a0_worth a0.worth.length c_a0_worth]] w (fun e w' => ∃ (A0_worth : Option Addr) (c0_worth : Nat) (hs0_worth : List (Option Addr × Nat)), e = .returned (.agg #[.slice A0_worth res.worth.length c0_worth]) ∧ Hp w w' [.tab A0_worth c0_worth 25 hs0_worth 3 1 (encM encN res.worth)]) := by
  refine calls_of_cw (args := [.agg #[.slice A_a0_worth a0.worth.length c_a0_worth]]) Try.func43 rfl rfl rfl rfl ?_
  have H := Hp.start w
  have R0 := H.ext
  unfold ref04_Copy at F
  refine CW.seq fun K1 hK1 => ?_
  refine CW.region ?_
  refine LW.go rfl rfl (OW.box rfl fun b1 w1 N1 => ?_)
  replace H := H.new N1 N1.blk
  replace R0 := H.ext
  refine LW.go rfl rfl (OW.alloc Tz24 fun b2 w2 N2 => ?_)
  replace H := H.new N2 N2.blk
  replace R0 := H.ext
  refine LW.nil (hK1 _ _ ?_)
  refine CW.seq fun K2 hK2 => ?_
  refine CW.region ?_
  refine LW.go rfl rfl (OW.alloc Tz24 fun b3 w3 N3 => ?_)
  replace H := H.new N3 N3.blk
  replace R0 := H.ext
  refine LW.nil (hK2 _ _ ?_)
  refine CW.seqJ (fun ρ wl1 => (∃ (m1 : List (List Int)) (hsm1 : List (Option Addr × Nat)) (Am1 : Option Addr) (cm1 : Nat), ref04_Copy_k1 m1 = some res ∧ ρ = [(2, .pointer (some (⟨b2, 0, none⟩))), (3, .pointer (some (⟨b3, 0, none⟩)))] ∧ Hp w wl1 [.tab Am1 cm1 25 hsm1 3 1 (encM encN m1), .blk b2 24 [.slice none 0 0], .blk b3 24 [.slice Am1 m1.length cm1]])) ?_ ?_
  ·
    rintro _ wl1 ⟨m1, hsm1, Am1, cm1, F, rfl, H⟩
    have R0 := H.ext
    unfold ref04_Copy_k1 at F
    refine CW.seq fun K3 hK3 => ?_
    refine CW.region ?_
    refine LW.pure rfl rfl (RV.loadA [.slice Am1 m1.length cm1] Tk24 rfl (H.blk 2 rfl).cells rfl rfl) ?_
    refine LW.go rfl rfl (OW.store Tk24 rfl rfl (H.blk 1 rfl) (off := 0) (vs := [.slice Am1 m1.length cm1]) rfl rfl rfl rfl rfl fun w4 S1 => ?_)
    replace H : Hp w w4 [.tab Am1 cm1 25 hsm1 3 1 (encM encN m1), .blk b2 24 [.slice Am1 m1.length cm1], .blk b3 24 [.slice Am1 m1.length cm1]] := H.stored 1 rfl S1
    replace R0 := H.ext
    refine LW.nil (hK3 _ _ ?_)
    refine CW.ret ?_
    obtain rfl := Option.some.inj F
    refine ⟨_, (ResOK.cell1 ⟨_, rfl, run_loadVar_agg Tk24 (H.blk 1 rfl).cells (us := [.slice Am1 m1.length cm1]) rfl rfl⟩), ?_⟩
    replace H := H.pick (L' := [.tab Am1 cm1 25 hsm1 3 1 (encM encN m1)]) [0] (by decide) rfl
    replace R0 := H.ext
    exact ⟨Am1, cm1, hsm1, (by first | rfl | (simp; done) | (simp; omega)), H⟩
  ·
    intro K4 hK4 jK38
    refine CW.seq fun K5 hK5 => ?_
    refine CW.region ?_
    refine LW.pure rfl rfl (RV.assign rfl) ?_
    refine LW.nil (hK5 _ _ ?_)
    refine CW.block ?_
    replace H := H.nilTab encN 25 3 1
    replace R0 := H.ext
    replace H := H.pick (L' := [.tab none 0 25 ([]) 3 1 (encM encN (([] : List (List Int)))), .blk b1 24 [.slice A_a0_worth a0.worth.length c_a0_worth], .blk b2 24 [.slice none 0 0], .blk b3 24 [.slice none 0 0]]) [0, 3, 2, 1] (by decide) rfl
    replace R0 := H.ext
    replace H := H.cast (L' := [.tab none 0 25 ([]) 3 1 (encM encN (([] : List (List Int)))), .blk b1 24 [.slice A_a0_worth a0.worth.length c_a0_worth], .blk b2 24 [.slice none 0 0], .blk b3 24 [.slice none ((([] : List (List Int))).length) 0]]) (by first | rfl | (simp only [List.length_set]; done) | simp)
    refine CW.loop (fun meas ρ wl2 => ∃ (t4_1 : Int) (m2 : List (List Int)) (hsm2 : List (Option Addr × Nat)) (Am2 : Option Addr) (cm2 : Nat), ref04_Copy_L1 a0 meas t4_1 m2 = some res ∧ ρ = [(1, .pointer (some (⟨b1, 0, none⟩))), (2, .pointer (some (⟨b2, 0, none⟩))), (3, .pointer (some (⟨b3, 0, none⟩))), (4, .int .i64 t4_1)] ∧ Hp w wl2 [.tab Am2 cm2 25 hsm2 3 1 (encM encN m2), .blk b1 24 [.slice A_a0_worth a0.worth.length c_a0_worth], .blk b2 24 [.slice none 0 0], .blk b3 24 [.slice Am2 m2.length cm2]]) FU ⟨_, ?_, ((0 : Int)), (([] : List (List Int))), ([]), none, 0, F, rfl, H⟩ ?_
    · exact ⟨rfl, rfl, rfl, rfl, trivial⟩
    rintro mk1 _ wl2 ⟨t4_1, m2, hsm2, Am2, cm2, F, rfl, H⟩
    have R0 := H.ext
    replace F := ref04_Copy_L1_s F
    obtain ⟨mk1, rfl, F⟩ := F
    generalize hrec1 : ref04_Copy_L1 a0 mk1 = rec1 at F
    unfold ref04_Copy_B1 at F
    refine CW.seq fun K6 hK6 => ?_
    refine CW.seq fun K7 hK7 => ?_
    refine CW.region ?_
    refine LW.pure rfl rfl (RV.move rfl) ?_
    refine LW.pure rfl rfl (RV.fieldAddr Tf24_0 rfl) ?_
    refine LW.pure rfl rfl (RV.load1 Tk22 rfl ((H.blk 1 rfl).cells.off 0) rfl) ?_
    refine LW.pure rfl rfl (RV.len Ts22 rfl) ?_
    refine LW.pure rfl rfl (RV.lss rfl rfl) ?_
    refine LW.nil (hK7 _ _ ?_)
    by_cases hp1 : t4_1 < ((a0.worth.length : Int))
    ·
      replace F := ite_y hp1 F
      have hq1 := dec_t hp1
      refine CW.condT rfl hq1 ?_
      refine CW.skip (hK6 _ _ ?_)
      refine CW.seq fun K8 hK8 => ?_
      refine CW.block ?_
      obtain ⟨x1, hbx1, hx1, F⟩ := ix_some F
      obtain ⟨hg1, F⟩ := gd_some F
      obtain ⟨hg2, F⟩ := gd_some F
      have H0 := H
      have hz : wl2.heap.size ≤ wl2.heap.size := Nat.le_refl _
      refine CW.draw [8, 10, 12] (XB wl2 [.tab Am2 cm2 25 hsm2 3 1 (encM encN m2), .blk b1 24 [.slice A_a0_worth a0.worth.length c_a0_worth], .blk b2 24 [.slice none 0 0], .blk b3 24 [.slice Am2 m2.length cm2]] [0, 3]) (.cons 0 2 (.cons 3 2 (.cons 4 2 (.cons 5 2 (.cons 6 2 (.cons 7 2 (.alt 1 (.cons 2 0 (.cons 8 0 (.cons 9 0 (.cons 10 0 (.cons 11 2 (.cons 12 0 .nil)))))) (.cons 2 0 (.alt 1 (.cons 8 0 (.cons 9 0 (.cons 10 0 (.cons 11 2 (.cons 12 0 .nil))))) (.cons 8 0 (.alt 1 (.cons 9 0 (.cons 10 0 (.cons 11 2 (.cons 12 0 .nil)))) (.cons 9 0 (.cons 1 0 (.cons 10 0 (.cons 11 2 (.cons 12 0 .nil)))))))))))))))) mixed (by kernel_rfl) fun w5 E1 => ?_
      replace H := H.grow E1
      replace R0 := H.ext
      replace hz := Nat.le_trans hz (Ext.size E1)
      refine DW.thru rfl rfl rfl (fun _ EQ => RV.fieldAddr Tf24_0 rfl) ?_
      refine DW.thru rfl rfl rfl (fun _ EQ => RV.fieldAddr Tf24_0 rfl) ?_
      refine DW.thru rfl rfl rfl (fun _ EQ => RV.load1 Tk22 rfl ((H.thruB 1 rfl EQ (H0.notX [0, 3] 1 rfl (by decide))).cells.off 0) rfl) ?_
      refine DW.thru rfl rfl rfl (fun _ EQ => RV.move rfl) ?_
      obtain ⟨A1, c1, hC1, hS1⟩ := h_a0_worth.at_ hx1
      refine DW.thru rfl rfl rfl (fun _ EQ => RV.indexAddr Ts22 rfl rfl hbx1 (h_a0_worth.addr hbx1)) ?_
      refine DW.thru rfl rfl rfl (fun _ EQ => RV.load1 Tk25 rfl (H0.old EQ R0 hC1) rfl) ?_
      refine DW.alt ?_ ?_
      ·
        refine DW.sole rfl rfl rfl (OW.value (RV.load1 Tk22 rfl ((H.blk 3 rfl).cells.off 0) rfl) ⟨fun _ => Ext.refl _, ModX.refl _ _, ?_⟩)
        refine DW.sole rfl rfl rfl (OW.buildSlice (e := 3) (vs := []) (cs := []) rfl (fun _ => by kernel_rfl) fun b4 w6 N4 => ?_)
        refine ⟨fun _ => N4.ext, ModX.ext N4.ext, ?_⟩
        have G0_b4 : wl2.heap.size ≤ b4 := by rw [N4.at_]; exact hz
        replace H := H.made' (k := 1) (t := 3) (enc := encN) (l := ([] : List Int)) N4 N4.blk (fun _ => rfl) rfl (by first | decide | omega | (simp; done) | (simp; omega))
        replace R0 := H.ext
        replace hz := Nat.le_trans hz (Ext.size N4.ext)
        refine DW.sole rfl rfl rfl (OW.appendG (enc := encN) (l := ([] : List Int)) (xs := x1) Ts25 (look_slice rfl (by first | rfl | (simp; done) | (simp; omega))) rfl (H.own 0 rfl) (hS1.ext R0) (fun _ => rfl) rfl rfl hg1 (by decide) fun A2 c2 w7 O1 M1 D1 => ?_)
        have G0_A2 := Fresh.nextZ (Fresh.at_ G0_b4) D1 hz
        refine ⟨fun h => absurd h (by decide), M1.modx (XB.newA (Fresh.at_ G0_b4)), ?_⟩
        replace H : Hp w w7 [.own A2 c2 3 1 (List.map encN ((([] : List Int) ++ x1))), .tab Am2 cm2 25 hsm2 3 1 (encM encN m2), .blk b1 24 [.slice A_a0_worth a0.worth.length c_a0_worth], .blk b2 24 [.slice none 0 0], .blk b3 24 [.slice Am2 m2.length cm2]] := H.mod 0 rfl M1 O1 D1
        replace R0 := H.ext
        replace hz := Nat.le_trans hz M1.size
        refine DW.sole rfl rfl rfl (OW.buildSlice (e := 25) (vs := [.slice A2 (((([] : List Int) ++ x1)).length) c2]) (cs := [.slice A2 (((([] : List Int) ++ x1)).length) c2]) rfl (fun _ => by kernel_rfl) fun b5 w8 N5 => ?_)
        refine ⟨fun _ => N5.ext, ModX.ext N5.ext, ?_⟩
        have G0_b5 : wl2.heap.size ≤ b5 := by rw [N5.at_]; exact hz
        replace H := H.made' (k := 1) (t := 25) (enc := encH) (l := [((A2, c2), List.map encN ((([] : List Int) ++ x1)))]) N5 (by have q := N5.blk; simp only [List.flatMap_cons, List.flatMap_nil, encH, List.length_map, List.append_nil, List.cons_append, List.nil_append]; first | done | exact q) (fun _ => rfl) rfl (by first | decide | omega | (simp; done) | (simp; omega))
        replace R0 := H.ext
        replace hz := Nat.le_trans hz (Ext.size N5.ext)
        refine DW.sole rfl rfl rfl (OW.appendT (enc := encN) (m := m2) (l := (([] : List Int) ++ x1)) Ts22 rfl rfl (H.tab 2 rfl) (H.own 0 rfl).sl rfl hg2 (by decide) fun A3 c3 w9 O2 M2 D2 => ?_)
        refine ⟨fun h => absurd h (by decide), M2.modx (XB.tabO 0 (by decide) rfl), ?_⟩
        replace H : Hp w w9 [.own (some ⟨b5, 0, none⟩) (([((A2, c2), List.map encN ((([] : List Int) ++ x1)))]).length) 25 1 (List.map encH ([((A2, c2), List.map encN ((([] : List Int) ++ x1)))])), .tab A3 c3 25 ((hsm2 ++ [(A2, c2)])) 3 1 (encM encN ((m2 ++ [(([] : List Int) ++ x1)]))), .blk b1 24 [.slice A_a0_worth a0.worth.length c_a0_worth], .blk b2 24 [.slice none 0 0], .blk b3 24 [.slice Am2 m2.length cm2]] := H.tabPush 2 1 (by decide) rfl rfl M2 D2 O2
        replace R0 := H.ext
        replace hz := Nat.le_trans hz M2.size
        refine DW.thru rfl rfl rfl (fun _ EQ => RV.fieldAddr Tf24_0 rfl) ?_
        refine DW.sole rfl rfl rfl (OW.store Tk22 rfl rfl (H.blk 4 rfl) (off := 0) (vs := [.slice A3 (((m2 ++ [(([] : List Int) ++ x1)])).length) c3]) rfl rfl rfl rfl rfl fun w10 S2 => ?_)
        refine ⟨fun h => absurd h (by decide), S2.modx (XB.in_ 3 (by decide) rfl (List.mem_singleton.2 rfl)), ?_⟩
        replace H : Hp w w10 [.own (some ⟨b5, 0, none⟩) (([((A2, c2), List.map encN ((([] : List Int) ++ x1)))]).length) 25 1 (List.map encH ([((A2, c2), List.map encN ((([] : List Int) ++ x1)))])), .tab A3 c3 25 ((hsm2 ++ [(A2, c2)])) 3 1 (encM encN ((m2 ++ [(([] : List Int) ++ x1)]))), .blk b1 24 [.slice A_a0_worth a0.worth.length c_a0_worth], .blk b2 24 [.slice none 0 0], .blk b3 24 [.slice A3 (((m2 ++ [(([] : List Int) ++ x1)])).length) c3]] := H.stored 4 rfl S2
        replace R0 := H.ext
        replace hz := Nat.le_trans hz (Nat.le_of_eq S2.size.symm)
        refine DW.nil (hK8 _ _ ?_)
        obtain ⟨hg3, F⟩ := gd_some F
        refine CW.region ?_
        refine LW.pure rfl rfl (RV.move rfl) ?_
        refine LW.pure rfl rfl (RV.add rfl rfl hg3) ?_
        refine LW.pure rfl rfl (RV.assign rfl) ?_
        refine LW.nil ?_
        replace H := H.pick (L' := [.tab A3 c3 25 ((hsm2 ++ [(A2, c2)])) 3 1 (encM encN ((m2 ++ [(([] : List Int) ++ x1)]))), .blk b1 24 [.slice A_a0_worth a0.worth.length c_a0_worth], .blk b2 24 [.slice none 0 0], .blk b3 24 [.slice A3 (((m2 ++ [(([] : List Int) ++ x1)])).length) c3]]) [1, 2, 3, 4] (by decide) rfl
        replace R0 := H.ext
        subst hrec1
        refine ⟨mk1, Nat.lt_succ_self _, _, ?_, (t4_1 + 1), ((m2 ++ [(([] : List Int) ++ x1)])), ((hsm2 ++ [(A2, c2)])), A3, c3, F, rfl, H⟩
        exact ⟨rfl, rfl, rfl, rfl, trivial⟩
      ·
        refine DW.sole rfl rfl rfl (OW.buildSlice (e := 3) (vs := []) (cs := []) rfl (fun _ => by kernel_rfl) fun b6 w11 N6 => ?_)
        refine ⟨fun _ => N6.ext, ModX.ext N6.ext, ?_⟩
        have G0_b6 : wl2.heap.size ≤ b6 := by rw [N6.at_]; exact hz
        replace H := H.made' (k := 1) (t := 3) (enc := encN) (l := ([] : List Int)) N6 N6.blk (fun _ => rfl) rfl (by first | decide | omega | (simp; done) | (simp; omega))
        replace R0 := H.ext
        replace hz := Nat.le_trans hz (Ext.size N6.ext)
        refine DW.alt ?_ ?_
        ·
          refine DW.sole rfl rfl rfl (OW.value (RV.load1 Tk22 rfl ((H.blk 4 rfl).cells.off 0) rfl) ⟨fun _ => Ext.refl _, ModX.refl _ _, ?_⟩)
          refine DW.sole rfl rfl rfl (OW.appendG (enc := encN) (l := ([] : List Int)) (xs := x1) Ts25 (look_slice rfl (by first | rfl | (simp; done) | (simp; omega))) rfl (H.own 0 rfl) (hS1.ext R0) (fun _ => rfl) rfl rfl hg1 (by decide) fun A4 c4 w12 O3 M3 D3 => ?_)
          have G0_A4 := Fresh.nextZ (Fresh.at_ G0_b6) D3 hz
          refine ⟨fun h => absurd h (by decide), M3.modx (XB.newA (Fresh.at_ G0_b6)), ?_⟩
          replace H : Hp w w12 [.own A4 c4 3 1 (List.map encN ((([] : List Int) ++ x1))), .tab Am2 cm2 25 hsm2 3 1 (encM encN m2), .blk b1 24 [.slice A_a0_worth a0.worth.length c_a0_worth], .blk b2 24 [.slice none 0 0], .blk b3 24 [.slice Am2 m2.length cm2]] := H.mod 0 rfl M3 O3 D3
          replace R0 := H.ext
          replace hz := Nat.le_trans hz M3.size
          refine DW.sole rfl rfl rfl (OW.buildSlice (e := 25) (vs := [.slice A4 (((([] : List Int) ++ x1)).length) c4]) (cs := [.slice A4 (((([] : List Int) ++ x1)).length) c4]) rfl (fun _ => by kernel_rfl) fun b7 w13 N7 => ?_)
          refine ⟨fun _ => N7.ext, ModX.ext N7.ext, ?_⟩
          have G0_b7 : wl2.heap.size ≤ b7 := by rw [N7.at_]; exact hz
          replace H := H.made' (k := 1) (t := 25) (enc := encH) (l := [((A4, c4), List.map encN ((([] : List Int) ++ x1)))]) N7 (by have q := N7.blk; simp only [List.flatMap_cons, List.flatMap_nil, encH, List.length_map, List.append_nil, List.cons_append, List.nil_append]; first | done | exact q) (fun _ => rfl) rfl (by first | decide | omega | (simp; done) | (simp; omega))
          replace R0 := H.ext
          replace hz := Nat.le_trans hz (Ext.size N7.ext)
          refine DW.sole rfl rfl rfl (OW.appendT (enc := encN) (m := m2) (l := (([] : List Int) ++ x1)) Ts22 rfl rfl (H.tab 2 rfl) (H.own 0 rfl).sl rfl hg2 (by decide) fun A5 c5 w14 O4 M4 D4 => ?_)
          refine ⟨fun h => absurd h (by decide), M4.modx (XB.tabO 0 (by decide) rfl), ?_⟩
          replace H : Hp w w14 [.own (some ⟨b7, 0, none⟩) (([((A4, c4), List.map encN ((([] : List Int) ++ x1)))]).length) 25 1 (List.map encH ([((A4, c4), List.map encN ((([] : List Int) ++ x1)))])), .tab A5 c5 25 ((hsm2 ++ [(A4, c4)])) 3 1 (encM encN ((m2 ++ [(([] : List Int) ++ x1)]))), .blk b1 24 [.slice A_a0_worth a0.worth.length c_a0_worth], .blk b2 24 [.slice none 0 0], .blk b3 24 [.slice Am2 m2.length cm2]] := H.tabPush 2 1 (by decide) rfl rfl M4 D4 O4
          replace R0 := H.ext
          replace hz := Nat.le_trans hz M4.size
          refine DW.thru rfl rfl rfl (fun _ EQ => RV.fieldAddr Tf24_0 rfl) ?_
          refine DW.sole rfl rfl rfl (OW.store Tk22 rfl rfl (H.blk 4 rfl) (off := 0) (vs := [.slice A5 (((m2 ++ [(([] : List Int) ++ x1)])).length) c5]) rfl rfl rfl rfl rfl fun w15 S3 => ?_)
          refine ⟨fun h => absurd h (by decide), S3.modx (XB.in_ 3 (by decide) rfl (List.mem_singleton.2 rfl)), ?_⟩
          replace H : Hp w w15 [.own (some ⟨b7, 0, none⟩) (([((A4, c4), List.map encN ((([] : List Int) ++ x1)))]).length) 25 1 (List.map encH ([((A4, c4), List.map encN ((([] : List Int) ++ x1)))])), .tab A5 c5 25 ((hsm2 ++ [(A4, c4)])) 3 1 (encM encN ((m2 ++ [(([] : List Int) ++ x1)]))), .blk b1 24 [.slice A_a0_worth a0.worth.length c_a0_worth], .blk b2 24 [.slice none 0 0], .blk b3 24 [.slice A5 (((m2 ++ [(([] : List Int) ++ x1)])).length) c5]] := H.stored 4 rfl S3
          replace R0 := H.ext
          replace hz := Nat.le_trans hz (Nat.le_of_eq S3.size.symm)
          refine DW.nil (hK8 _ _ ?_)
          obtain ⟨hg4, F⟩ := gd_some F
          refine CW.region ?_
          refine LW.pure rfl rfl (RV.move rfl) ?_
          refine LW.pure rfl rfl (RV.add rfl rfl hg4) ?_
          refine LW.pure rfl rfl (RV.assign rfl) ?_
          refine LW.nil ?_
          replace H := H.pick (L' := [.tab A5 c5 25 ((hsm2 ++ [(A4, c4)])) 3 1 (encM encN ((m2 ++ [(([] : List Int) ++ x1)]))), .blk b1 24 [.slice A_a0_worth a0.worth.length c_a0_worth], .blk b2 24 [.slice none 0 0], .blk b3 24 [.slice A5 (((m2 ++ [(([] : List Int) ++ x1)])).length) c5]]) [1, 2, 3, 4] (by decide) rfl
          replace R0 := H.ext
          subst hrec1
          refine ⟨mk1, Nat.lt_succ_self _, _, ?_, (t4_1 + 1), ((m2 ++ [(([] : List Int) ++ x1)])), ((hsm2 ++ [(A4, c4)])), A5, c5, F, rfl, H⟩
          exact ⟨rfl, rfl, rfl, rfl, trivial⟩
        ·
          refine DW.sole rfl rfl rfl (OW.appendG (enc := encN) (l := ([] : List Int)) (xs := x1) Ts25 (look_slice rfl (by first | rfl | (simp; done) | (simp; omega))) rfl (H.own 0 rfl) (hS1.ext R0) (fun _ => rfl) rfl rfl hg1 (by decide) fun A6 c6 w16 O5 M5 D5 => ?_)
          have G0_A6 := Fresh.nextZ (Fresh.at_ G0_b6) D5 hz
          refine ⟨fun h => absurd h (by decide), M5.modx (XB.newA (Fresh.at_ G0_b6)), ?_⟩
          replace H : Hp w w16 [.own A6 c6 3 1 (List.map encN ((([] : List Int) ++ x1))), .tab Am2 cm2 25 hsm2 3 1 (encM encN m2), .blk b1 24 [.slice A_a0_worth a0.worth.length c_a0_worth], .blk b2 24 [.slice none 0 0], .blk b3 24 [.slice Am2 m2.length cm2]] := H.mod 0 rfl M5 O5 D5
          replace R0 := H.ext
          replace hz := Nat.le_trans hz M5.size
          refine DW.alt ?_ ?_
          ·
            refine DW.sole rfl rfl rfl (OW.value (RV.load1 Tk22 rfl ((H.blk 4 rfl).cells.off 0) rfl) ⟨fun _ => Ext.refl _, ModX.refl _ _, ?_⟩)
            refine DW.sole rfl rfl rfl (OW.buildSlice (e := 25) (vs := [.slice A6 (((([] : List Int) ++ x1)).length) c6]) (cs := [.slice A6 (((([] : List Int) ++ x1)).length) c6]) rfl (fun _ => by kernel_rfl) fun b8 w17 N8 => ?_)
            refine ⟨fun _ => N8.ext, ModX.ext N8.ext, ?_⟩
            have G0_b8 : wl2.heap.size ≤ b8 := by rw [N8.at_]; exact hz
            replace H := H.made' (k := 1) (t := 25) (enc := encH) (l := [((A6, c6), List.map encN ((([] : List Int) ++ x1)))]) N8 (by have q := N8.blk; simp only [List.flatMap_cons, List.flatMap_nil, encH, List.length_map, List.append_nil, List.cons_append, List.nil_append]; first | done | exact q) (fun _ => rfl) rfl (by first | decide | omega | (simp; done) | (simp; omega))
            replace R0 := H.ext
            replace hz := Nat.le_trans hz (Ext.size N8.ext)
            refine DW.sole rfl rfl rfl (OW.appendT (enc := encN) (m := m2) (l := (([] : List Int) ++ x1)) Ts22 rfl rfl (H.tab 2 rfl) (H.own 0 rfl).sl rfl hg2 (by decide) fun A7 c7 w18 O6 M6 D6 => ?_)
            refine ⟨fun h => absurd h (by decide), M6.modx (XB.tabO 0 (by decide) rfl), ?_⟩
            replace H : Hp w w18 [.own (some ⟨b8, 0, none⟩) (([((A6, c6), List.map encN ((([] : List Int) ++ x1)))]).length) 25 1 (List.map encH ([((A6, c6), List.map encN ((([] : List Int) ++ x1)))])), .tab A7 c7 25 ((hsm2 ++ [(A6, c6)])) 3 1 (encM encN ((m2 ++ [(([] : List Int) ++ x1)]))), .blk b1 24 [.slice A_a0_worth a0.worth.length c_a0_worth], .blk b2 24 [.slice none 0 0], .blk b3 24 [.slice Am2 m2.length cm2]] := H.tabPush 2 1 (by decide) rfl rfl M6 D6 O6
            replace R0 := H.ext
            replace hz := Nat.le_trans hz M6.size
            refine DW.thru rfl rfl rfl (fun _ EQ => RV.fieldAddr Tf24_0 rfl) ?_
            refine DW.sole rfl rfl rfl (OW.store Tk22 rfl rfl (H.blk 4 rfl) (off := 0) (vs := [.slice A7 (((m2 ++ [(([] : List Int) ++ x1)])).length) c7]) rfl rfl rfl rfl rfl fun w19 S4 => ?_)
            refine ⟨fun h => absurd h (by decide), S4.modx (XB.in_ 3 (by decide) rfl (List.mem_singleton.2 rfl)), ?_⟩
            replace H : Hp w w19 [.own (some ⟨b8, 0, none⟩) (([((A6, c6), List.map encN ((([] : List Int) ++ x1)))]).length) 25 1 (List.map encH ([((A6, c6), List.map encN ((([] : List Int) ++ x1)))])), .tab A7 c7 25 ((hsm2 ++ [(A6, c6)])) 3 1 (encM encN ((m2 ++ [(([] : List Int) ++ x1)]))), .blk b1 24 [.slice A_a0_worth a0.worth.length c_a0_worth], .blk b2 24 [.slice none 0 0], .blk b3 24 [.slice A7 (((m2 ++ [(([] : List Int) ++ x1)])).length) c7]] := H.stored 4 rfl S4
            replace R0 := H.ext
            replace hz := Nat.le_trans hz (Nat.le_of_eq S4.size.symm)
            refine DW.nil (hK8 _ _ ?_)
            obtain ⟨hg5, F⟩ := gd_some F
            refine CW.region ?_
            refine LW.pure rfl rfl (RV.move rfl) ?_
            refine LW.pure rfl rfl (RV.add rfl rfl hg5) ?_
            refine LW.pure rfl rfl (RV.assign rfl) ?_
            refine LW.nil ?_
            replace H := H.pick (L' := [.tab A7 c7 25 ((hsm2 ++ [(A6, c6)])) 3 1 (encM encN ((m2 ++ [(([] : List Int) ++ x1)]))), .blk b1 24 [.slice A_a0_worth a0.worth.length c_a0_worth], .blk b2 24 [.slice none 0 0], .blk b3 24 [.slice A7 (((m2 ++ [(([] : List Int) ++ x1)])).length) c7]]) [1, 2, 3, 4] (by decide) rfl
            replace R0 := H.ext
            subst hrec1
            refine ⟨mk1, Nat.lt_succ_self _, _, ?_, (t4_1 + 1), ((m2 ++ [(([] : List Int) ++ x1)])), ((hsm2 ++ [(A6, c6)])), A7, c7, F, rfl, H⟩
            exact ⟨rfl, rfl, rfl, rfl, trivial⟩
          ·
            refine DW.sole rfl rfl rfl (OW.buildSlice (e := 25) (vs := [.slice A6 (((([] : List Int) ++ x1)).length) c6]) (cs := [.slice A6 (((([] : List Int) ++ x1)).length) c6]) rfl (fun _ => by kernel_rfl) fun b9 w20 N9 => ?_)
            refine ⟨fun _ => N9.ext, ModX.ext N9.ext, ?_⟩
            have G0_b9 : wl2.heap.size ≤ b9 := by rw [N9.at_]; exact hz
            replace H := H.made' (k := 1) (t := 25) (enc := encH) (l := [((A6, c6), List.map encN ((([] : List Int) ++ x1)))]) N9 (by have q := N9.blk; simp only [List.flatMap_cons, List.flatMap_nil, encH, List.length_map, List.append_nil, List.cons_append, List.nil_append]; first | done | exact q) (fun _ => rfl) rfl (by first | decide | omega | (simp; done) | (simp; omega))
            replace R0 := H.ext
            replace hz := Nat.le_trans hz (Ext.size N9.ext)
            refine DW.sole rfl rfl rfl (OW.value (RV.load1 Tk22 rfl ((H.blk 5 rfl).cells.off 0) rfl) ⟨fun _ => Ext.refl _, ModX.refl _ _, ?_⟩)
            refine DW.sole rfl rfl rfl (OW.appendT (enc := encN) (m := m2) (l := (([] : List Int) ++ x1)) Ts22 rfl rfl (H.tab 2 rfl) (H.own 0 rfl).sl rfl hg2 (by decide) fun A8 c8 w21 O7 M7 D7 => ?_)
            refine ⟨fun h => absurd h (by decide), M7.modx (XB.tabO 0 (by decide) rfl), ?_⟩
            replace H : Hp w w21 [.own (some ⟨b9, 0, none⟩) (([((A6, c6), List.map encN ((([] : List Int) ++ x1)))]).length) 25 1 (List.map encH ([((A6, c6), List.map encN ((([] : List Int) ++ x1)))])), .tab A8 c8 25 ((hsm2 ++ [(A6, c6)])) 3 1 (encM encN ((m2 ++ [(([] : List Int) ++ x1)]))), .blk b1 24 [.slice A_a0_worth a0.worth.length c_a0_worth], .blk b2 24 [.slice none 0 0], .blk b3 24 [.slice Am2 m2.length cm2]] := H.tabPush 2 1 (by decide) rfl rfl M7 D7 O7
            replace R0 := H.ext
            replace hz := Nat.le_trans hz M7.size
            refine DW.thru rfl rfl rfl (fun _ EQ => RV.fieldAddr Tf24_0 rfl) ?_
            refine DW.sole rfl rfl rfl (OW.store Tk22 rfl rfl (H.blk 4 rfl) (off := 0) (vs := [.slice A8 (((m2 ++ [(([] : List Int) ++ x1)])).length) c8]) rfl rfl rfl rfl rfl fun w22 S5 => ?_)
            refine ⟨fun h => absurd h (by decide), S5.modx (XB.in_ 3 (by decide) rfl (List.mem_singleton.2 rfl)), ?_⟩
            replace H : Hp w w22 [.own (some ⟨b9, 0, none⟩) (([((A6, c6), List.map encN ((([] : List Int) ++ x1)))]).length) 25 1 (List.map encH ([((A6, c6), List.map encN ((([] : List Int) ++ x1)))])), .tab A8 c8 25 ((hsm2 ++ [(A6, c6)])) 3 1 (encM encN ((m2 ++ [(([] : List Int) ++ x1)]))), .blk b1 24 [.slice A_a0_worth a0.worth.length c_a0_worth], .blk b2 24 [.slice none 0 0], .blk b3 24 [.slice A8 (((m2 ++ [(([] : List Int) ++ x1)])).length) c8]] := H.stored 4 rfl S5
            replace R0 := H.ext
            replace hz := Nat.le_trans hz (Nat.le_of_eq S5.size.symm)
            refine DW.nil (hK8 _ _ ?_)
            obtain ⟨hg6, F⟩ := gd_some F
            refine CW.region ?_
            refine LW.pure rfl rfl (RV.move rfl) ?_
            refine LW.pure rfl rfl (RV.add rfl rfl hg6) ?_
            refine LW.pure rfl rfl (RV.assign rfl) ?_
            refine LW.nil ?_
            replace H := H.pick (L' := [.tab A8 c8 25 ((hsm2 ++ [(A6, c6)])) 3 1 (encM encN ((m2 ++ [(([] : List Int) ++ x1)]))), .blk b1 24 [.slice A_a0_worth a0.worth.length c_a0_worth], .blk b2 24 [.slice none 0 0], .blk b3 24 [.slice A8 (((m2 ++ [(([] : List Int) ++ x1)])).length) c8]]) [1, 2, 3, 4] (by decide) rfl
            replace R0 := H.ext
            subst hrec1
            refine ⟨mk1, Nat.lt_succ_self _, _, ?_, (t4_1 + 1), ((m2 ++ [(([] : List Int) ++ x1)])), ((hsm2 ++ [(A6, c6)])), A8, c8, F, rfl, H⟩
            exact ⟨rfl, rfl, rfl, rfl, trivial⟩
    ·
      replace F := ite_n hp1 F
      have hq1 := dec_f hp1
      refine CW.condF rfl hq1 ?_
      replace H := H.pick (L' := [.tab Am2 cm2 25 hsm2 3 1 (encM encN m2), .blk b2 24 [.slice none 0 0], .blk b3 24 [.slice Am2 m2.length cm2]]) [0, 2, 3] (by decide) rfl
      replace R0 := H.ext
      refine CW.exit (jK38 _ _ ⟨_, ?_, ⟨m2, hsm2, Am2, cm2, F, rfl, H⟩⟩)
      exact ⟨rfl, rfl, trivial⟩
end Go.D4

set_option linter.unusedVariables false
set_option linter.unusedSimpArgs false
namespace Go.D4
open Go.Tb Go.Proofs Go.RowKit
theorem Tc43 : callable Try.prog 43 = true := by kernel_rfl
end Go.D4
