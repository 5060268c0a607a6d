/- Lemmas and walks that the proof of this claim uses: D2n2, D2n3, Tb22, D2p1, D2p2, D2p4, D2p5, D2p7, D2pC. -/
import Derived.Test.YtmpmomboclhjoaaDrainSums2
set_option linter.unusedVariables false
set_option linter.unusedSimpArgs false
namespace Go.D2
open Go.Tb Go.Proofs Go.RowKit
theorem Tc78 : callable Try.prog 78 = true := by kernel_rfl
theorem Tc79 : callable Try.prog 79 = true := by kernel_rfl
theorem Tc95 : callable Try.prog 95 = true := by kernel_rfl
set_option maxRecDepth 20000 in
set_option maxHeartbeats 1000000 in
theorem ref02_Path_ok {a0 : Net} {a1 : Trail} {A_a0_drains : Option Addr} {c_a0_drains : Nat} {A_a1_drains : Option Addr} {c_a1_drains : Nat} {w : World} {res : Int × Int × Bool} (h_a0_drains : Sl w A_a0_drains c_a0_drains 3 (a0.drains.map encDrain)) (h_a1_drains : Sl w A_a1_drains c_a1_drains 1 (a1.drains.map encN)) (F : ref02_Path a0 a1 = some res) : Calls Try.prog 95 #[.agg #[.int .i64 a0.nodes, .int .i64 a0.from_, .int .i64 a0.to_, .slice A_a0_drains a0.drains.length c_a0_drains], .agg #[.slice A_a1_drains a1.drains.length c_a1_drains, .int .i64 a1.amount]] w (Rt w (.tuple #[.int .i64 res.1, .int .i64 res.2.1, .bool res.2.2])) := by
  refine calls_of_cw (args := [.agg #[.int .i64 a0.nodes, .int .i64 a0.from_, .int .i64 a0.to_, .slice A_a0_drains a0.drains.length c_a0_drains], .agg #[.slice A_a1_drains a1.drains.length c_a1_drains, .int .i64 a1.amount]]) Try.func95 rfl rfl rfl rfl ?_
  have H := Hp.start w
  have R0 := H.ext
  unfold ref02_Path at F
  refine CW.seq fun K1 hK1 => ?_
  refine CW.region ?_
  refine LW.go rfl rfl (OW.box rfl fun b1 w1 N1 => ?_)
  replace H := H.new N1 N1.blk
  replace R0 := H.ext
  refine LW.go rfl rfl (OW.box rfl fun b2 w2 N2 => ?_)
  replace H := H.new N2 N2.blk
  replace R0 := H.ext
  refine LW.pure rfl rfl (RV.assign rfl) ?_
  refine LW.pure rfl rfl (RV.assign rfl) ?_
  refine LW.pure rfl rfl (RV.assign rfl) ?_
  refine LW.nil (hK1 _ _ ?_)
  refine CW.seq fun K2 hK2 => ?_
  refine CW.seqJ (fun ρ wl1 => (∃ (t18_1 : Bool), ref02_Path_k5 a0 a1 t18_1 = some res ∧ ρ = [(2, .pointer (some (⟨b1, 0, none⟩))), (3, .pointer (some (⟨b2, 0, none⟩))), (4, .int .i64 0), (5, .int .i64 0), (6, .bool false), (18, .bool t18_1)] ∧ Hp w wl1 [.blk b1 24 [.int .i64 a0.nodes, .int .i64 a0.from_, .int .i64 a0.to_, .slice A_a0_drains a0.drains.length c_a0_drains], .blk b2 79 [.slice A_a1_drains a1.drains.length c_a1_drains, .int .i64 a1.amount]])) ?_ ?_
  ·
    rintro _ wl1 ⟨t18_1, F, rfl, H⟩
    have R0 := H.ext
    unfold ref02_Path_k5 at F
    by_cases hp1 : t18_1 = true
    ·
      replace F := ite_y hp1 F
      have hq1 : t18_1 = true := hp1
      refine CW.condT rfl hq1 ?_
      refine CW.seq fun K3 hK3 => ?_
      refine CW.region ?_
      refine LW.pure rfl rfl (RV.assign rfl) ?_
      refine LW.pure rfl rfl (RV.assign rfl) ?_
      refine LW.pure rfl rfl (RV.assign rfl) ?_
      refine LW.nil (hK3 _ _ ?_)
      refine CW.ret ?_
      obtain rfl := Option.some.inj F
      refine ⟨_, (ResOK.three rfl rfl rfl), ?_⟩
      refine ⟨(by first | rfl | simp), R0⟩
    ·
      replace F := ite_n hp1 F
      have hq1 : t18_1 = false := raw_f hp1
      refine CW.condF rfl hq1 ?_
      refine CW.skip (hK2 _ _ ?_)
      refine CW.seqJ (fun ρ wl2 => (ref02_Path_k1 a0 a1 = some res ∧ ρ = [(2, .pointer (some (⟨b1, 0, none⟩))), (3, .pointer (some (⟨b2, 0, none⟩))), (4, .int .i64 0), (5, .int .i64 0), (6, .bool false)] ∧ Hp w wl2 [.blk b1 24 [.int .i64 a0.nodes, .int .i64 a0.from_, .int .i64 a0.to_, .slice A_a0_drains a0.drains.length c_a0_drains], .blk b2 79 [.slice A_a1_drains a1.drains.length c_a1_drains, .int .i64 a1.amount]])) ?_ ?_
      ·
        rintro _ wl2 ⟨F, rfl, H⟩
        have R0 := H.ext
        unfold ref02_Path_k1 at F
        refine CW.seq fun K4 hK4 => ?_
        obtain ⟨x1, hbx1, hx1, F⟩ := ix_some F
        obtain ⟨x2, hbx2, hx2, F⟩ := ix_some F
        obtain ⟨hg1, F⟩ := gd_some F
        obtain ⟨x3, hbx3, hx3, F⟩ := ix_some F
        obtain ⟨x4, hbx4, hx4, F⟩ := ix_some F
        refine CW.draw [] (fun _ => True) (.cons 0 1 (.cons 1 1 (.cons 2 1 (.cons 3 1 (.cons 4 1 (.cons 5 1 (.cons 6 1 (.cons 7 1 (.cons 8 1 (.cons 9 1 (.cons 10 1 (.cons 11 1 (.cons 12 1 (.cons 13 1 (.cons 14 1 (.cons 15 1 (.cons 16 1 (.cons 17 1 (.cons 18 1 (.cons 19 1 (.cons 20 1 (.cons 21 1 (.cons 22 1 (.cons 23 1 (.cons 24 1 .nil))))))))))))))))))))))))) mixed (by kernel_rfl) fun w3 E1 => ?_
        replace H := H.grow E1
        replace R0 := H.ext
        refine DW.fix rfl rfl rfl (fun _ EQ => RV.fieldAddr Tf24_3 rfl) ?_
        refine DW.fix rfl rfl rfl (fun _ EQ => RV.load1 Tk22 rfl (((H.grow EQ).blk 0 rfl).cells.off 3) rfl) ?_
        refine DW.fix rfl rfl rfl (fun _ EQ => RV.fieldAddr Tf79_0 rfl) ?_
        refine DW.fix rfl rfl rfl (fun _ EQ => RV.load1 Tk30 rfl (((H.grow EQ).blk 1 rfl).cells.off 0) rfl) ?_
        refine DW.fix rfl rfl rfl (fun _ EQ => RV.indexAddr Ts30 rfl rfl hbx1 (h_a1_drains.addr_ hx1)) ?_
        refine DW.fix rfl rfl rfl (fun _ EQ => RV.load1 Tk3 rfl ((h_a1_drains.at_ hx1).ext (R0.trans EQ)) rfl) ?_
        refine DW.fix rfl rfl rfl (fun _ EQ => RV.indexAddr Ts22 rfl rfl hbx2 (h_a0_drains.addr_ hx2)) ?_
        refine DW.fix rfl rfl rfl (fun _ EQ => RV.fieldAddr Tf52_0 rfl) ?_
        refine DW.fix rfl rfl rfl (fun _ EQ => RV.load1 Tk3 rfl (((h_a0_drains.at_ hx2).ext (R0.trans EQ)).off 0) rfl) ?_
        refine DW.fix rfl rfl rfl (fun _ EQ => RV.fieldAddr Tf24_3 rfl) ?_
        refine DW.fix rfl rfl rfl (fun _ EQ => RV.load1 Tk22 rfl (((H.grow EQ).blk 0 rfl).cells.off 3) rfl) ?_
        refine DW.fix rfl rfl rfl (fun _ EQ => RV.fieldAddr Tf79_0 rfl) ?_
        refine DW.fix rfl rfl rfl (fun _ EQ => RV.load1 Tk30 rfl (((H.grow EQ).blk 1 rfl).cells.off 0) rfl) ?_
        refine DW.fix rfl rfl rfl (fun _ EQ => RV.fieldAddr Tf79_0 rfl) ?_
        refine DW.fix rfl rfl rfl (fun _ EQ => RV.load1 Tk30 rfl (((H.grow EQ).blk 1 rfl).cells.off 0) rfl) ?_
        refine DW.fix rfl rfl rfl (fun _ EQ => RV.len Ts30 rfl) ?_
        refine DW.fix rfl rfl rfl (fun _ EQ => RV.sub rfl rfl hg1) ?_
        refine DW.fix rfl rfl rfl (fun _ EQ => RV.indexAddr Ts30 rfl rfl hbx3 (h_a1_drains.addr_ hx3)) ?_
        refine DW.fix rfl rfl rfl (fun _ EQ => RV.load1 Tk3 rfl ((h_a1_drains.at_ hx3).ext (R0.trans EQ)) rfl) ?_
        refine DW.fix rfl rfl rfl (fun _ EQ => RV.indexAddr Ts22 rfl rfl hbx4 (h_a0_drains.addr_ hx4)) ?_
        refine DW.fix rfl rfl rfl (fun _ EQ => RV.fieldAddr Tf52_1 rfl) ?_
        refine DW.fix rfl rfl rfl (fun _ EQ => RV.load1 Tk3 rfl (((h_a0_drains.at_ hx4).ext (R0.trans EQ)).off 1) rfl) ?_
        refine DW.fix rfl rfl rfl (fun _ EQ => RV.assign rfl) ?_
        refine DW.fix rfl rfl rfl (fun _ EQ => RV.assign rfl) ?_
        refine DW.fix rfl rfl rfl (fun _ EQ => RV.assign rfl) ?_
        refine DW.nil (hK4 _ _ ?_)
        refine CW.ret ?_
        obtain rfl := Option.some.inj F
        refine ⟨_, (ResOK.three rfl rfl rfl), ?_⟩
        refine ⟨(by first | rfl | simp), R0⟩
      ·
        intro K5 hK5 jK725
        refine CW.seq fun K6 hK6 => ?_
        refine CW.region ?_
        refine LW.pure rfl rfl (RV.assign rfl) ?_
        refine LW.nil (hK6 _ _ ?_)
        refine CW.block ?_
        refine CW.loop (fun meas ρ wl3 => ∃ (t7_1 : Int), ref02_Path_L2 a0 a1 meas t7_1 = some res ∧ ρ = [(2, .pointer (some (⟨b1, 0, none⟩))), (3, .pointer (some (⟨b2, 0, none⟩))), (4, .int .i64 0), (5, .int .i64 0), (6, .bool false), (7, .int .i64 t7_1)] ∧ Hp w wl3 [.blk b1 24 [.int .i64 a0.nodes, .int .i64 a0.from_, .int .i64 a0.to_, .slice A_a0_drains a0.drains.length c_a0_drains], .blk b2 79 [.slice A_a1_drains a1.drains.length c_a1_drains, .int .i64 a1.amount]]) FU ⟨_, ?_, ((0 : Int)), F, rfl, H⟩ ?_
        · exact ⟨rfl, rfl, rfl, rfl, rfl, rfl, trivial⟩
        rintro mk1 _ wl3 ⟨t7_1, F, rfl, H⟩
        have R0 := H.ext
        replace F := ref02_Path_L2_s F
        obtain ⟨mk1, rfl, F⟩ := F
        generalize hrec1 : ref02_Path_L2 a0 a1 mk1 = rec1 at F
        unfold ref02_Path_B2 at F
        refine CW.seq fun K7 hK7 => ?_
        refine CW.seq fun K8 hK8 => ?_
        refine CW.region ?_
        refine LW.pure rfl rfl (RV.move rfl) ?_
        refine LW.pure rfl rfl (RV.fieldAddr Tf79_0 rfl) ?_
        refine LW.pure rfl rfl (RV.load1 Tk30 rfl ((H.blk 1 rfl).cells.off 0) rfl) ?_
        refine LW.pure rfl rfl (RV.len Ts30 rfl) ?_
        refine LW.pure rfl rfl (RV.lss rfl rfl) ?_
        refine LW.nil (hK8 _ _ ?_)
        by_cases hp2 : t7_1 < ((a1.drains.length : Int))
        ·
          replace F := ite_y hp2 F
          have hq2 := dec_t hp2
          refine CW.condT rfl hq2 ?_
          refine CW.skip (hK7 _ _ ?_)
          refine CW.seqJ (fun ρ wl4 => (ref02_Path_k2 t7_1 rec1 = some res ∧ ρ = [(2, .pointer (some (⟨b1, 0, none⟩))), (3, .pointer (some (⟨b2, 0, none⟩))), (4, .int .i64 0), (5, .int .i64 0), (6, .bool false), (7, .int .i64 t7_1)] ∧ Hp w wl4 [.blk b1 24 [.int .i64 a0.nodes, .int .i64 a0.from_, .int .i64 a0.to_, .slice A_a0_drains a0.drains.length c_a0_drains], .blk b2 79 [.slice A_a1_drains a1.drains.length c_a1_drains, .int .i64 a1.amount]])) ?_ ?_
          ·
            rintro _ wl4 ⟨F, rfl, H⟩
            have R0 := H.ext
            unfold ref02_Path_k2 at F
            obtain ⟨hg2, F⟩ := gd_some F
            refine CW.region ?_
            refine LW.pure rfl rfl (RV.move rfl) ?_
            refine LW.pure rfl rfl (RV.add rfl rfl hg2) ?_
            refine LW.pure rfl rfl (RV.assign rfl) ?_
            refine LW.nil ?_
            subst hrec1
            refine ⟨mk1, Nat.lt_succ_self _, _, ?_, (t7_1 + 1), F, rfl, H⟩
            exact ⟨rfl, rfl, rfl, rfl, rfl, rfl, trivial⟩
          ·
            intro K9 hK9 jK925
            refine CW.block ?_
            refine CW.seq fun K10 hK10 => ?_
            refine CW.seq fun K11 hK11 => ?_
            obtain ⟨x11, hbx11, hx11, F⟩ := ix_some F
            obtain ⟨hg3, F⟩ := gd_some F
            obtain ⟨r1, hr1, F⟩ := bnd_some F
            refine CW.draw [] (fun _ => True) (.cons 0 1 (.cons 1 1 (.cons 2 1 (.cons 3 1 (.cons 4 1 (.cons 5 1 (.cons 6 1 (.cons 7 1 (.cons 8 1 (.cons 9 0 (.cons 10 1 .nil))))))))))) mixed (by kernel_rfl) fun w4 E2 => ?_
            replace H := H.grow E2
            replace R0 := H.ext
            refine DW.fix rfl rfl rfl (fun _ EQ => RV.fieldAddr Tf79_0 rfl) ?_
            refine DW.fix rfl rfl rfl (fun _ EQ => RV.load1 Tk30 rfl (((H.grow EQ).blk 1 rfl).cells.off 0) rfl) ?_
            refine DW.fix rfl rfl rfl (fun _ EQ => RV.move rfl) ?_
            refine DW.fix rfl rfl rfl (fun _ EQ => RV.indexAddr Ts30 rfl rfl hbx11 (h_a1_drains.addr_ hx11)) ?_
            refine DW.fix rfl rfl rfl (fun _ EQ => RV.load1 Tk3 rfl ((h_a1_drains.at_ hx11).ext (R0.trans EQ)) rfl) ?_
            refine DW.fix rfl rfl rfl (fun _ EQ => RV.fieldAddr Tf24_3 rfl) ?_
            refine DW.fix rfl rfl rfl (fun _ EQ => RV.load1 Tk22 rfl (((H.grow EQ).blk 0 rfl).cells.off 3) rfl) ?_
            refine DW.fix rfl rfl rfl (fun _ EQ => RV.len Ts22 rfl) ?_
            refine DW.fix rfl rfl rfl (fun _ EQ => RV.sub rfl rfl hg3) ?_
            refine DW.sole rfl rfl rfl (OW.call Tc60 rfl (ref02_within_ok (a0 := x11) (a1 := (0 : Int)) (a2 := ((a0.drains.length : Int)) - 1) hr1) ?_)
            rintro _ w5 ⟨rfl, E3⟩
            refine ⟨_, rfl, fun _ => E3, ModX.ext E3, ?_⟩
            replace H := H.grow E3
            replace R0 := H.ext
            refine DW.fix rfl rfl rfl (fun _ EQ => RV.not rfl) ?_
            refine DW.nil (hK11 _ _ ?_)
            by_cases hp3 : r1 = true
            ·
              replace F := ite_y hp3 F
              have hq3 : r1 = true := hp3
              refine CW.condF rfl (not_f hq3) ?_
              refine CW.skip (hK10 _ _ ?_)
              refine CW.seqJ (fun ρ wl5 => (ref02_Path_k4 a0 a1 t7_1 rec1 = some res ∧ ρ = [(2, .pointer (some (⟨b1, 0, none⟩))), (3, .pointer (some (⟨b2, 0, none⟩))), (4, .int .i64 0), (5, .int .i64 0), (6, .bool false), (7, .int .i64 t7_1)] ∧ Hp w wl5 [.blk b1 24 [.int .i64 a0.nodes, .int .i64 a0.from_, .int .i64 a0.to_, .slice A_a0_drains a0.drains.length c_a0_drains], .blk b2 79 [.slice A_a1_drains a1.drains.length c_a1_drains, .int .i64 a1.amount]])) ?_ ?_
              ·
                rintro _ wl5 ⟨F, rfl, H⟩
                have R0 := H.ext
                unfold ref02_Path_k4 at F
                refine CW.seqJ (fun ρ wl6 => (∃ (t78_1 : Bool), ref02_Path_k3 t7_1 rec1 t78_1 = some res ∧ ρ = [(2, .pointer (some (⟨b1, 0, none⟩))), (3, .pointer (some (⟨b2, 0, none⟩))), (4, .int .i64 0), (5, .int .i64 0), (6, .bool false), (7, .int .i64 t7_1), (78, .bool t78_1)] ∧ Hp w wl6 [.blk b1 24 [.int .i64 a0.nodes, .int .i64 a0.from_, .int .i64 a0.to_, .slice A_a0_drains a0.drains.length c_a0_drains], .blk b2 79 [.slice A_a1_drains a1.drains.length c_a1_drains, .int .i64 a1.amount]])) ?_ ?_
                ·
                  rintro _ wl6 ⟨t78_1, F, rfl, H⟩
                  have R0 := H.ext
                  unfold ref02_Path_k3 at F
                  by_cases hp4 : t78_1 = true
                  ·
                    replace F := ite_y hp4 F
                    have hq4 : t78_1 = true := hp4
                    refine CW.condT rfl hq4 ?_
                    refine CW.seq fun K12 hK12 => ?_
                    refine CW.region ?_
                    refine LW.pure rfl rfl (RV.assign rfl) ?_
                    refine LW.pure rfl rfl (RV.assign rfl) ?_
                    refine LW.pure rfl rfl (RV.assign rfl) ?_
                    refine LW.nil (hK12 _ _ ?_)
                    refine CW.ret ?_
                    obtain rfl := Option.some.inj F
                    refine ⟨_, (ResOK.three rfl rfl rfl), ?_⟩
                    refine ⟨(by first | rfl | simp), R0⟩
                  ·
                    replace F := ite_n hp4 F
                    have hq4 : t78_1 = false := raw_f hp4
                    refine CW.condF rfl hq4 ?_
                    refine CW.skip (jK925 _ _ ⟨_, ?_, ⟨F, rfl, H⟩⟩)
                    exact ⟨rfl, rfl, rfl, rfl, rfl, rfl, trivial⟩
                ·
                  intro K13 hK13 jK945
                  by_cases hp5 : (0 : Int) < t7_1
                  ·
                    replace F := ite_y hp5 F
                    have hq5 := dec_t hp5
                    obtain ⟨hg4, F⟩ := gd_some F
                    obtain ⟨x5, hbx5, hx5, F⟩ := ix_some F
                    obtain ⟨x6, hbx6, hx6, F⟩ := ix_some F
                    obtain ⟨x7, hbx7, hx7, F⟩ := ix_some F
                    obtain ⟨x8, hbx8, hx8, F⟩ := ix_some F
                    refine CW.draw [] (fun _ => True) (.cons 0 1 (.cons 1 1 (.cons 2 1 (.cons 3 1 (.cons 4 1 (.cons 5 1 (.cons 6 1 (.cons 7 1 (.cons 8 1 (.cons 9 1 (.cons 10 1 (.cons 11 1 (.cons 12 1 (.cons 13 1 (.cons 14 1 (.cons 15 1 (.cons 16 1 (.cons 17 1 (.cons 18 1 (.cons 19 1 (.cons 20 1 (.cons 21 1 (.cons 22 1 (.cons 23 1 (.cons 24 1 (.cons 25 1 .nil)))))))))))))))))))))))))) mixed (by kernel_rfl) fun w6 E4 => ?_
                    replace H := H.grow E4
                    replace R0 := H.ext
                    refine DW.fix rfl rfl rfl (fun _ EQ => RV.move rfl) ?_
                    refine DW.fix rfl rfl rfl (fun _ EQ => RV.gtr rfl rfl) ?_
                    refine DW.fix rfl rfl rfl (fun _ EQ => RV.move rfl) ?_
                    refine DW.fixYB rfl rfl rfl rfl rfl hq5 (fun _ EQ => RV.fieldAddr Tf24_3 rfl) ?_
                    refine DW.fixYB rfl rfl rfl rfl rfl hq5 (fun _ EQ => RV.load1 Tk22 rfl (((H.grow EQ).blk 0 rfl).cells.off 3) rfl) ?_
                    refine DW.fixYB rfl rfl rfl rfl rfl hq5 (fun _ EQ => RV.fieldAddr Tf79_0 rfl) ?_
                    refine DW.fixYB rfl rfl rfl rfl rfl hq5 (fun _ EQ => RV.load1 Tk30 rfl (((H.grow EQ).blk 1 rfl).cells.off 0) rfl) ?_
                    refine DW.fixYB rfl rfl rfl rfl rfl hq5 (fun _ EQ => RV.move rfl) ?_
                    refine DW.fixYB rfl rfl rfl rfl rfl hq5 (fun _ EQ => RV.sub rfl rfl hg4) ?_
                    refine DW.fixYB rfl rfl rfl rfl rfl hq5 (fun _ EQ => RV.indexAddr Ts30 rfl rfl hbx5 (h_a1_drains.addr_ hx5)) ?_
                    refine DW.fixYB rfl rfl rfl rfl rfl hq5 (fun _ EQ => RV.load1 Tk3 rfl ((h_a1_drains.at_ hx5).ext (R0.trans EQ)) rfl) ?_
                    refine DW.fixYB rfl rfl rfl rfl rfl hq5 (fun _ EQ => RV.indexAddr Ts22 rfl rfl hbx6 (h_a0_drains.addr_ hx6)) ?_
                    refine DW.fixYB rfl rfl rfl rfl rfl hq5 (fun _ EQ => RV.fieldAddr Tf52_1 rfl) ?_
                    refine DW.fixYB rfl rfl rfl rfl rfl hq5 (fun _ EQ => RV.load1 Tk3 rfl (((h_a0_drains.at_ hx6).ext (R0.trans EQ)).off 1) rfl) ?_
                    refine DW.fixYB rfl rfl rfl rfl rfl hq5 (fun _ EQ => RV.fieldAddr Tf24_3 rfl) ?_
                    refine DW.fixYB rfl rfl rfl rfl rfl hq5 (fun _ EQ => RV.load1 Tk22 rfl (((H.grow EQ).blk 0 rfl).cells.off 3) rfl) ?_
                    refine DW.fixYB rfl rfl rfl rfl rfl hq5 (fun _ EQ => RV.fieldAddr Tf79_0 rfl) ?_
                    refine DW.fixYB rfl rfl rfl rfl rfl hq5 (fun _ EQ => RV.load1 Tk30 rfl (((H.grow EQ).blk 1 rfl).cells.off 0) rfl) ?_
                    refine DW.fixYB rfl rfl rfl rfl rfl hq5 (fun _ EQ => RV.move rfl) ?_
                    refine DW.fixYB rfl rfl rfl rfl rfl hq5 (fun _ EQ => RV.indexAddr Ts30 rfl rfl hbx7 (h_a1_drains.addr_ hx7)) ?_
                    refine DW.fixYB rfl rfl rfl rfl rfl hq5 (fun _ EQ => RV.load1 Tk3 rfl ((h_a1_drains.at_ hx7).ext (R0.trans EQ)) rfl) ?_
                    refine DW.fixYB rfl rfl rfl rfl rfl hq5 (fun _ EQ => RV.indexAddr Ts22 rfl rfl hbx8 (h_a0_drains.addr_ hx8)) ?_
                    refine DW.fixYB rfl rfl rfl rfl rfl hq5 (fun _ EQ => RV.fieldAddr Tf52_0 rfl) ?_
                    refine DW.fixYB rfl rfl rfl rfl rfl hq5 (fun _ EQ => RV.load1 Tk3 rfl (((h_a0_drains.at_ hx8).ext (R0.trans EQ)).off 0) rfl) ?_
                    refine DW.fixYB rfl rfl rfl rfl rfl hq5 (fun _ EQ => RV.nei rfl rfl) ?_
                    refine DW.fix rfl rfl rfl (fun _ EQ => RV.pickTB rfl hq5 rfl) ?_
                    refine DW.nil (jK945 _ _ ⟨_, ?_, ⟨(!(decide (x6.to_ = x8.from_))), F, rfl, H⟩⟩)
                    exact ⟨rfl, rfl, rfl, rfl, rfl, rfl, rfl, trivial⟩
                  ·
                    replace F := ite_n hp5 F
                    have hq5 := dec_f hp5
                    refine CW.draw [] (fun _ => True) (.cons 0 1 (.cons 1 1 (.cons 2 1 (.cons 3 1 (.cons 4 1 (.cons 5 1 (.cons 6 1 (.cons 7 1 (.cons 8 1 (.cons 9 1 (.cons 10 1 (.cons 11 1 (.cons 12 1 (.cons 13 1 (.cons 14 1 (.cons 15 1 (.cons 16 1 (.cons 17 1 (.cons 18 1 (.cons 19 1 (.cons 20 1 (.cons 21 1 (.cons 22 1 (.cons 23 1 (.cons 24 1 (.cons 25 1 .nil)))))))))))))))))))))))))) mixed (by kernel_rfl) fun w7 E5 => ?_
                    replace H := H.grow E5
                    replace R0 := H.ext
                    refine DW.fix rfl rfl rfl (fun _ EQ => RV.move rfl) ?_
                    refine DW.fix rfl rfl rfl (fun _ EQ => RV.gtr rfl rfl) ?_
                    refine DW.fix rfl rfl rfl (fun _ EQ => RV.move rfl) ?_
                    refine DW.fixNB rfl rfl rfl rfl rfl (ne_beq (v := false) hq5 rfl) ?_
                    refine DW.fixNB rfl rfl rfl rfl rfl (ne_beq (v := false) hq5 rfl) ?_
                    refine DW.fixNB rfl rfl rfl rfl rfl (ne_beq (v := false) hq5 rfl) ?_
                    refine DW.fixNB rfl rfl rfl rfl rfl (ne_beq (v := false) hq5 rfl) ?_
                    refine DW.fixNB rfl rfl rfl rfl rfl (ne_beq (v := false) hq5 rfl) ?_
                    refine DW.fixNB rfl rfl rfl rfl rfl (ne_beq (v := false) hq5 rfl) ?_
                    refine DW.fixNB rfl rfl rfl rfl rfl (ne_beq (v := false) hq5 rfl) ?_
                    refine DW.fixNB rfl rfl rfl rfl rfl (ne_beq (v := false) hq5 rfl) ?_
                    refine DW.fixNB rfl rfl rfl rfl rfl (ne_beq (v := false) hq5 rfl) ?_
                    refine DW.fixNB rfl rfl rfl rfl rfl (ne_beq (v := false) hq5 rfl) ?_
                    refine DW.fixNB rfl rfl rfl rfl rfl (ne_beq (v := false) hq5 rfl) ?_
                    refine DW.fixNB rfl rfl rfl rfl rfl (ne_beq (v := false) hq5 rfl) ?_
                    refine DW.fixNB rfl rfl rfl rfl rfl (ne_beq (v := false) hq5 rfl) ?_
                    refine DW.fixNB rfl rfl rfl rfl rfl (ne_beq (v := false) hq5 rfl) ?_
                    refine DW.fixNB rfl rfl rfl rfl rfl (ne_beq (v := false) hq5 rfl) ?_
                    refine DW.fixNB rfl rfl rfl rfl rfl (ne_beq (v := false) hq5 rfl) ?_
                    refine DW.fixNB rfl rfl rfl rfl rfl (ne_beq (v := false) hq5 rfl) ?_
                    refine DW.fixNB rfl rfl rfl rfl rfl (ne_beq (v := false) hq5 rfl) ?_
                    refine DW.fixNB rfl rfl rfl rfl rfl (ne_beq (v := false) hq5 rfl) ?_
                    refine DW.fixNB rfl rfl rfl rfl rfl (ne_beq (v := false) hq5 rfl) ?_
                    refine DW.fixNB rfl rfl rfl rfl rfl (ne_beq (v := false) hq5 rfl) ?_
                    refine DW.fixNB rfl rfl rfl rfl rfl (ne_beq (v := false) hq5 rfl) ?_
                    refine DW.fix rfl rfl rfl (fun _ EQ => RV.pickFB rfl hq5 rfl) ?_
                    refine DW.nil (jK945 _ _ ⟨_, ?_, ⟨false, F, rfl, H⟩⟩)
                    exact ⟨rfl, rfl, rfl, rfl, rfl, rfl, rfl, trivial⟩
              ·
                intro K14 hK14 jK946
                refine CW.seq fun K15 hK15 => ?_
                refine CW.region ?_
                refine LW.pure rfl rfl (RV.assign rfl) ?_
                refine LW.nil (hK15 _ _ ?_)
                refine CW.block ?_
                refine CW.loop (fun meas ρ wl7 => ∃ (t8_1 : Int), ref02_Path_L1 a0 a1 t7_1 rec1 meas t8_1 = some res ∧ ρ = [(2, .pointer (some (⟨b1, 0, none⟩))), (3, .pointer (some (⟨b2, 0, none⟩))), (4, .int .i64 0), (5, .int .i64 0), (6, .bool false), (7, .int .i64 t7_1), (8, .int .i64 t8_1)] ∧ Hp w wl7 [.blk b1 24 [.int .i64 a0.nodes, .int .i64 a0.from_, .int .i64 a0.to_, .slice A_a0_drains a0.drains.length c_a0_drains], .blk b2 79 [.slice A_a1_drains a1.drains.length c_a1_drains, .int .i64 a1.amount]]) FU ⟨_, ?_, ((0 : Int)), F, rfl, H⟩ ?_
                · exact ⟨rfl, rfl, rfl, rfl, rfl, rfl, rfl, trivial⟩
                rintro mk2 _ wl7 ⟨t8_1, F, rfl, H⟩
                have R0 := H.ext
                replace F := ref02_Path_L1_s F
                obtain ⟨mk2, rfl, F⟩ := F
                generalize hrec2 : ref02_Path_L1 a0 a1 t7_1 rec1 mk2 = rec2 at F
                unfold ref02_Path_B1 at F
                refine CW.seq fun K16 hK16 => ?_
                refine CW.seq fun K17 hK17 => ?_
                refine CW.region ?_
                refine LW.pure rfl rfl (RV.move rfl) ?_
                refine LW.pure rfl rfl (RV.move rfl) ?_
                refine LW.pure rfl rfl (RV.lss rfl rfl) ?_
                refine LW.nil (hK17 _ _ ?_)
                by_cases hp6 : t8_1 < t7_1
                ·
                  replace F := ite_y hp6 F
                  have hq6 := dec_t hp6
                  refine CW.condT rfl hq6 ?_
                  refine CW.skip (hK16 _ _ ?_)
                  refine CW.seq fun K18 hK18 => ?_
                  refine CW.block ?_
                  refine CW.seq fun K19 hK19 => ?_
                  obtain ⟨x9, hbx9, hx9, F⟩ := ix_some F
                  obtain ⟨x10, hbx10, hx10, F⟩ := ix_some F
                  refine CW.draw [] (fun _ => True) (.cons 0 1 (.cons 1 1 (.cons 2 1 (.cons 3 1 (.cons 4 1 (.cons 5 1 (.cons 6 1 (.cons 7 1 (.cons 8 1 (.cons 9 1 (.cons 10 1 .nil))))))))))) mixed (by kernel_rfl) fun w8 E6 => ?_
                  replace H := H.grow E6
                  replace R0 := H.ext
                  refine DW.fix rfl rfl rfl (fun _ EQ => RV.fieldAddr Tf79_0 rfl) ?_
                  refine DW.fix rfl rfl rfl (fun _ EQ => RV.load1 Tk30 rfl (((H.grow EQ).blk 1 rfl).cells.off 0) rfl) ?_
                  refine DW.fix rfl rfl rfl (fun _ EQ => RV.move rfl) ?_
                  refine DW.fix rfl rfl rfl (fun _ EQ => RV.indexAddr Ts30 rfl rfl hbx9 (h_a1_drains.addr_ hx9)) ?_
                  refine DW.fix rfl rfl rfl (fun _ EQ => RV.load1 Tk3 rfl ((h_a1_drains.at_ hx9).ext (R0.trans EQ)) rfl) ?_
                  refine DW.fix rfl rfl rfl (fun _ EQ => RV.fieldAddr Tf79_0 rfl) ?_
                  refine DW.fix rfl rfl rfl (fun _ EQ => RV.load1 Tk30 rfl (((H.grow EQ).blk 1 rfl).cells.off 0) rfl) ?_
                  refine DW.fix rfl rfl rfl (fun _ EQ => RV.move rfl) ?_
                  refine DW.fix rfl rfl rfl (fun _ EQ => RV.indexAddr Ts30 rfl rfl hbx10 (h_a1_drains.addr_ hx10)) ?_
                  refine DW.fix rfl rfl rfl (fun _ EQ => RV.load1 Tk3 rfl ((h_a1_drains.at_ hx10).ext (R0.trans EQ)) rfl) ?_
                  refine DW.fix rfl rfl rfl (fun _ EQ => RV.eqi rfl rfl) ?_
                  refine DW.nil (hK19 _ _ ?_)
                  by_cases hp7 : x9 = x10
                  ·
                    replace F := ite_y hp7 F
                    have hq7 := dec_t hp7
                    refine CW.condT rfl hq7 ?_
                    refine CW.seq fun K20 hK20 => ?_
                    refine CW.region ?_
                    refine LW.pure rfl rfl (RV.assign rfl) ?_
                    refine LW.pure rfl rfl (RV.assign rfl) ?_
                    refine LW.pure rfl rfl (RV.assign rfl) ?_
                    refine LW.nil (hK20 _ _ ?_)
                    refine CW.ret ?_
                    obtain rfl := Option.some.inj F
                    refine ⟨_, (ResOK.three rfl rfl rfl), ?_⟩
                    refine ⟨(by first | rfl | simp), R0⟩
                  ·
                    replace F := ite_n hp7 F
                    have hq7 := dec_f hp7
                    refine CW.condF rfl hq7 ?_
                    refine CW.skip (hK18 _ _ ?_)
                    obtain ⟨hg5, F⟩ := gd_some F
                    refine CW.region ?_
                    refine LW.pure rfl rfl (RV.move rfl) ?_
                    refine LW.pure rfl rfl (RV.add rfl rfl hg5) ?_
                    refine LW.pure rfl rfl (RV.assign rfl) ?_
                    refine LW.nil ?_
                    subst hrec2
                    refine ⟨mk2, Nat.lt_succ_self _, _, ?_, (t8_1 + 1), F, rfl, H⟩
                    exact ⟨rfl, rfl, rfl, rfl, rfl, rfl, rfl, trivial⟩
                ·
                  replace F := ite_n hp6 F
                  have hq6 := dec_f hp6
                  refine CW.condF rfl hq6 ?_
                  refine CW.exit (jK946 _ _ ⟨_, ?_, ⟨F, rfl, H⟩⟩)
                  exact ⟨rfl, rfl, rfl, rfl, rfl, rfl, trivial⟩
            ·
              replace F := ite_n hp3 F
              have hq3 : r1 = false := raw_f hp3
              refine CW.condT rfl (not_t hq3) ?_
              refine CW.seq fun K21 hK21 => ?_
              refine CW.region ?_
              refine LW.pure rfl rfl (RV.assign rfl) ?_
              refine LW.pure rfl rfl (RV.assign rfl) ?_
              refine LW.pure rfl rfl (RV.assign rfl) ?_
              refine LW.nil (hK21 _ _ ?_)
              refine CW.ret ?_
              obtain rfl := Option.some.inj F
              refine ⟨_, (ResOK.three rfl rfl rfl), ?_⟩
              refine ⟨(by first | rfl | simp), R0⟩
        ·
          replace F := ite_n hp2 F
          have hq2 := dec_f hp2
          refine CW.condF rfl hq2 ?_
          refine CW.exit (jK725 _ _ ⟨_, ?_, ⟨F, rfl, H⟩⟩)
          exact ⟨rfl, rfl, rfl, rfl, rfl, trivial⟩
  ·
    intro K22 hK22 jK964
    by_cases hp8 : ((a1.drains.length : Int)) = 0
    ·
      replace F := ite_y hp8 F
      have hq8 := dec_t hp8
      refine CW.region ?_
      refine LW.pure rfl rfl (RV.fieldAddr Tf79_0 rfl) ?_
      refine LW.pure rfl rfl (RV.load1 Tk30 rfl ((H.blk 0 rfl).cells.off 0) rfl) ?_
      refine LW.pure rfl rfl (RV.len Ts30 rfl) ?_
      refine LW.pure rfl rfl (RV.eqi rfl rfl) ?_
      refine LW.pure rfl rfl (RV.move rfl) ?_
      refine LW.noB rfl rfl rfl rfl (ne_beq (v := true) hq8 rfl) ?_
      refine LW.noB rfl rfl rfl rfl (ne_beq (v := true) hq8 rfl) ?_
      refine LW.noB rfl rfl rfl rfl (ne_beq (v := true) hq8 rfl) ?_
      refine LW.noB rfl rfl rfl rfl (ne_beq (v := true) hq8 rfl) ?_
      refine LW.pure rfl rfl (RV.pickTB rfl hq8 rfl) ?_
      replace H := H.pick (L' := [.blk b1 24 [.int .i64 a0.nodes, .int .i64 a0.from_, .int .i64 a0.to_, .slice A_a0_drains a0.drains.length c_a0_drains], .blk b2 79 [.slice A_a1_drains a1.drains.length c_a1_drains, .int .i64 a1.amount]]) [1, 0] (by decide) rfl
      replace R0 := H.ext
      refine LW.nil (jK964 _ _ ⟨_, ?_, ⟨true, F, rfl, H⟩⟩)
      exact ⟨rfl, rfl, rfl, rfl, rfl, rfl, trivial⟩
    ·
      replace F := ite_n hp8 F
      have hq8 := dec_f hp8
      obtain ⟨r2, hr2, F⟩ := bnd_some F
      refine CW.region ?_
      refine LW.pure rfl rfl (RV.fieldAddr Tf79_0 rfl) ?_
      refine LW.pure rfl rfl (RV.load1 Tk30 rfl ((H.blk 0 rfl).cells.off 0) rfl) ?_
      refine LW.pure rfl rfl (RV.len Ts30 rfl) ?_
      refine LW.pure rfl rfl (RV.eqi rfl rfl) ?_
      refine LW.pure rfl rfl (RV.move rfl) ?_
      refine LW.pureYB rfl rfl rfl rfl hq8 (RV.fieldAddr Tf79_1 rfl) ?_
      refine LW.pureYB rfl rfl rfl rfl hq8 (RV.load1 Tk3 rfl ((H.blk 0 rfl).cells.off 1) rfl) ?_
      refine LW.yesB rfl rfl rfl rfl hq8 (OW.call Tc60 rfl (ref02_within_ok (a0 := a1.amount) (a1 := (1 : Int)) (a2 := (20 : Int)) hr2) ?_)
      rintro _ w9 ⟨rfl, E7⟩
      refine ⟨_, rfl, ?_⟩
      replace H := H.grow E7
      replace R0 := H.ext
      refine LW.pureYB rfl rfl rfl rfl hq8 (RV.not rfl) ?_
      refine LW.pure rfl rfl (RV.pickFB rfl hq8 rfl) ?_
      replace H := H.pick (L' := [.blk b1 24 [.int .i64 a0.nodes, .int .i64 a0.from_, .int .i64 a0.to_, .slice A_a0_drains a0.drains.length c_a0_drains], .blk b2 79 [.slice A_a1_drains a1.drains.length c_a1_drains, .int .i64 a1.amount]]) [1, 0] (by decide) rfl
      replace R0 := H.ext
      refine LW.nil (jK964 _ _ ⟨_, ?_, ⟨(!r2), F, rfl, H⟩⟩)
      exact ⟨rfl, rfl, rfl, rfl, rfl, rfl, trivial⟩
set_option maxRecDepth 20000 in
set_option maxHeartbeats 1000000 in
theorem ref02_IsWay_ok {a0 : Net} {a1 : Trail} {A_a0_drains : Option Addr} {c_a0_drains : Nat} {A_a1_drains : Option Addr} {c_a1_drains : Nat} {w : World} {res : Bool} (h_a0_drains : Sl w A_a0_drains c_a0_drains 3 (a0.drains.map encDrain)) (h_a1_drains : Sl w A_a1_drains c_a1_drains 1 (a1.drains.map encN)) (F : ref02_IsWay a0 a1 = some res) : Calls Try.prog 78 #[.agg #[.int .i64 a0.nodes, .int .i64 a0.from_, .int .i64 a0.to_, .slice A_a0_drains a0.drains.length c_a0_drains], .agg #[.slice A_a1_drains a1.drains.length c_a1_drains, .int .i64 a1.amount]] w (Rt w (.bool res)) := by
  refine calls_of_cw (args := [.agg #[.int .i64 a0.nodes, .int .i64 a0.from_, .int .i64 a0.to_, .slice A_a0_drains a0.drains.length c_a0_drains], .agg #[.slice A_a1_drains a1.drains.length c_a1_drains, .int .i64 a1.amount]]) Try.func78 rfl rfl rfl rfl ?_
  have H := Hp.start w
  have R0 := H.ext
  unfold ref02_IsWay at F
  refine CW.seq fun K1 hK1 => ?_
  refine CW.region ?_
  refine LW.go rfl rfl (OW.box rfl fun b1 w1 N1 => ?_)
  replace H := H.new N1 N1.blk
  replace R0 := H.ext
  refine LW.go rfl rfl (OW.box rfl fun b2 w2 N2 => ?_)
  replace H := H.new N2 N2.blk
  replace R0 := H.ext
  refine LW.pure rfl rfl (RV.assign rfl) ?_
  refine LW.nil (hK1 _ _ ?_)
  refine CW.seq fun K2 hK2 => ?_
  obtain ⟨r1, hr1, F⟩ := bnd_some F
  refine CW.region ?_
  refine LW.pure rfl rfl (RV.loadA [.int .i64 a0.nodes, .int .i64 a0.from_, .int .i64 a0.to_, .slice A_a0_drains a0.drains.length c_a0_drains] Tk24 rfl (H.blk 1 rfl).cells rfl rfl) ?_
  refine LW.pure rfl rfl (RV.loadA [.slice A_a1_drains a1.drains.length c_a1_drains, .int .i64 a1.amount] Tk79 rfl (H.blk 0 rfl).cells rfl rfl) ?_
  refine LW.go rfl rfl (OW.call Tc95 rfl (ref02_Path_ok (a0 := a0) (a1 := a1) (h_a0_drains.ext R0) (h_a1_drains.ext R0) hr1) ?_)
  rintro _ w3 ⟨rfl, E1⟩
  refine ⟨_, rfl, ?_⟩
  replace H := H.grow E1
  replace R0 := H.ext
  refine LW.pure rfl rfl (RV.move rfl) ?_
  refine LW.pure rfl rfl (RV.extract rfl rfl) ?_
  refine LW.pure rfl rfl (RV.extract rfl rfl) ?_
  refine LW.pure rfl rfl (RV.extract rfl rfl) ?_
  refine LW.pure rfl rfl (RV.assign rfl) ?_
  refine LW.pure rfl rfl (RV.assign rfl) ?_
  refine LW.pure rfl rfl (RV.assign rfl) ?_
  refine LW.nil (hK2 _ _ ?_)
  refine CW.seq fun K3 hK3 => ?_
  by_cases hp1 : r1.2.2 = true
  ·
    replace F := ite_y hp1 F
    have hq1 : r1.2.2 = true := hp1
    by_cases hp2 : r1.1 = a0.from_
    ·
      replace F := ite_y hp2 F
      have hq2 := dec_t hp2
      refine CW.region ?_
      refine LW.pure rfl rfl (RV.move rfl) ?_
      refine LW.pure rfl rfl (RV.move rfl) ?_
      refine LW.pureYB rfl rfl rfl rfl hq1 (RV.move rfl) ?_
      refine LW.pureYB rfl rfl rfl rfl hq1 (RV.fieldAddr Tf24_1 rfl) ?_
      refine LW.pureYB rfl rfl rfl rfl hq1 (RV.load1 Tk3 rfl ((H.blk 1 rfl).cells.off 1) rfl) ?_
      refine LW.pureYB rfl rfl rfl rfl hq1 (RV.eqi rfl rfl) ?_
      refine LW.pure rfl rfl (RV.pickTB rfl hq1 rfl) ?_
      refine LW.pure rfl rfl (RV.move rfl) ?_
      refine LW.pureYB rfl rfl rfl rfl hq2 (RV.move rfl) ?_
      refine LW.pureYB rfl rfl rfl rfl hq2 (RV.fieldAddr Tf24_2 rfl) ?_
      refine LW.pureYB rfl rfl rfl rfl hq2 (RV.load1 Tk3 rfl ((H.blk 1 rfl).cells.off 2) rfl) ?_
      refine LW.pureYB rfl rfl rfl rfl hq2 (RV.eqi rfl rfl) ?_
      refine LW.pure rfl rfl (RV.pickTB rfl hq2 rfl) ?_
      refine LW.pure rfl rfl (RV.assign rfl) ?_
      refine LW.nil (hK3 _ _ ?_)
      refine CW.ret ?_
      obtain rfl := Option.some.inj F
      refine ⟨_, (ResOK.one rfl), ?_⟩
      refine ⟨(by first | rfl | simp), R0⟩
    ·
      replace F := ite_n hp2 F
      have hq2 := dec_f hp2
      refine CW.region ?_
      refine LW.pure rfl rfl (RV.move rfl) ?_
      refine LW.pure rfl rfl (RV.move rfl) ?_
      refine LW.pureYB rfl rfl rfl rfl hq1 (RV.move rfl) ?_
      refine LW.pureYB rfl rfl rfl rfl hq1 (RV.fieldAddr Tf24_1 rfl) ?_
      refine LW.pureYB rfl rfl rfl rfl hq1 (RV.load1 Tk3 rfl ((H.blk 1 rfl).cells.off 1) rfl) ?_
      refine LW.pureYB rfl rfl rfl rfl hq1 (RV.eqi rfl rfl) ?_
      refine LW.pure rfl rfl (RV.pickTB rfl hq1 rfl) ?_
      refine LW.pure rfl rfl (RV.move rfl) ?_
      refine LW.noB rfl rfl rfl rfl (ne_beq (v := false) hq2 rfl) ?_
      refine LW.noB rfl rfl rfl rfl (ne_beq (v := false) hq2 rfl) ?_
      refine LW.noB rfl rfl rfl rfl (ne_beq (v := false) hq2 rfl) ?_
      refine LW.noB rfl rfl rfl rfl (ne_beq (v := false) hq2 rfl) ?_
      refine LW.pure rfl rfl (RV.pickFB rfl hq2 rfl) ?_
      refine LW.pure rfl rfl (RV.assign rfl) ?_
      refine LW.nil (hK3 _ _ ?_)
      refine CW.ret ?_
      obtain rfl := Option.some.inj F
      refine ⟨_, (ResOK.one rfl), ?_⟩
      refine ⟨(by first | rfl | simp), R0⟩
  ·
    replace F := ite_n hp1 F
    have hq1 : r1.2.2 = false := raw_f hp1
    refine CW.region ?_
    refine LW.pure rfl rfl (RV.move rfl) ?_
    refine LW.pure rfl rfl (RV.move rfl) ?_
    refine LW.noB rfl rfl rfl rfl (ne_beq (v := false) hq1 rfl) ?_
    refine LW.noB rfl rfl rfl rfl (ne_beq (v := false) hq1 rfl) ?_
    refine LW.noB rfl rfl rfl rfl (ne_beq (v := false) hq1 rfl) ?_
    refine LW.noB rfl rfl rfl rfl (ne_beq (v := false) hq1 rfl) ?_
    refine LW.pure rfl rfl (RV.pickFB rfl hq1 rfl) ?_
    refine LW.pure rfl rfl (RV.move rfl) ?_
    refine LW.noB rfl rfl rfl rfl (ne_beq (v := false) rfl rfl) ?_
    refine LW.noB rfl rfl rfl rfl (ne_beq (v := false) rfl rfl) ?_
    refine LW.noB rfl rfl rfl rfl (ne_beq (v := false) rfl rfl) ?_
    refine LW.noB rfl rfl rfl rfl (ne_beq (v := false) rfl rfl) ?_
    refine LW.pure rfl rfl (RV.pickFB rfl rfl rfl) ?_
    refine LW.pure rfl rfl (RV.assign rfl) ?_
    refine LW.nil (hK3 _ _ ?_)
    refine CW.ret ?_
    obtain rfl := Option.some.inj F
    refine ⟨_, (ResOK.one rfl), ?_⟩
    refine ⟨(by first | rfl | simp), R0⟩
set_option maxRecDepth 20000 in
set_option maxHeartbeats 1000000 in
theorem ref02_IsRound_ok {a0 : Net} {a1 : Trail} {A_a0_drains : Option Addr} {c_a0_drains : Nat} {A_a1_drains : Option Addr} {c_a1_drains : Nat} {w : World} {res : Bool} (h_a0_drains : Sl w A_a0_drains c_a0_drains 3 (a0.drains.map encDrain)) (h_a1_drains : Sl w A_a1_drains c_a1_drains 1 (a1.drains.map encN)) (F : ref02_IsRound a0 a1 = some res) : Calls Try.prog 79 #[.agg #[.int .i64 a0.nodes, .int .i64 a0.from_, .int .i64 a0.to_, .slice A_a0_drains a0.drains.length c_a0_drains], .agg #[.slice A_a1_drains a1.drains.length c_a1_drains, .int .i64 a1.amount]] w (Rt w (.bool res)) := by
  refine calls_of_cw (args := [.agg #[.int .i64 a0.nodes, .int .i64 a0.from_, .int .i64 a0.to_, .slice A_a0_drains a0.drains.length c_a0_drains], .agg #[.slice A_a1_drains a1.drains.length c_a1_drains, .int .i64 a1.amount]]) Try.func79 rfl rfl rfl rfl ?_
  have H := Hp.start w
  have R0 := H.ext
  unfold ref02_IsRound at F
  refine CW.seq fun K1 hK1 => ?_
  refine CW.region ?_
  refine LW.go rfl rfl (OW.box rfl fun b1 w1 N1 => ?_)
  replace H := H.new N1 N1.blk
  replace R0 := H.ext
  refine LW.go rfl rfl (OW.box rfl fun b2 w2 N2 => ?_)
  replace H := H.new N2 N2.blk
  replace R0 := H.ext
  refine LW.pure rfl rfl (RV.assign rfl) ?_
  refine LW.nil (hK1 _ _ ?_)
  refine CW.seq fun K2 hK2 => ?_
  obtain ⟨r1, hr1, F⟩ := bnd_some F
  refine CW.region ?_
  refine LW.pure rfl rfl (RV.loadA [.int .i64 a0.nodes, .int .i64 a0.from_, .int .i64 a0.to_, .slice A_a0_drains a0.drains.length c_a0_drains] Tk24 rfl (H.blk 1 rfl).cells rfl rfl) ?_
  refine LW.pure rfl rfl (RV.loadA [.slice A_a1_drains a1.drains.length c_a1_drains, .int .i64 a1.amount] Tk79 rfl (H.blk 0 rfl).cells rfl rfl) ?_
  refine LW.go rfl rfl (OW.call Tc95 rfl (ref02_Path_ok (a0 := a0) (a1 := a1) (h_a0_drains.ext R0) (h_a1_drains.ext R0) hr1) ?_)
  rintro _ w3 ⟨rfl, E1⟩
  refine ⟨_, rfl, ?_⟩
  replace H := H.grow E1
  replace R0 := H.ext
  refine LW.pure rfl rfl (RV.move rfl) ?_
  refine LW.pure rfl rfl (RV.extract rfl rfl) ?_
  refine LW.pure rfl rfl (RV.extract rfl rfl) ?_
  refine LW.pure rfl rfl (RV.extract rfl rfl) ?_
  refine LW.pure rfl rfl (RV.assign rfl) ?_
  refine LW.pure rfl rfl (RV.assign rfl) ?_
  refine LW.pure rfl rfl (RV.assign rfl) ?_
  refine LW.nil (hK2 _ _ ?_)
  refine CW.seq fun K3 hK3 => ?_
  by_cases hp1 : r1.2.2 = true
  ·
    replace F := ite_y hp1 F
    have hq1 : r1.2.2 = true := hp1
    refine CW.region ?_
    refine LW.pure rfl rfl (RV.move rfl) ?_
    refine LW.pure rfl rfl (RV.move rfl) ?_
    refine LW.pureYB rfl rfl rfl rfl hq1 (RV.move rfl) ?_
    refine LW.pureYB rfl rfl rfl rfl hq1 (RV.move rfl) ?_
    refine LW.pureYB rfl rfl rfl rfl hq1 (RV.eqi rfl rfl) ?_
    refine LW.pure rfl rfl (RV.pickTB rfl hq1 rfl) ?_
    refine LW.pure rfl rfl (RV.assign rfl) ?_
    refine LW.nil (hK3 _ _ ?_)
    refine CW.ret ?_
    obtain rfl := Option.some.inj F
    refine ⟨_, (ResOK.one rfl), ?_⟩
    refine ⟨(by first | rfl | simp), R0⟩
  ·
    replace F := ite_n hp1 F
    have hq1 : r1.2.2 = false := raw_f hp1
    refine CW.region ?_
    refine LW.pure rfl rfl (RV.move rfl) ?_
    refine LW.pure rfl rfl (RV.move rfl) ?_
    refine LW.noB rfl rfl rfl rfl (ne_beq (v := false) hq1 rfl) ?_
    refine LW.noB rfl rfl rfl rfl (ne_beq (v := false) hq1 rfl) ?_
    refine LW.noB rfl rfl rfl rfl (ne_beq (v := false) hq1 rfl) ?_
    refine LW.pure rfl rfl (RV.pickFB rfl hq1 rfl) ?_
    refine LW.pure rfl rfl (RV.assign rfl) ?_
    refine LW.nil (hK3 _ _ ?_)
    refine CW.ret ?_
    obtain rfl := Option.some.inj F
    refine ⟨_, (ResOK.one rfl), ?_⟩
    refine ⟨(by first | rfl | simp), R0⟩
set_option maxRecDepth 20000 in
set_option maxHeartbeats 1000000 in
theorem ref02_Sum_ok {a0 : Net} {a1 : List Trail} {A_a0_drains : Option Addr} {c_a0_drains : Nat} {A_a1 : Option Addr} {c_a1 : Nat} {w : World} {res : (List Int) × Int} (h_a0_drains : Sl w A_a0_drains c_a0_drains 3 (a0.drains.map encDrain)) (h_a1 : SlT w A_a1 c_a1 2 encTrail (fun x => x.drains) 1 encN a1) (F : ref02_Sum a0 a1 = some res) : Calls Try.prog 39 #[.agg #[.int .i64 a0.nodes, .int .i64 a0.from_, .int .i64 a0.to_, .slice A_a0_drains a0.drains.length c_a0_drains], .slice A_a1 a1.length c_a1] w (fun e w' => ∃ (A1 : Option Addr) (c1 : Nat), e = .returned (.tuple #[.slice A1 res.1.length c1, .int .i64 res.2]) ∧ Hp w w' [.own A1 c1 3 1 (List.map encN res.1)]) := by
  refine calls_of_cw (args := [.agg #[.int .i64 a0.nodes, .int .i64 a0.from_, .int .i64 a0.to_, .slice A_a0_drains a0.drains.length c_a0_drains], .slice A_a1 a1.length c_a1]) Try.func39 rfl rfl rfl rfl ?_
  have H := Hp.start w
  have R0 := H.ext
  unfold ref02_Sum at F
  refine CW.seq fun K1 hK1 => ?_
  refine CW.region ?_
  refine LW.go rfl rfl (OW.box rfl fun b1 w1 N1 => ?_)
  replace H := H.new N1 N1.blk
  replace R0 := H.ext
  refine LW.pure rfl rfl (RV.assign rfl) ?_
  refine LW.pure rfl rfl (RV.assign rfl) ?_
  refine LW.nil (hK1 _ _ ?_)
  refine CW.seq fun K2 hK2 => ?_
  refine CW.seq fun K3 hK3 => ?_
  obtain ⟨r3, hr3, F⟩ := bnd_some F
  refine CW.region ?_
  refine LW.pure rfl rfl (RV.loadA [.int .i64 a0.nodes, .int .i64 a0.from_, .int .i64 a0.to_, .slice A_a0_drains a0.drains.length c_a0_drains] Tk24 rfl (H.blk 0 rfl).cells rfl rfl) ?_
  refine LW.go rfl rfl (OW.call Tc27 rfl (ref02_Validate_ok (a0 := a0) (h_a0_drains.ext R0) hr3) ?_)
  rintro _ w2 ⟨rfl, E1⟩
  refine ⟨_, rfl, ?_⟩
  replace H := H.grow E1
  replace R0 := H.ext
  refine LW.pure rfl rfl (RV.assign rfl) ?_
  refine LW.nil (hK3 _ _ ?_)
  refine CW.seq fun K4 hK4 => ?_
  refine CW.region ?_
  refine LW.pure rfl rfl (RV.move rfl) ?_
  refine LW.pure rfl rfl (RV.nei rfl rfl) ?_
  refine LW.nil (hK4 _ _ ?_)
  by_cases hp1 : r3 = 0
  ·
    replace F := ite_y hp1 F
    have hq1 := dec_t hp1
    refine CW.condF rfl (not_f hq1) ?_
    refine CW.skip (hK2 _ _ ?_)
    refine CW.seq fun K5 hK5 => ?_
    refine CW.seq fun K6 hK6 => ?_
    refine CW.region ?_
    refine LW.pure rfl rfl (RV.move rfl) ?_
    refine LW.pure rfl rfl (RV.len Ts45 rfl) ?_
    refine LW.pure rfl rfl (RV.gtr rfl rfl) ?_
    refine LW.nil (hK6 _ _ ?_)
    by_cases hp2 : (40 : Int) < ((a1.length : Int))
    ·
      replace F := ite_y hp2 F
      have hq2 := dec_t hp2
      refine CW.condT rfl hq2 ?_
      refine CW.seq fun K7 hK7 => ?_
      refine CW.region ?_
      refine LW.pure rfl rfl (RV.assign rfl) ?_
      refine LW.pure rfl rfl (RV.assign rfl) ?_
      refine LW.nil (hK7 _ _ ?_)
      refine CW.ret ?_
      obtain rfl := Option.some.inj F
      refine ⟨_, (ResOK.two rfl rfl), ?_⟩
      replace H := H.nilOwn 3 1
      replace R0 := H.ext
      replace H := H.pick (L' := [.own none 0 3 1 (List.map encN (([] : List Int)))]) [0] (by decide) rfl
      replace R0 := H.ext
      exact ⟨none, 0, (by first | rfl | (simp; done) | (simp; omega)), H⟩
    ·
      replace F := ite_n hp2 F
      have hq2 := dec_f hp2
      refine CW.condF rfl hq2 ?_
      refine CW.skip (hK5 _ _ ?_)
      refine CW.seq fun K8 hK8 => ?_
      obtain ⟨hg1, F⟩ := gd_some F
      refine CW.region ?_
      refine LW.pure rfl rfl (RV.fieldAddr Tf24_3 rfl) ?_
      refine LW.pure rfl rfl (RV.load1 Tk22 rfl ((H.blk 0 rfl).cells.off 3) rfl) ?_
      refine LW.pure rfl rfl (RV.len Ts22 rfl) ?_
      refine LW.go rfl rfl (OW.makeR (enc := encN) (0 : Int) Ts30 rfl rfl rfl rfl rfl hg1 (by decide) fun b2 w3 N2 => ?_)
      replace H := H.made' (k := 1) (t := 3) (enc := encN) (l := (List.replicate (Int.toNat ((a0.drains.length : Int))) (0 : Int))) N2 N2.blk (fun _ => rfl) rfl (by first | decide | omega | (simp; done) | (simp; omega))
      replace R0 := H.ext
      refine LW.pure rfl rfl (RV.assign rfl) ?_
      refine LW.nil (hK8 _ _ ?_)
      refine CW.seqJ (fun ρ wl1 => (∃ (l1 : List Int), ref02_Sum_k1 l1 = some res ∧ ρ = [(4, .slice none 0 0), (5, .int .i64 0), (7, .slice (some ⟨b2, 0, none⟩) l1.length (((List.replicate (Int.toNat ((a0.drains.length : Int))) (0 : Int))).length))] ∧ Hp w wl1 [.own (some ⟨b2, 0, none⟩) (((List.replicate (Int.toNat ((a0.drains.length : Int))) (0 : Int))).length) 3 1 (List.map encN l1)])) ?_ ?_
      ·
        rintro _ wl1 ⟨l1, F, rfl, H⟩
        have R0 := H.ext
        unfold ref02_Sum_k1 at F
        refine CW.seq fun K9 hK9 => ?_
        refine CW.region ?_
        refine LW.pure rfl rfl (RV.move rfl) ?_
        refine LW.pure rfl rfl (RV.assign rfl) ?_
        refine LW.pure rfl rfl (RV.assign rfl) ?_
        refine LW.nil (hK9 _ _ ?_)
        refine CW.ret ?_
        obtain rfl := Option.some.inj F
        refine ⟨_, (ResOK.two rfl rfl), ?_⟩
        exact ⟨(some ⟨b2, 0, none⟩), (((List.replicate (Int.toNat ((a0.drains.length : Int))) (0 : Int))).length), (by first | rfl | (simp; done) | (simp; omega)), H⟩
      ·
        intro K10 hK10 jK285
        refine CW.seq fun K11 hK11 => ?_
        refine CW.region ?_
        refine LW.pure rfl rfl (RV.assign rfl) ?_
        refine LW.nil (hK11 _ _ ?_)
        refine CW.block ?_
        refine CW.loop (fun meas ρ wl2 => ∃ (t8_1 : Int) (l4 : List Int), ref02_Sum_L2 a0 a1 meas t8_1 l4 = some res ∧ ρ = [(1, .slice A_a1 a1.length c_a1), (2, .pointer (some (⟨b1, 0, none⟩))), (4, .slice none 0 0), (5, .int .i64 0), (7, .slice (some ⟨b2, 0, none⟩) l4.length (((List.replicate (Int.toNat ((a0.drains.length : Int))) (0 : Int))).length)), (8, .int .i64 t8_1)] ∧ Hp w wl2 [.own (some ⟨b2, 0, none⟩) (((List.replicate (Int.toNat ((a0.drains.length : Int))) (0 : Int))).length) 3 1 (List.map encN l4), .blk b1 24 [.int .i64 a0.nodes, .int .i64 a0.from_, .int .i64 a0.to_, .slice A_a0_drains a0.drains.length c_a0_drains]]) FU ⟨_, ?_, ((0 : Int)), ((List.replicate (Int.toNat ((a0.drains.length : Int))) (0 : Int))), F, rfl, H⟩ ?_
        · exact ⟨rfl, rfl, rfl, rfl, (look_slice rfl (by first | rfl | (simp; done) | (simp; omega))), rfl, trivial⟩
        rintro mk1 _ wl2 ⟨t8_1, l4, F, rfl, H⟩
        have R0 := H.ext
        replace F := ref02_Sum_L2_s F
        obtain ⟨mk1, rfl, F⟩ := F
        generalize hrec1 : ref02_Sum_L2 a0 a1 mk1 = rec1 at F
        unfold ref02_Sum_B2 at F
        refine CW.seq fun K12 hK12 => ?_
        refine CW.seq fun K13 hK13 => ?_
        refine CW.region ?_
        refine LW.pure rfl rfl (RV.move rfl) ?_
        refine LW.pure rfl rfl (RV.move rfl) ?_
        refine LW.pure rfl rfl (RV.len Ts45 rfl) ?_
        refine LW.pure rfl rfl (RV.lss rfl rfl) ?_
        refine LW.nil (hK13 _ _ ?_)
        by_cases hp3 : t8_1 < ((a1.length : Int))
        ·
          replace F := ite_y hp3 F
          have hq3 := dec_t hp3
          refine CW.condT rfl hq3 ?_
          refine CW.skip (hK12 _ _ ?_)
          refine CW.seqJ (fun ρ wl3 => (∃ (l2 : List Int), ref02_Sum_k2 t8_1 rec1 l2 = some res ∧ ρ = [(1, .slice A_a1 a1.length c_a1), (2, .pointer (some (⟨b1, 0, none⟩))), (4, .slice none 0 0), (5, .int .i64 0), (7, .slice (some ⟨b2, 0, none⟩) l2.length (((List.replicate (Int.toNat ((a0.drains.length : Int))) (0 : Int))).length)), (8, .int .i64 t8_1)] ∧ Hp w wl3 [.own (some ⟨b2, 0, none⟩) (((List.replicate (Int.toNat ((a0.drains.length : Int))) (0 : Int))).length) 3 1 (List.map encN l2), .blk b1 24 [.int .i64 a0.nodes, .int .i64 a0.from_, .int .i64 a0.to_, .slice A_a0_drains a0.drains.length c_a0_drains]])) ?_ ?_
          ·
            rintro _ wl3 ⟨l2, F, rfl, H⟩
            have R0 := H.ext
            unfold ref02_Sum_k2 at F
            obtain ⟨hg2, F⟩ := gd_some F
            refine CW.region ?_
            refine LW.pure rfl rfl (RV.move rfl) ?_
            refine LW.pure rfl rfl (RV.add rfl rfl hg2) ?_
            refine LW.pure rfl rfl (RV.assign rfl) ?_
            refine LW.nil ?_
            subst hrec1
            refine ⟨mk1, Nat.lt_succ_self _, _, ?_, (t8_1 + 1), l2, F, rfl, H⟩
            exact ⟨rfl, rfl, rfl, rfl, (look_slice rfl (by first | rfl | (simp; done) | (simp; omega))), rfl, trivial⟩
          ·
            intro K14 hK14 jK360
            refine CW.block ?_
            refine CW.seq fun K15 hK15 => ?_
            refine CW.seqJ (fun ρ wl4 => (∃ (t43_1 : Bool), ref02_Sum_k3 a1 t8_1 l4 rec1 t43_1 = some res ∧ ρ = [(1, .slice A_a1 a1.length c_a1), (2, .pointer (some (⟨b1, 0, none⟩))), (4, .slice none 0 0), (5, .int .i64 0), (7, .slice (some ⟨b2, 0, none⟩) l4.length (((List.replicate (Int.toNat ((a0.drains.length : Int))) (0 : Int))).length)), (8, .int .i64 t8_1), (43, .bool t43_1)] ∧ Hp w wl4 [.own (some ⟨b2, 0, none⟩) (((List.replicate (Int.toNat ((a0.drains.length : Int))) (0 : Int))).length) 3 1 (List.map encN l4), .blk b1 24 [.int .i64 a0.nodes, .int .i64 a0.from_, .int .i64 a0.to_, .slice A_a0_drains a0.drains.length c_a0_drains]])) ?_ ?_
            ·
              rintro _ wl4 ⟨t43_1, F, rfl, H⟩
              have R0 := H.ext
              unfold ref02_Sum_k3 at F
              by_cases hp4 : t43_1 = true
              ·
                replace F := ite_y hp4 F
                have hq4 : t43_1 = true := hp4
                refine CW.condT rfl hq4 ?_
                refine CW.seq fun K16 hK16 => ?_
                refine CW.region ?_
                refine LW.pure rfl rfl (RV.assign rfl) ?_
                refine LW.pure rfl rfl (RV.assign rfl) ?_
                refine LW.nil (hK16 _ _ ?_)
                refine CW.ret ?_
                obtain rfl := Option.some.inj F
                refine ⟨_, (ResOK.two rfl rfl), ?_⟩
                replace H := H.nilOwn 3 1
                replace R0 := H.ext
                replace H := H.pick (L' := [.own none 0 3 1 (List.map encN (([] : List Int)))]) [0] (by decide) rfl
                replace R0 := H.ext
                exact ⟨none, 0, (by first | rfl | (simp; done) | (simp; omega)), H⟩
              ·
                replace F := ite_n hp4 F
                have hq4 : t43_1 = false := raw_f hp4
                refine CW.condF rfl hq4 ?_
                refine CW.skip (hK15 _ _ ?_)
                refine CW.seq fun K17 hK17 => ?_
                refine CW.region ?_
                refine LW.pure rfl rfl (RV.assign rfl) ?_
                refine LW.nil (hK17 _ _ ?_)
                refine CW.block ?_
                refine CW.loop (fun meas ρ wl5 => ∃ (t9_1 : Int) (l3 : List Int), ref02_Sum_L1 a1 t8_1 rec1 meas t9_1 l3 = some res ∧ ρ = [(1, .slice A_a1 a1.length c_a1), (2, .pointer (some (⟨b1, 0, none⟩))), (4, .slice none 0 0), (5, .int .i64 0), (7, .slice (some ⟨b2, 0, none⟩) l3.length (((List.replicate (Int.toNat ((a0.drains.length : Int))) (0 : Int))).length)), (8, .int .i64 t8_1), (9, .int .i64 t9_1)] ∧ Hp w wl5 [.own (some ⟨b2, 0, none⟩) (((List.replicate (Int.toNat ((a0.drains.length : Int))) (0 : Int))).length) 3 1 (List.map encN l3), .blk b1 24 [.int .i64 a0.nodes, .int .i64 a0.from_, .int .i64 a0.to_, .slice A_a0_drains a0.drains.length c_a0_drains]]) FU ⟨_, ?_, ((0 : Int)), l4, F, rfl, H⟩ ?_
                · exact ⟨rfl, rfl, rfl, rfl, (look_slice rfl (by first | rfl | (simp; done) | (simp; omega))), rfl, rfl, trivial⟩
                rintro mk2 _ wl5 ⟨t9_1, l3, F, rfl, H⟩
                have R0 := H.ext
                replace F := ref02_Sum_L1_s F
                obtain ⟨mk2, rfl, F⟩ := F
                generalize hrec2 : ref02_Sum_L1 a1 t8_1 rec1 mk2 = rec2 at F
                unfold ref02_Sum_B1 at F
                refine CW.seq fun K18 hK18 => ?_
                refine CW.seq fun K19 hK19 => ?_
                obtain ⟨x1, hbx1, hx1, F⟩ := ix_some F
                refine CW.region ?_
                refine LW.pure rfl rfl (RV.move rfl) ?_
                refine LW.pure rfl rfl (RV.move rfl) ?_
                refine LW.pure rfl rfl (RV.move rfl) ?_
                obtain ⟨A2, c2, hC1, hS1⟩ := h_a1.at_ hx1
                refine LW.pure rfl rfl (RV.indexAddr Ts45 rfl rfl hbx1 (h_a1.addr hbx1)) ?_
                refine LW.pure rfl rfl (RV.fieldAddr Tf79_0 rfl) ?_
                refine LW.pure rfl rfl (RV.load1 Tk30 rfl ((hC1.ext R0).off 0) rfl) ?_
                refine LW.pure rfl rfl (RV.len Ts30 rfl) ?_
                refine LW.pure rfl rfl (RV.lss rfl rfl) ?_
                refine LW.nil (hK19 _ _ ?_)
                by_cases hp5 : t9_1 < ((x1.drains.length : Int))
                ·
                  replace F := ite_y hp5 F
                  have hq5 := dec_t hp5
                  refine CW.condT rfl hq5 ?_
                  refine CW.skip (hK18 _ _ ?_)
                  refine CW.seq fun K20 hK20 => ?_
                  refine CW.block ?_
                  obtain ⟨x2, hbx2, hx2, F⟩ := ix_some F
                  obtain ⟨x3, hbx3, hx3, F⟩ := ix_some F
                  obtain ⟨x4, hbx4, hx4, F⟩ := ix_some F
                  obtain ⟨x5, hbx5, hx5, F⟩ := ix_some F
                  obtain ⟨hg3, F⟩ := gd_some F
                  obtain ⟨x6, hbx6, hx6, F⟩ := ix_some F
                  refine CW.draw [18] (fun _ => True) (.cons 0 1 (.cons 1 1 (.cons 2 1 (.cons 3 1 (.cons 4 1 (.cons 5 1 (.cons 6 1 (.cons 7 1 (.cons 8 1 (.cons 9 1 (.cons 10 1 (.cons 11 1 (.cons 12 1 (.cons 13 1 (.cons 14 1 (.cons 15 1 (.cons 16 1 (.cons 17 1 (.cons 18 0 .nil))))))))))))))))))) mixed (by kernel_rfl) fun w4 E2 => ?_
                  replace H := H.grow E2
                  replace R0 := H.ext
                  refine DW.fix rfl rfl rfl (fun _ EQ => RV.move rfl) ?_
                  refine DW.fix rfl rfl rfl (fun _ EQ => RV.move rfl) ?_
                  refine DW.fix rfl rfl rfl (fun _ EQ => RV.move rfl) ?_
                  obtain ⟨A3, c3, hC2, hS2⟩ := h_a1.at_ hx2
                  refine DW.fix rfl rfl rfl (fun _ EQ => RV.indexAddr Ts45 rfl rfl hbx2 (h_a1.addr hbx2)) ?_
                  refine DW.fix rfl rfl rfl (fun _ EQ => RV.fieldAddr Tf79_0 rfl) ?_
                  refine DW.fix rfl rfl rfl (fun _ EQ => RV.load1 Tk30 rfl ((hC2.ext (R0.trans EQ)).off 0) rfl) ?_
                  refine DW.fix rfl rfl rfl (fun _ EQ => RV.move rfl) ?_
                  refine DW.fix rfl rfl rfl (fun _ EQ => RV.indexAddr Ts30 rfl rfl hbx3 (hS2.addr_ hx3)) ?_
                  refine DW.fix rfl rfl rfl (fun _ EQ => RV.load1 Tk3 rfl ((hS2.at_ hx3).ext (R0.trans EQ)) rfl) ?_
                  refine DW.fix rfl rfl rfl (fun _ EQ => RV.indexAddr Ts30 rfl rfl hbx4 ⟨_, rfl⟩) ?_
                  refine DW.fix rfl rfl rfl (fun _ EQ => RV.load1 Tk3 rfl (((H.grow EQ).own 0 rfl).sl.at_ hx4) rfl) ?_
                  refine DW.fix rfl rfl rfl (fun _ EQ => RV.move rfl) ?_
                  refine DW.fix rfl rfl rfl (fun _ EQ => RV.move rfl) ?_
                  obtain ⟨A4, c4, hC3, hS3⟩ := h_a1.at_ hx5
                  refine DW.fix rfl rfl rfl (fun _ EQ => RV.indexAddr Ts45 rfl rfl hbx5 (h_a1.addr hbx5)) ?_
                  refine DW.fix rfl rfl rfl (fun _ EQ => RV.fieldAddr Tf79_1 rfl) ?_
                  refine DW.fix rfl rfl rfl (fun _ EQ => RV.load1 Tk3 rfl ((hC3.ext (R0.trans EQ)).off 1) rfl) ?_
                  refine DW.fix rfl rfl rfl (fun _ EQ => RV.add rfl rfl hg3) ?_
                  refine DW.fix rfl rfl rfl (fun _ EQ => RV.indexAddr Ts30 rfl rfl hbx6 ⟨_, rfl⟩) ?_
                  refine DW.sole rfl rfl rfl (OW.storeO (enc := encN) (vs := [.int .i64 (x4 + x5.amount)]) 0 (x4 + x5.amount) Tk3 rfl rfl (H.own 0 rfl) (fun _ => rfl) rfl hx6 rfl rfl (by decide) rfl rfl fun w5 M1 O1 => ?_)
                  refine ⟨fun h => absurd h (by decide), M1.modx (fun _ _ => trivial), ?_⟩
                  replace H : Hp w w5 [.own (some ⟨b2, 0, none⟩) (((List.replicate (Int.toNat ((a0.drains.length : Int))) (0 : Int))).length) 3 1 (List.map encN ((l3.set (Int.toNat x3) (x4 + x5.amount)))), .blk b1 24 [.int .i64 a0.nodes, .int .i64 a0.from_, .int .i64 a0.to_, .slice A_a0_drains a0.drains.length c_a0_drains]] := H.mod 0 rfl M1 O1 (.inl rfl)
                  replace R0 := H.ext
                  refine DW.nil (hK20 _ _ ?_)
                  obtain ⟨hg4, F⟩ := gd_some F
                  refine CW.region ?_
                  refine LW.pure rfl rfl (RV.move rfl) ?_
                  refine LW.pure rfl rfl (RV.add rfl rfl hg4) ?_
                  refine LW.pure rfl rfl (RV.assign rfl) ?_
                  refine LW.nil ?_
                  subst hrec2
                  refine ⟨mk2, Nat.lt_succ_self _, _, ?_, (t9_1 + 1), ((l3.set (Int.toNat x3) (x4 + x5.amount))), F, rfl, H⟩
                  exact ⟨rfl, rfl, rfl, rfl, (look_slice rfl (by first | rfl | (simp; done) | (simp; omega))), rfl, rfl, trivial⟩
                ·
                  replace F := ite_n hp5 F
                  have hq5 := dec_f hp5
                  refine CW.condF rfl hq5 ?_
                  refine CW.exit (jK360 _ _ ⟨_, ?_, ⟨l3, F, rfl, H⟩⟩)
                  exact ⟨rfl, rfl, rfl, rfl, (look_slice rfl (by first | rfl | (simp; done) | (simp; omega))), rfl, trivial⟩
            ·
              intro K21 hK21 jK373
              obtain ⟨x7, hbx7, hx7, F⟩ := ix_some F
              obtain ⟨r1, hr1, F⟩ := bnd_some F
              by_cases hp6 : r1 = true
              ·
                replace F := ite_y hp6 F
                have hq6 : r1 = true := hp6
                refine CW.draw [] (fun _ => True) (.cons 0 1 (.cons 1 1 (.cons 2 1 (.cons 3 1 (.cons 4 1 (.cons 5 0 (.cons 6 1 (.cons 7 1 (.cons 8 1 (.cons 9 1 (.cons 10 1 (.cons 11 1 (.cons 12 1 (.cons 13 0 (.cons 14 1 (.cons 15 1 .nil)))))))))))))))) mixed (by kernel_rfl) fun w6 E3 => ?_
                replace H := H.grow E3
                replace R0 := H.ext
                refine DW.fix rfl rfl rfl (fun _ EQ => RV.loadA [.int .i64 a0.nodes, .int .i64 a0.from_, .int .i64 a0.to_, .slice A_a0_drains a0.drains.length c_a0_drains] Tk24 rfl ((H.grow EQ).blk 1 rfl).cells rfl rfl) ?_
                refine DW.fix rfl rfl rfl (fun _ EQ => RV.move rfl) ?_
                refine DW.fix rfl rfl rfl (fun _ EQ => RV.move rfl) ?_
                obtain ⟨A5, c5, hC4, hS4⟩ := h_a1.at_ hx7
                refine DW.fix rfl rfl rfl (fun _ EQ => RV.indexAddr Ts45 rfl rfl hbx7 (h_a1.addr hbx7)) ?_
                refine DW.fix rfl rfl rfl (fun _ EQ => RV.loadA [.slice A5 x7.drains.length c5, .int .i64 x7.amount] Tk79 rfl (hC4.ext (R0.trans EQ)) rfl rfl) ?_
                refine DW.sole rfl rfl rfl (OW.call Tc78 rfl (ref02_IsWay_ok (a0 := a0) (a1 := x7) (h_a0_drains.ext R0) (hS4.ext R0) hr1) ?_)
                rintro _ w7 ⟨rfl, E4⟩
                refine ⟨_, rfl, fun _ => E4, ModX.ext E4, ?_⟩
                replace H := H.grow E4
                replace R0 := H.ext
                refine DW.fix rfl rfl rfl (fun _ EQ => RV.not rfl) ?_
                refine DW.fix rfl rfl rfl (fun _ EQ => RV.move rfl) ?_
                refine DW.fixNB rfl rfl rfl rfl rfl (ne_beq (v := false) (not_f hq6) rfl) ?_
                refine DW.fixNB rfl rfl rfl rfl rfl (ne_beq (v := false) (not_f hq6) rfl) ?_
                refine DW.fixNB rfl rfl rfl rfl rfl (ne_beq (v := false) (not_f hq6) rfl) ?_
                refine DW.fixNB rfl rfl rfl rfl rfl (ne_beq (v := false) (not_f hq6) rfl) ?_
                refine DW.fixNB rfl rfl rfl rfl rfl (ne_beq (v := false) (not_f hq6) rfl) ?_
                refine DW.soleNB rfl rfl rfl rfl rfl (ne_beq (v := false) (not_f hq6) rfl) ?_
                refine DW.fixNB rfl rfl rfl rfl rfl (ne_beq (v := false) (not_f hq6) rfl) ?_
                refine DW.fix rfl rfl rfl (fun _ EQ => RV.pickFB rfl (not_f hq6) rfl) ?_
                refine DW.nil (jK373 _ _ ⟨_, ?_, ⟨false, F, rfl, H⟩⟩)
                exact ⟨rfl, rfl, rfl, rfl, (look_slice rfl (by first | rfl | (simp; done) | (simp; omega))), rfl, rfl, trivial⟩
              ·
                replace F := ite_n hp6 F
                have hq6 : r1 = false := raw_f hp6
                obtain ⟨x8, hbx8, hx8, F⟩ := ix_some F
                obtain ⟨r2, hr2, F⟩ := bnd_some F
                refine CW.draw [] (fun _ => True) (.cons 0 1 (.cons 1 1 (.cons 2 1 (.cons 3 1 (.cons 4 1 (.cons 5 0 (.cons 6 1 (.cons 7 1 (.cons 8 1 (.cons 9 1 (.cons 10 1 (.cons 11 1 (.cons 12 1 (.cons 13 0 (.cons 14 1 (.cons 15 1 .nil)))))))))))))))) mixed (by kernel_rfl) fun w8 E5 => ?_
                replace H := H.grow E5
                replace R0 := H.ext
                refine DW.fix rfl rfl rfl (fun _ EQ => RV.loadA [.int .i64 a0.nodes, .int .i64 a0.from_, .int .i64 a0.to_, .slice A_a0_drains a0.drains.length c_a0_drains] Tk24 rfl ((H.grow EQ).blk 1 rfl).cells rfl rfl) ?_
                refine DW.fix rfl rfl rfl (fun _ EQ => RV.move rfl) ?_
                refine DW.fix rfl rfl rfl (fun _ EQ => RV.move rfl) ?_
                obtain ⟨A6, c6, hC5, hS5⟩ := h_a1.at_ hx7
                refine DW.fix rfl rfl rfl (fun _ EQ => RV.indexAddr Ts45 rfl rfl hbx7 (h_a1.addr hbx7)) ?_
                refine DW.fix rfl rfl rfl (fun _ EQ => RV.loadA [.slice A6 x7.drains.length c6, .int .i64 x7.amount] Tk79 rfl (hC5.ext (R0.trans EQ)) rfl rfl) ?_
                refine DW.sole rfl rfl rfl (OW.call Tc78 rfl (ref02_IsWay_ok (a0 := a0) (a1 := x7) (h_a0_drains.ext R0) (hS5.ext R0) hr1) ?_)
                rintro _ w9 ⟨rfl, E6⟩
                refine ⟨_, rfl, fun _ => E6, ModX.ext E6, ?_⟩
                replace H := H.grow E6
                replace R0 := H.ext
                refine DW.fix rfl rfl rfl (fun _ EQ => RV.not rfl) ?_
                refine DW.fix rfl rfl rfl (fun _ EQ => RV.move rfl) ?_
                refine DW.fixYB rfl rfl rfl rfl rfl (not_t hq6) (fun _ EQ => RV.loadA [.int .i64 a0.nodes, .int .i64 a0.from_, .int .i64 a0.to_, .slice A_a0_drains a0.drains.length c_a0_drains] Tk24 rfl ((H.grow EQ).blk 1 rfl).cells rfl rfl) ?_
                refine DW.fixYB rfl rfl rfl rfl rfl (not_t hq6) (fun _ EQ => RV.move rfl) ?_
                refine DW.fixYB rfl rfl rfl rfl rfl (not_t hq6) (fun _ EQ => RV.move rfl) ?_
                obtain ⟨A7, c7, hC6, hS6⟩ := h_a1.at_ hx8
                refine DW.fixYB rfl rfl rfl rfl rfl (not_t hq6) (fun _ EQ => RV.indexAddr Ts45 rfl rfl hbx8 (h_a1.addr hbx8)) ?_
                refine DW.fixYB rfl rfl rfl rfl rfl (not_t hq6) (fun _ EQ => RV.loadA [.slice A7 x8.drains.length c7, .int .i64 x8.amount] Tk79 rfl (hC6.ext (R0.trans EQ)) rfl rfl) ?_
                refine DW.soleYB rfl rfl rfl rfl rfl (not_t hq6) (OW.call Tc79 rfl (ref02_IsRound_ok (a0 := a0) (a1 := x8) (h_a0_drains.ext R0) (hS6.ext R0) hr2) ?_)
                rintro _ w10 ⟨rfl, E7⟩
                refine ⟨_, rfl, fun _ => E7, ModX.ext E7, ?_⟩
                replace H := H.grow E7
                replace R0 := H.ext
                refine DW.fixYB rfl rfl rfl rfl rfl (not_t hq6) (fun _ EQ => RV.not rfl) ?_
                refine DW.fix rfl rfl rfl (fun _ EQ => RV.pickTB rfl (not_t hq6) rfl) ?_
                refine DW.nil (jK373 _ _ ⟨_, ?_, ⟨(!r2), F, rfl, H⟩⟩)
                exact ⟨rfl, rfl, rfl, rfl, (look_slice rfl (by first | rfl | (simp; done) | (simp; omega))), rfl, rfl, trivial⟩
        ·
          replace F := ite_n hp3 F
          have hq3 := dec_f hp3
          refine CW.condF rfl hq3 ?_
          replace H := H.pick (L' := [.own (some ⟨b2, 0, none⟩) (((List.replicate (Int.toNat ((a0.drains.length : Int))) (0 : Int))).length) 3 1 (List.map encN l4)]) [0] (by decide) rfl
          replace R0 := H.ext
          refine CW.exit (jK285 _ _ ⟨_, ?_, ⟨l4, F, rfl, H⟩⟩)
          exact ⟨rfl, rfl, (look_slice rfl (by first | rfl | (simp; done) | (simp; omega))), trivial⟩
  ·
    replace F := ite_n hp1 F
    have hq1 := dec_f hp1
    refine CW.condT rfl (not_t hq1) ?_
    refine CW.seq fun K22 hK22 => ?_
    refine CW.region ?_
    refine LW.pure rfl rfl (RV.move rfl) ?_
    refine LW.pure rfl rfl (RV.assign rfl) ?_
    refine LW.pure rfl rfl (RV.assign rfl) ?_
    refine LW.nil (hK22 _ _ ?_)
    refine CW.ret ?_
    obtain rfl := Option.some.inj F
    refine ⟨_, (ResOK.two rfl rfl), ?_⟩
    replace H := H.nilOwn 3 1
    replace R0 := H.ext
    replace H := H.pick (L' := [.own none 0 3 1 (List.map encN (([] : List Int)))]) [0] (by decide) rfl
    replace R0 := H.ext
    exact ⟨none, 0, (by first | rfl | (simp; done) | (simp; omega)), H⟩
end Go.D2

set_option linter.unusedVariables false
set_option linter.unusedSimpArgs false
namespace Go.D2
open Go.Tb Go.Proofs Go.RowKit
theorem Tc37 : callable Try.prog 37 = true := by kernel_rfl
theorem Tc38 : callable Try.prog 38 = true := by kernel_rfl
theorem Tc39 : callable Try.prog 39 = true := by kernel_rfl
set_option maxRecDepth 20000 in
set_option maxHeartbeats 1000000 in
theorem law02_DrainSums_ok {a0 : Net} {a1 : List Trail} {A_a0_drains : Option Addr} {c_a0_drains : Nat} {A_a1 : Option Addr} {c_a1 : Nat} {w : World} {res : Bool} (h_a0_drains : Sl w A_a0_drains c_a0_drains 3 (a0.drains.map encDrain)) (h_a1 : SlT w A_a1 c_a1 2 encTrail (fun x => x.drains) 1 encN a1) (F : law02_DrainSums a0 a1 = some res) : Calls Try.prog 9 #[.agg #[.int .i64 a0.nodes, .int .i64 a0.from_, .int .i64 a0.to_, .slice A_a0_drains a0.drains.length c_a0_drains], .slice A_a1 a1.length c_a1] w (Rt w (.bool res)) := by
  refine calls_of_cw (args := [.agg #[.int .i64 a0.nodes, .int .i64 a0.from_, .int .i64 a0.to_, .slice A_a0_drains a0.drains.length c_a0_drains], .slice A_a1 a1.length c_a1]) Try.func9 rfl rfl rfl rfl ?_
  have H := Hp.start w
  have R0 := H.ext
  unfold law02_DrainSums at F
  refine CW.seq fun K1 hK1 => ?_
  refine CW.region ?_
  refine LW.go rfl rfl (OW.box rfl fun b1 w1 N1 => ?_)
  replace H := H.new N1 N1.blk
  replace R0 := H.ext
  refine LW.pure rfl rfl (RV.assign rfl) ?_
  refine LW.nil (hK1 _ _ ?_)
  refine CW.seq fun K2 hK2 => ?_
  refine CW.seqJ (fun ρ wl1 => (∃ (t14_1 : Bool), law02_DrainSums_k1 a0 a1 t14_1 = some res ∧ ρ = [(1, .slice A_a1 a1.length c_a1), (2, .pointer (some (⟨b1, 0, none⟩))), (4, .bool false), (14, .bool t14_1)] ∧ Hp w wl1 [.blk b1 24 [.int .i64 a0.nodes, .int .i64 a0.from_, .int .i64 a0.to_, .slice A_a0_drains a0.drains.length c_a0_drains]])) ?_ ?_
  ·
    rintro _ wl1 ⟨t14_1, F, rfl, H⟩
    have R0 := H.ext
    unfold law02_DrainSums_k1 at F
    by_cases hp1 : t14_1 = true
    ·
      replace F := ite_y hp1 F
      have hq1 : t14_1 = true := hp1
      refine CW.condT rfl hq1 ?_
      refine CW.seq fun K3 hK3 => ?_
      obtain ⟨r1, hr1, F⟩ := bnd_some F
      refine CW.region ?_
      refine LW.go rfl rfl (OW.call Tc17 rfl (law02_known_ok hr1) ?_)
      rintro _ w2 ⟨rfl, E1⟩
      refine ⟨_, rfl, ?_⟩
      replace H := H.grow E1
      replace R0 := H.ext
      refine LW.pure rfl rfl (RV.assign rfl) ?_
      refine LW.nil (hK3 _ _ ?_)
      refine CW.ret ?_
      obtain rfl := Option.some.inj F
      refine ⟨_, (ResOK.one rfl), ?_⟩
      refine ⟨(by first | rfl | simp), R0⟩
    ·
      replace F := ite_n hp1 F
      have hq1 : t14_1 = false := raw_f hp1
      refine CW.condF rfl hq1 ?_
      refine CW.skip (hK2 _ _ ?_)
      refine CW.seq fun K4 hK4 => ?_
      obtain ⟨r2, hr2, F⟩ := bnd_some F
      refine CW.region ?_
      refine LW.pure rfl rfl (RV.loadA [.int .i64 a0.nodes, .int .i64 a0.from_, .int .i64 a0.to_, .slice A_a0_drains a0.drains.length c_a0_drains] Tk24 rfl (H.blk 0 rfl).cells rfl rfl) ?_
      refine LW.pure rfl rfl (RV.move rfl) ?_
      refine LW.go rfl rfl (OW.call Tc38 rfl (drain_Sum_ok (a0 := a0) (a1 := a1) (h_a0_drains.ext R0) (h_a1.ext R0) hr2) ?_)
      rintro _ w3 ⟨A15_0, c15_0, rfl, E2⟩
      refine ⟨_, rfl, ?_⟩
      replace H : Hp w w3 [.own A15_0 c15_0 3 1 (List.map encN r2.1), .blk b1 24 [.int .i64 a0.nodes, .int .i64 a0.from_, .int .i64 a0.to_, .slice A_a0_drains a0.drains.length c_a0_drains]] := H.append E2
      replace R0 := H.ext
      refine LW.pure rfl rfl (RV.move rfl) ?_
      refine LW.pure rfl rfl (RV.extract rfl rfl) ?_
      refine LW.pure rfl rfl (RV.extract rfl rfl) ?_
      refine LW.pure rfl rfl (RV.assign rfl) ?_
      refine LW.pure rfl rfl (RV.assign rfl) ?_
      refine LW.nil (hK4 _ _ ?_)
      refine CW.seq fun K5 hK5 => ?_
      obtain ⟨r3, hr3, F⟩ := bnd_some F
      refine CW.region ?_
      refine LW.pure rfl rfl (RV.loadA [.int .i64 a0.nodes, .int .i64 a0.from_, .int .i64 a0.to_, .slice A_a0_drains a0.drains.length c_a0_drains] Tk24 rfl (H.blk 1 rfl).cells rfl rfl) ?_
      refine LW.pure rfl rfl (RV.move rfl) ?_
      refine LW.go rfl rfl (OW.call Tc39 rfl (ref02_Sum_ok (a0 := a0) (a1 := a1) (h_a0_drains.ext R0) (h_a1.ext R0) hr3) ?_)
      rintro _ w4 ⟨A17_0, c17_0, rfl, E3⟩
      refine ⟨_, rfl, ?_⟩
      replace H : Hp w w4 [.own A17_0 c17_0 3 1 (List.map encN r3.1), .own A15_0 c15_0 3 1 (List.map encN r2.1), .blk b1 24 [.int .i64 a0.nodes, .int .i64 a0.from_, .int .i64 a0.to_, .slice A_a0_drains a0.drains.length c_a0_drains]] := H.append E3
      replace R0 := H.ext
      refine LW.pure rfl rfl (RV.move rfl) ?_
      refine LW.pure rfl rfl (RV.extract rfl rfl) ?_
      refine LW.pure rfl rfl (RV.extract rfl rfl) ?_
      refine LW.pure rfl rfl (RV.assign rfl) ?_
      refine LW.pure rfl rfl (RV.assign rfl) ?_
      refine LW.nil (hK5 _ _ ?_)
      refine CW.seq fun K6 hK6 => ?_
      obtain ⟨r4, hr4, F⟩ := bnd_some F
      by_cases hp2 : r4 = true
      ·
        replace F := ite_y hp2 F
        have hq2 : r4 = true := hp2
        by_cases hp3 : r2.2 = r3.2
        ·
          replace F := ite_y hp3 F
          have hq3 := dec_t hp3
          obtain ⟨r5, hr5, F⟩ := bnd_some F
          refine CW.region ?_
          refine LW.pure rfl rfl (RV.move rfl) ?_
          refine LW.pure rfl rfl (RV.move rfl) ?_
          refine LW.go rfl rfl (OW.call Tc34 rfl (ref01_SameInts_ok (a0 := r2.1) (a1 := r3.1) (H.own 1 rfl).sl (H.own 0 rfl).sl hr4) ?_)
          rintro _ w5 ⟨rfl, E4⟩
          refine ⟨_, rfl, ?_⟩
          replace H := H.grow E4
          replace R0 := H.ext
          refine LW.pure rfl rfl (RV.move rfl) ?_
          refine LW.pureYB rfl rfl rfl rfl hq2 (RV.move rfl) ?_
          refine LW.pureYB rfl rfl rfl rfl hq2 (RV.move rfl) ?_
          refine LW.pureYB rfl rfl rfl rfl hq2 (RV.eqi rfl rfl) ?_
          refine LW.pure rfl rfl (RV.pickTB rfl hq2 rfl) ?_
          refine LW.pure rfl rfl (RV.move rfl) ?_
          refine LW.yesB rfl rfl rfl rfl hq3 (OW.call Tc17 rfl (law02_known_ok hr5) ?_)
          rintro _ w6 ⟨rfl, E5⟩
          refine ⟨_, rfl, ?_⟩
          replace H := H.grow E5
          replace R0 := H.ext
          refine LW.pure rfl rfl (RV.pickTB rfl hq3 rfl) ?_
          refine LW.pure rfl rfl (RV.assign rfl) ?_
          refine LW.nil (hK6 _ _ ?_)
          refine CW.ret ?_
          obtain rfl := Option.some.inj F
          refine ⟨_, (ResOK.one rfl), ?_⟩
          refine ⟨(by first | rfl | simp), R0⟩
        ·
          replace F := ite_n hp3 F
          have hq3 := dec_f hp3
          refine CW.region ?_
          refine LW.pure rfl rfl (RV.move rfl) ?_
          refine LW.pure rfl rfl (RV.move rfl) ?_
          refine LW.go rfl rfl (OW.call Tc34 rfl (ref01_SameInts_ok (a0 := r2.1) (a1 := r3.1) (H.own 1 rfl).sl (H.own 0 rfl).sl hr4) ?_)
          rintro _ w7 ⟨rfl, E6⟩
          refine ⟨_, rfl, ?_⟩
          replace H := H.grow E6
          replace R0 := H.ext
          refine LW.pure rfl rfl (RV.move rfl) ?_
          refine LW.pureYB rfl rfl rfl rfl hq2 (RV.move rfl) ?_
          refine LW.pureYB rfl rfl rfl rfl hq2 (RV.move rfl) ?_
          refine LW.pureYB rfl rfl rfl rfl hq2 (RV.eqi rfl rfl) ?_
          refine LW.pure rfl rfl (RV.pickTB rfl hq2 rfl) ?_
          refine LW.pure rfl rfl (RV.move rfl) ?_
          refine LW.noB rfl rfl rfl rfl (ne_beq (v := false) hq3 rfl) ?_
          refine LW.pure rfl rfl (RV.pickFB rfl hq3 rfl) ?_
          refine LW.pure rfl rfl (RV.assign rfl) ?_
          refine LW.nil (hK6 _ _ ?_)
          refine CW.ret ?_
          obtain rfl := Option.some.inj F
          refine ⟨_, (ResOK.one rfl), ?_⟩
          refine ⟨(by first | rfl | simp), R0⟩
      ·
        replace F := ite_n hp2 F
        have hq2 : r4 = false := raw_f hp2
        refine CW.region ?_
        refine LW.pure rfl rfl (RV.move rfl) ?_
        refine LW.pure rfl rfl (RV.move rfl) ?_
        refine LW.go rfl rfl (OW.call Tc34 rfl (ref01_SameInts_ok (a0 := r2.1) (a1 := r3.1) (H.own 1 rfl).sl (H.own 0 rfl).sl hr4) ?_)
        rintro _ w8 ⟨rfl, E7⟩
        refine ⟨_, rfl, ?_⟩
        replace H := H.grow E7
        replace R0 := H.ext
        refine LW.pure rfl rfl (RV.move rfl) ?_
        refine LW.noB rfl rfl rfl rfl (ne_beq (v := false) hq2 rfl) ?_
        refine LW.noB rfl rfl rfl rfl (ne_beq (v := false) hq2 rfl) ?_
        refine LW.noB rfl rfl rfl rfl (ne_beq (v := false) hq2 rfl) ?_
        refine LW.pure rfl rfl (RV.pickFB rfl hq2 rfl) ?_
        refine LW.pure rfl rfl (RV.move rfl) ?_
        refine LW.noB rfl rfl rfl rfl (ne_beq (v := false) rfl rfl) ?_
        refine LW.pure rfl rfl (RV.pickFB rfl rfl rfl) ?_
        refine LW.pure rfl rfl (RV.assign rfl) ?_
        refine LW.nil (hK6 _ _ ?_)
        refine CW.ret ?_
        obtain rfl := Option.some.inj F
        refine ⟨_, (ResOK.one rfl), ?_⟩
        refine ⟨(by first | rfl | simp), R0⟩
  ·
    intro K7 hK7 jK14
    obtain ⟨r6, hr6, F⟩ := bnd_some F
    by_cases hp4 : r6 = true
    ·
      replace F := ite_y hp4 F
      have hq4 : r6 = true := hp4
      refine CW.region ?_
      refine LW.pure rfl rfl (RV.loadA [.int .i64 a0.nodes, .int .i64 a0.from_, .int .i64 a0.to_, .slice A_a0_drains a0.drains.length c_a0_drains] Tk24 rfl (H.blk 0 rfl).cells rfl rfl) ?_
      refine LW.go rfl rfl (OW.call Tc16 rfl (law02_Long_ok (a0 := a0) (h_a0_drains.ext R0) hr6) ?_)
      rintro _ w9 ⟨rfl, E8⟩
      refine ⟨_, rfl, ?_⟩
      replace H := H.grow E8
      replace R0 := H.ext
      refine LW.pure rfl rfl (RV.move rfl) ?_
      refine LW.noB rfl rfl rfl rfl (ne_beq (v := true) hq4 rfl) ?_
      refine LW.noB rfl rfl rfl rfl (ne_beq (v := true) hq4 rfl) ?_
      refine LW.pure rfl rfl (RV.pickTB rfl hq4 rfl) ?_
      refine LW.nil (jK14 _ _ ⟨_, ?_, ⟨true, F, rfl, H⟩⟩)
      exact ⟨rfl, rfl, rfl, rfl, trivial⟩
    ·
      replace F := ite_n hp4 F
      have hq4 : r6 = false := raw_f hp4
      obtain ⟨r7, hr7, F⟩ := bnd_some F
      refine CW.region ?_
      refine LW.pure rfl rfl (RV.loadA [.int .i64 a0.nodes, .int .i64 a0.from_, .int .i64 a0.to_, .slice A_a0_drains a0.drains.length c_a0_drains] Tk24 rfl (H.blk 0 rfl).cells rfl rfl) ?_
      refine LW.go rfl rfl (OW.call Tc16 rfl (law02_Long_ok (a0 := a0) (h_a0_drains.ext R0) hr6) ?_)
      rintro _ w10 ⟨rfl, E9⟩
      refine ⟨_, rfl, ?_⟩
      replace H := H.grow E9
      replace R0 := H.ext
      refine LW.pure rfl rfl (RV.move rfl) ?_
      refine LW.pureYB rfl rfl rfl rfl hq4 (RV.move rfl) ?_
      refine LW.yesB rfl rfl rfl rfl hq4 (OW.call Tc37 rfl (law02_many_ok (a0 := a1) (h_a1.ext R0) hr7) ?_)
      rintro _ w11 ⟨rfl, E10⟩
      refine ⟨_, rfl, ?_⟩
      replace H := H.grow E10
      replace R0 := H.ext
      refine LW.pure rfl rfl (RV.pickFB rfl hq4 rfl) ?_
      refine LW.nil (jK14 _ _ ⟨_, ?_, ⟨r7, F, rfl, H⟩⟩)
      exact ⟨rfl, rfl, rfl, rfl, trivial⟩
end Go.D2

namespace Go.Tb
/-- A loop over 0 .. N - 1 with a state, that is left at the first i for which p does not hold. -/
theorem scan_loop {S R : Type} (N : Nat) (p : Nat → Bool) (g : Nat → S) (L : Nat → S → Int → Option R) (yes : Option R) (no : Nat → Option R)
    (step : ∀ n i : Nat, i < N → L (n + 1) (g i) (i : Int) = if p i = true then L n (g (i + 1)) ((i + 1 : Nat) : Int) else no i)
    (stop : ∀ n : Nat, L (n + 1) (g N) (N : Int) = yes) : ∀ (d n i : Nat), N = i + d → d < n → L n (g i) (i : Int) = match (List.range' i d).find? (fun j => !p j) with | none => yes | some j => no j
  | 0, n + 1, i, hd, hn => by
    have hi : i = N := by omega
    subst hi
    rw [stop n]; rfl
  | d + 1, n + 1, i, hd, hn => by
    rw [step n i (by omega), List.range'_succ, List.find?_cons]
    cases hp : p i
    · simp
    · simp only [if_true, Bool.not_true]
      exact scan_loop N p g L yes no step stop d n (i + 1) (by omega) (by omega)
theorem find_all {p : Nat → Bool} {i d : Nat} : (List.range' i d).find? (fun j => !p j) = none ↔ ∀ j, i ≤ j → j < i + d → p j = true := by
  rw [List.find?_eq_none]
  constructor
  · intro h j h1 h2
    have := h j (by rw [List.mem_range'_1]; omega)
    simpa using this
  · intro h x hx
    rw [List.mem_range'_1] at hx
    simp [h x hx.1 hx.2]
/-- A loop over 0 .. N - 1 with a state and no way out. -/
theorem for_loop {S R : Type} (N : Nat) (g : Nat → S) (L : Nat → S → Int → Option R) (yes : Option R)
    (step : ∀ n i : Nat, i < N → L (n + 1) (g i) (i : Int) = L n (g (i + 1)) ((i + 1 : Nat) : Int))
    (stop : ∀ n : Nat, L (n + 1) (g N) (N : Int) = yes) : ∀ (d n i : Nat), N = i + d → d < n → L n (g i) (i : Int) = yes
  | 0, n + 1, i, hd, hn => by
    have hi : i = N := by omega
    subst hi
    exact stop n
  | d + 1, n + 1, i, hd, hn => by
    rw [step n i (by omega)]
    exact for_loop N g L yes step stop d n (i + 1) (by omega) (by omega)
theorem for_loop0 {S R : Type} (N : Nat) (g : Nat → S) (L : Nat → S → Int → Option R) (yes : Option R)
    (step : ∀ n i : Nat, i < N → L (n + 1) (g i) (i : Int) = L n (g (i + 1)) ((i + 1 : Nat) : Int))
    (stop : ∀ n : Nat, L (n + 1) (g N) (N : Int) = yes) (hN : N ≤ 9223372036854775807) : L FU (g 0) 0 = yes :=
  for_loop N g L yes step stop N FU 0 (by omega) (by have := FU_pos; omega)
theorem scan_loop0 {S R : Type} (N : Nat) (p : Nat → Bool) (g : Nat → S) (L : Nat → S → Int → Option R) (yes no : Option R)
    (step : ∀ n i : Nat, i < N → L (n + 1) (g i) (i : Int) = if p i = true then L n (g (i + 1)) ((i + 1 : Nat) : Int) else no)
    (stop : ∀ n : Nat, L (n + 1) (g N) (N : Int) = yes) (hN : N ≤ 9223372036854775807) : L FU (g 0) 0 = if (∀ j, j < N → p j = true) then yes else no := by
  have h := scan_loop N p g L yes (fun _ => no) step stop N FU 0 (by omega) (by have := FU_pos; omega)
  refine Eq.trans h ?_
  cases hf : (List.range' 0 N).find? (fun j => !p j) with
  | none => rw [if_pos (fun j hj => find_all.1 hf j (by omega) (by omega))]
  | some j =>
    have h1 := List.find?_some hf
    have h2 := List.mem_of_find?_eq_some hf
    rw [List.mem_range'_1] at h2
    rw [if_neg]
    intro hall
    have := hall j (by omega)
    simp [this] at h1
/-- The same over the elements of a list. -/
theorem list_loop0 {α R : Type} (l : List α) (p : α → Bool) (L : Nat → Int → Option R) (yes no : Option R)
    (step : ∀ (n i : Nat) (x : α), l[i]? = some x → L (n + 1) (i : Int) = if p x = true then L n ((i + 1 : Nat) : Int) else no)
    (stop : ∀ n : Nat, L (n + 1) (l.length : Int) = yes) (hl : l.length ≤ 9223372036854775807) : L FU 0 = if l.all p = true then yes else no := by
  have h := scan_loop0 l.length (fun i => (l[i]?.map p).getD true) (fun _ => ()) (fun n _ i => L n i) yes no (fun n i hi => by
    have hx : l[i]? = some l[i] := by simp [hi]
    rw [step n i _ hx]; simp [hx]) stop hl
  refine Eq.trans h ?_
  by_cases ha : l.all p = true
  · rw [if_pos ha, if_pos]
    intro j hj
    have := List.all_eq_true.1 ha l[j] (List.getElem_mem hj)
    simp [hj, this]
  · rw [if_neg ha, if_neg]
    intro hc
    refine ha (List.all_eq_true.2 fun x hx => ?_)
    obtain ⟨j, hj⟩ := List.getElem?_of_mem hx
    have := hc j (lt_of_at hj)
    simpa [hj] using this
end Go.Tb

set_option linter.unusedVariables false
set_option linter.unusedSimpArgs false
namespace Go.D2
open Go.Tb
theorem known_eq : law02_known = some true := by decide +kernel
theorem ix0 {α β : Type} {l : List α} {k : α → Option β} {x : α} (h : l[0]? = some x) : ix l 0 k = k x := ix_nat (i := 0) h
theorem for0 {S R : Type} (N : Nat) (g : Nat → S) (L : Nat → S → Int → Option R) (yes : Option R) {s0 : S} (h0 : g 0 = s0)
    (step : ∀ n i : Nat, i < N → L (n + 1) (g i) (i : Int) = L n (g (i + 1)) ((i + 1 : Nat) : Int))
    (stop : ∀ n : Nat, L (n + 1) (g N) (N : Int) = yes) (hN : N ≤ 9223372036854775807) : L FU s0 0 = yes := by
  rw [← h0]; exact for_loop0 N g L yes step stop hN
def within (n lo hi : Int) : Bool := decide (lo ≤ n) && decide (n ≤ hi)
theorem within_iff {n lo hi : Int} : within n lo hi = true ↔ lo ≤ n ∧ n ≤ hi := by unfold within; simp
theorem from_eq (n lo hi : Int) : drain_from n lo hi = some (within n lo hi) := by
  unfold drain_from within
  by_cases h : lo ≤ n <;> simp [h]
theorem within_eq (n lo hi : Int) : ref02_within n lo hi = some (within n lo hi) := by
  unfold ref02_within within
  by_cases h : lo ≤ n <;> simp [h]
def isNode (n : Net) (i : Int) : Bool := within i 0 (n.nodes - 1)
theorem isNode_eq {n : Net} (h : InR (n.nodes - 1)) (i : Int) : drain_isNode n i = some (isNode n i) := by
  unfold drain_isNode isNode
  rw [gd_pos h, bnd_eq (from_eq _ _ _)]
def okD (n : Net) (d : Drain) : Bool := isNode n d.from_ && isNode n d.to_ && !decide (d.from_ = d.to_) && within d.width 0 20
def okH (n : Net) : Bool := within n.nodes 2 8 && isNode n n.from_ && isNode n n.to_ && !decide (n.from_ = n.to_)
def validate (n : Net) : Int := if okH n = true then (if 16 < n.drains.length then 3 else if n.drains.all (okD n) = true then 0 else 1) else 1
theorem Validate_eq {n : Net} (hl : n.drains.length ≤ 1000) : drain_Validate n = some (validate n) := by
  unfold drain_Validate validate okH
  rw [bnd_eq (from_eq _ _ _)]
  cases h1 : within n.nodes 2 8
  · rw [if_neg (by simp)]; unfold drain_Validate_k3; rw [if_pos rfl, if_neg (by simp)]
  · have hn := within_iff.1 h1
    have hr : InR (n.nodes - 1) := by omega
    rw [if_pos rfl, bnd_eq (isNode_eq hr _)]
    cases h2 : isNode n n.from_
    · rw [if_neg (by simp)]; unfold drain_Validate_k3; rw [if_pos rfl, if_neg (by simp)]
    · rw [if_pos rfl, bnd_eq (isNode_eq hr _)]
      cases h3 : isNode n n.to_
      · rw [if_neg (by simp)]; unfold drain_Validate_k3; rw [if_pos rfl, if_neg (by simp)]
      · rw [if_pos rfl]
        unfold drain_Validate_k3
        by_cases h4 : n.from_ = n.to_
        · rw [if_pos (by simp [h4]), if_neg (show ¬ (true && true && true && !decide (n.from_ = n.to_)) = true by simp [h4])]
        · rw [if_neg (by simp [h4]), if_pos (show (true && true && true && !decide (n.from_ = n.to_)) = true by simp [h4])]
          by_cases h5 : 16 < n.drains.length
          · rw [if_pos (by omega), if_pos h5]
          · rw [if_neg (by omega), if_neg h5, list_loop0 n.drains (okD n) (drain_Validate_L1 n) (some 0) (some 1) (fun m i x hx => ?_) (fun m => ?_) (by omega)]
            · split <;> rfl
            · have := lt_of_at hx
              show drain_Validate_B1 n (drain_Validate_L1 n m) _ = _
              unfold drain_Validate_B1 okD
              rw [if_pos (by omega), ix_nat hx, bnd_eq (isNode_eq hr _)]
              unfold drain_Validate_k2
              cases isNode n x.from_
              · rw [if_neg (by simp), if_pos rfl, if_neg (by simp)]
              · rw [if_pos rfl, bnd_eq (isNode_eq hr _)]
                cases isNode n x.to_
                · rw [if_neg (by simp), if_pos rfl, if_neg (by simp)]
                · rw [if_pos rfl]
                  by_cases h6 : x.from_ = x.to_
                  · rw [if_pos h6, if_pos rfl, if_neg (by simp [h6])]
                  · rw [if_neg h6, bnd_eq (from_eq _ _ _)]
                    cases within x.width 0 20
                    · rw [if_pos (by rfl), if_neg (by simp)]
                    · rw [if_neg (by simp), gd_pos (by omega), if_pos (by simp [h6])]; rfl
            · show drain_Validate_B1 n (drain_Validate_L1 n m) _ = _
              unfold drain_Validate_B1
              rw [if_neg (by omega)]; rfl
theorem rValidate_eq {n : Net} (hl : n.drains.length ≤ 1000) : ref02_Validate n = some (validate n) := by
  unfold ref02_Validate validate okH isNode
  rw [bnd_eq (within_eq _ _ _)]
  cases h1 : within n.nodes 2 8
  · rw [if_neg (by simp)]; unfold ref02_Validate_k3; rw [if_pos rfl, if_neg (by simp)]
  · have hn := within_iff.1 h1
    have hr : InR (n.nodes - 1) := by omega
    rw [if_pos rfl, gd_pos hr, bnd_eq (within_eq _ _ _)]
    cases h2 : within n.from_ 0 (n.nodes - 1)
    · rw [if_neg (by simp)]; unfold ref02_Validate_k3; rw [if_pos rfl, if_neg (by simp)]
    · rw [if_pos rfl, gd_pos hr, bnd_eq (within_eq _ _ _)]
      cases h3 : within n.to_ 0 (n.nodes - 1)
      · rw [if_neg (by simp)]; unfold ref02_Validate_k3; rw [if_pos rfl, if_neg (by simp)]
      · rw [if_pos rfl]
        unfold ref02_Validate_k3
        by_cases h4 : n.from_ = n.to_
        · rw [if_pos (by simp [h4]), if_neg (show ¬ (true && true && true && !decide (n.from_ = n.to_)) = true by simp [h4])]
        · rw [if_neg (by simp [h4]), if_pos (show (true && true && true && !decide (n.from_ = n.to_)) = true by simp [h4])]
          by_cases h5 : 16 < n.drains.length
          · rw [if_pos (by omega), if_pos h5]
          · rw [if_neg (by omega), if_neg h5, list_loop0 n.drains (okD n) (ref02_Validate_L1 n) (some 0) (some 1) (fun m i x hx => ?_) (fun m => ?_) (by omega)]
            · split <;> rfl
            · have := lt_of_at hx
              show ref02_Validate_B1 n (ref02_Validate_L1 n m) _ = _
              unfold ref02_Validate_B1 okD isNode
              rw [if_pos (by omega), ix_nat hx, gd_pos hr, bnd_eq (within_eq _ _ _)]
              unfold ref02_Validate_k2
              cases within x.from_ 0 (n.nodes - 1)
              · rw [if_neg (by simp), if_pos rfl, if_neg (by simp)]
              · rw [if_pos rfl, gd_pos hr, bnd_eq (within_eq _ _ _)]
                cases within x.to_ 0 (n.nodes - 1)
                · rw [if_neg (by simp), if_pos rfl, if_neg (by simp)]
                · rw [if_pos rfl]
                  by_cases h6 : x.from_ = x.to_
                  · rw [if_pos h6, if_pos rfl, if_neg (by simp [h6])]
                  · rw [if_neg h6, bnd_eq (within_eq _ _ _)]
                    cases within x.width 0 20
                    · rw [if_pos (by rfl), if_neg (by simp)]
                    · rw [if_neg (by simp), gd_pos (by omega), if_pos (by simp [h6])]; rfl
            · show ref02_Validate_B1 n (ref02_Validate_L1 n m) _ = _
              unfold ref02_Validate_B1
              rw [if_neg (by omega)]; rfl
end Go.D2

set_option linter.unusedVariables false
set_option linter.unusedSimpArgs false
namespace Go.D2
open Go.Tb
def start (n : Net) : List Left := n.drains.map fun d => ⟨d, 0⟩
end Go.D2

set_option linter.unusedVariables false
set_option linter.unusedSimpArgs false
namespace Go.D2
open Go.Tb
def gi (l : List Int) (i : Nat) : Int := l.getD i 0
theorem gi_at {l : List Int} {i : Nat} (h : i < l.length) : l[i]? = some (gi l i) := by simp [gi, List.getD, h]
theorem gi_of {l : List Int} {i : Nat} {x : Int} (h : l[i]? = some x) : gi l i = x := by simp [gi, List.getD, h]
def gd_ (l : List Drain) (i : Nat) : Drain := l.getD i ⟨0, 0, 0⟩
theorem gd_at {l : List Drain} {i : Nat} (h : i < l.length) : l[i]? = some (gd_ l i) := by simp [gd_, List.getD, h]
theorem Long_eq (n : Net) : law02_Long n = some (decide ((100 : Int) < (n.drains.length : Int))) := rfl
end Go.D2

set_option linter.unusedVariables false
set_option linter.unusedSimpArgs false
namespace Go.D2
open Go.Tb
theorem index_eq {l : List Int} (x : Int) (hl : l.length ≤ 1000) : ∀ (suf pre : List Int) (k : Nat), l = pre ++ suf → suf.length < k → ∃ i : Int, slices_Index_int_L1 l x k (pre.length : Int) = some i ∧ (0 ≤ i ↔ x ∈ suf)
  | [], pre, k + 1, h, hk => by
    refine ⟨-1, ?_, by simp⟩
    show slices_Index_int_B1 l x (slices_Index_int_L1 l x k) _ = _
    unfold slices_Index_int_B1
    rw [if_neg (by rw [h]; simp)]; rfl
  | y :: r, pre, k + 1, h, hk => by
    have hy : l[pre.length]? = some y := by rw [h, List.getElem?_append_right (Nat.le_refl _)]; simp
    have := lt_of_at hy
    obtain ⟨i, h1, h2⟩ := index_eq x hl r (pre ++ [y]) k (by rw [h]; simp) (by simp at hk; omega)
    have e : slices_Index_int_L1 l x (k + 1) (pre.length : Int) = slices_Index_int_B1 l x (slices_Index_int_L1 l x k) (pre.length : Int) := rfl
    rw [e]
    unfold slices_Index_int_B1
    rw [if_pos (by omega), ix_nat hy]
    by_cases hxy : x = y
    · rw [if_pos hxy]
      exact ⟨_, rfl, by simp [hxy]⟩
    · rw [if_neg hxy, gd_pos (by omega)]
      rw [show (((pre ++ [y]).length : Nat) : Int) = (pre.length : Int) + 1 by simp] at h1
      exact ⟨i, h1, by rw [h2]; simp [hxy]⟩
def mem (l : List Int) (x : Int) : Bool := decide (x ∈ l)
theorem contains_eq {l : List Int} (x : Int) (hl : l.length ≤ 1000) : slices_Contains_int l x = some (mem l x) := by
  obtain ⟨i, h1, h2⟩ := index_eq x hl l [] FU rfl (by have := FU_pos; omega)
  unfold slices_Contains_int slices_Index_int
  have h1' : slices_Index_int_L1 l x FU 0 = some i := h1
  rw [bnd_eq h1']
  congr 1
  unfold mem
  exact decide_eq_decide.2 h2
end Go.D2

set_option linter.unusedVariables false
set_option linter.unusedSimpArgs false
namespace Go.D2
open Go.Tb
theorem mem_gi {l : List Int} {x : Int} : mem l x = true ↔ ∃ j, j < l.length ∧ gi l j = x := by
  unfold mem
  rw [decide_eq_true_eq, List.mem_iff_getElem?]
  constructor
  · rintro ⟨j, h⟩; exact ⟨j, lt_of_at h, gi_of h⟩
  · rintro ⟨j, h, e⟩; exact ⟨j, by rw [gi_at h, e]⟩
theorem SameInts_self {l : List Int} (hl : l.length ≤ 1000000) : ref01_SameInts l l = some true := by
  unfold ref01_SameInts
  rw [if_pos rfl, list_loop0 l (fun _ => true) (ref01_SameInts_L1 l l) (some true) (some false) (fun k i x hx => ?_) (fun k => ?_) (by omega)]
  · rw [if_pos (by simp)]
  · have := lt_of_at hx
    show ref01_SameInts_B1 l l (ref01_SameInts_L1 l l k) _ = _
    unfold ref01_SameInts_B1
    rw [if_pos (by omega), ix_nat hx, ix_nat hx, if_pos rfl, gd_pos (by omega), if_pos rfl]; rfl
  · show ref01_SameInts_B1 l l (ref01_SameInts_L1 l l k) _ = _
    unfold ref01_SameInts_B1
    rw [if_neg (by omega)]; rfl
end Go.D2

set_option linter.unusedVariables false
set_option linter.unusedSimpArgs false
namespace Go.D2
open Go.Tb
theorem scan_inv {S R : Type} (N : Nat) (p : Nat → Bool) (g : Nat → S) (L : Nat → S → Int → Option R) (yes no : Option R)
    (step : ∀ n i : Nat, i < N → (∀ j, j < i → p j = true) → L (n + 1) (g i) (i : Int) = if p i = true then L n (g (i + 1)) ((i + 1 : Nat) : Int) else no)
    (stop : ∀ n : Nat, (∀ j, j < N → p j = true) → L (n + 1) (g N) (N : Int) = yes) : ∀ (d n i : Nat), N = i + d → d < n → (∀ j, j < i → p j = true) → L n (g i) (i : Int) = if (∀ j, j < N → p j = true) then yes else no
  | 0, n + 1, i, hd, hn, hi => by
    have e : i = N := by omega
    subst e
    rw [stop n hi, if_pos hi]
  | d + 1, n + 1, i, hd, hn, hi => by
    rw [step n i (by omega) hi]
    by_cases hp : p i = true
    · rw [if_pos hp]
      exact scan_inv N p g L yes no step stop d n (i + 1) (by omega) (by omega) (fun j hj => by
        by_cases h : j = i
        · subst h; exact hp
        · exact hi j (by omega))
    · rw [if_neg hp, if_neg (fun h => hp (h i (by omega)))]
theorem scan_inv0 {S R : Type} (N : Nat) (p : Nat → Bool) (g : Nat → S) (L : Nat → S → Int → Option R) (yes no : Option R) {s0 : S} (h0 : g 0 = s0)
    (step : ∀ n i : Nat, i < N → (∀ j, j < i → p j = true) → L (n + 1) (g i) (i : Int) = if p i = true then L n (g (i + 1)) ((i + 1 : Nat) : Int) else no)
    (stop : ∀ n : Nat, (∀ j, j < N → p j = true) → L (n + 1) (g N) (N : Int) = yes) (hN : N ≤ 9223372036854775807) : L FU s0 0 = if (∀ j, j < N → p j = true) then yes else no := by
  rw [← h0]
  exact scan_inv N p g L yes no step stop N FU 0 (by omega) (by have := FU_pos; omega) (fun j hj => by omega)
def kOf (t : Trail) (i : Nat) : Int := gi t.drains i
def dOf (n : Net) (t : Trail) (i : Nat) : Drain := gd_ n.drains (kOf t i).toNat
def okAt (n : Net) (t : Trail) (i : Nat) : Bool :=
  within (kOf t i) 0 ((n.drains.length : Int) - 1) && !mem (t.drains.take i) (kOf t i) && (decide (i = 0) || decide ((dOf n t (i - 1)).to_ = (dOf n t i).from_))
def pathB (n : Net) (t : Trail) : Bool := decide (0 < t.drains.length) && within t.amount 1 20 && decide (∀ i, i < t.drains.length → okAt n t i = true)
def isTrailR (n : Net) (t : Trail) : Bool :=
  pathB n t && (decide ((dOf n t 0).from_ = (dOf n t (t.drains.length - 1)).to_) || (decide ((dOf n t 0).from_ = n.from_) && decide ((dOf n t (t.drains.length - 1)).to_ = n.to_)))
theorem ok_range {n : Net} {t : Trail} {i : Nat} (h : okAt n t i = true) : 0 ≤ kOf t i ∧ kOf t i < (n.drains.length : Int) := by
  unfold okAt at h
  simp only [Bool.and_eq_true, within_iff] at h
  omega
theorem dOf_at {n : Net} {t : Trail} {i : Nat} (h : okAt n t i = true) : n.drains[(kOf t i).toNat]? = some (dOf n t i) := gd_at (by have := ok_range h; omega)
theorem trail_end {n : Net} {t : Trail} (hl : t.drains.length ≤ 1000) (h0 : 0 < t.drains.length) (h : ∀ i, i < t.drains.length → okAt n t i = true) : drain_isTrail_k1 n t = some (decide ((dOf n t 0).from_ = (dOf n t (t.drains.length - 1)).to_) || (decide ((dOf n t 0).from_ = n.from_) && decide ((dOf n t (t.drains.length - 1)).to_ = n.to_))) := by
  have o1 := h 0 h0
  have o2 := h (t.drains.length - 1) (by omega)
  unfold drain_isTrail_k1
  rw [ix0 (gi_at h0)]
  rw [ix_eq (show 0 ≤ gi t.drains 0 from (ok_range o1).1) (dOf_at o1), gd_pos (by omega), show (t.drains.length : Int) - 1 = ((t.drains.length - 1 : Nat) : Int) by omega, ix_nat (gi_at (by omega)), ix_eq (show 0 ≤ gi t.drains (t.drains.length - 1) from (ok_range o2).1) (dOf_at o2)]
  by_cases h1 : (dOf n t 0).from_ = (dOf n t (t.drains.length - 1)).to_
  · rw [if_pos h1, decide_eq_true h1]; rfl
  · rw [if_neg h1, decide_eq_false h1]
    by_cases h2 : (dOf n t 0).from_ = n.from_
    · rw [if_pos h2, decide_eq_true h2]; rfl
    · rw [if_neg h2, decide_eq_false h2]; rfl
theorem isTrail_eq {n : Net} (hd : n.drains.length ≤ 1000) {t : Trail} (hl : t.drains.length ≤ 1000) : drain_isTrail n t = some (isTrailR n t) := by
  unfold drain_isTrail drain_isTrail_k3 isTrailR pathB
  by_cases h0 : 0 < t.drains.length
  · rw [if_neg (by omega), bnd_eq (from_eq _ _ _), decide_eq_true h0]
    cases h1 : within t.amount 1 20
    · rw [if_pos (by rfl)]; rfl
    · rw [if_neg (by simp)]
      have h := scan_inv0 t.drains.length (okAt n t) (fun _ => ()) (fun k _ i => drain_isTrail_L1 n t k i) (drain_isTrail_k1 n t) (some false) (s0 := ()) rfl (fun k i hi hp => ?_) (fun k hp => ?_) (by omega)
      · refine Eq.trans h ?_
        by_cases hc : ∀ i, i < t.drains.length → okAt n t i = true
        · rw [if_pos hc, decide_eq_true hc, trail_end hl h0 hc]; rfl
        · rw [if_neg hc, decide_eq_false hc]; rfl
      · show drain_isTrail_B1 n t (drain_isTrail_L1 n t k) _ = _
        unfold drain_isTrail_B1 drain_isTrail_k2
        rw [if_pos (by omega), ix_nat (gi_at hi), gd_pos (by omega), bnd_eq (from_eq _ _ _)]
        have e : okAt n t i = (within (kOf t i) 0 ((n.drains.length : Int) - 1) && !mem (t.drains.take i) (kOf t i) && (decide (i = 0) || decide ((dOf n t (i - 1)).to_ = (dOf n t i).from_))) := rfl
        rw [e]
        show (if within (kOf t i) 0 ((n.drains.length : Int) - 1) = true then _ else _) = _
        cases hw : within (kOf t i) 0 ((n.drains.length : Int) - 1)
        · rw [if_neg (by simp), if_pos rfl, if_neg (by simp)]
        · have hr := within_iff.1 hw
          rw [if_pos rfl, gd_pos (by omega)]
          rw [show Int.toNat (i : Int) = i from rfl, bnd_eq (contains_eq _ (by rw [List.length_take]; omega))]
          show (if mem (t.drains.take i) (kOf t i) = true then _ else _) = _
          cases hm : mem (t.drains.take i) (kOf t i)
          · rw [if_neg (by simp)]
            by_cases hi0 : i = 0
            · rw [if_neg (by omega), if_neg (by simp), gd_pos (by omega), if_pos (by simp [hi0])]; rfl
            · have ho := hp (i - 1) (by omega)
              have hx : n.drains[(kOf t i).toNat]? = some (dOf n t i) := gd_at (by omega)
              rw [if_pos (by omega), gd_pos (by omega), show (i : Int) - 1 = ((i - 1 : Nat) : Int) by omega, ix_nat (gi_at (by omega)), ix_eq (show 0 ≤ gi t.drains (i - 1) from (ok_range ho).1) (dOf_at ho), ix_eq (show 0 ≤ gi t.drains i from hr.1) hx]
              by_cases h4 : (dOf n t (i - 1)).to_ = (dOf n t i).from_
              · rw [decide_eq_true h4, if_neg (by simp), gd_pos (by omega), if_pos (by simp)]; rfl
              · rw [decide_eq_false h4, if_pos (by rfl), if_neg (by simp [hi0])]
          · rw [if_pos rfl, if_pos rfl, if_neg (by simp)]
      · show drain_isTrail_B1 n t (drain_isTrail_L1 n t k) _ = _
        unfold drain_isTrail_B1
        rw [if_neg (by omega)]
  · rw [if_pos (by omega), if_pos rfl, decide_eq_false h0]; rfl
theorem dup_loop {n : Net} {t : Trail} (hl : t.drains.length ≤ 1000) {i : Nat} (hi : i < t.drains.length) (rec1 : Int → Option (Int × Int × Bool)) : ref02_Path_L1 n t i rec1 FU 0 = if mem (t.drains.take i) (kOf t i) = true then some (0, 0, false) else ref02_Path_k4 n t i rec1 := by
  have h := scan_loop0 i (fun j => !decide (gi t.drains j = gi t.drains i)) (fun _ => ()) (fun k _ j => ref02_Path_L1 n t i rec1 k j) (ref02_Path_k4 n t i rec1) (some (0, 0, false)) (fun k j hj => ?_) (fun k => ?_) (by omega)
  · refine Eq.trans h ?_
    by_cases hm : mem (t.drains.take i) (kOf t i) = true
    · rw [if_pos hm, if_neg]
      intro hc
      obtain ⟨j, h1, h2⟩ := mem_gi.1 hm
      rw [List.length_take] at h1
      have := hc j (by omega)
      have e : gi (t.drains.take i) j = gi t.drains j := by
        unfold gi
        simp only [List.getD_eq_getElem?_getD, List.getElem?_take]
        rw [if_pos (by omega)]
      rw [e] at h2
      unfold kOf at h2
      simp [h2] at this
    · rw [if_neg hm, if_pos]
      intro j hj
      simp only [Bool.not_eq_true', decide_eq_false_iff_not]
      intro hc
      apply hm
      refine mem_gi.2 ⟨j, by rw [List.length_take]; omega, ?_⟩
      have e : gi (t.drains.take i) j = gi t.drains j := by
        unfold gi
        simp only [List.getD_eq_getElem?_getD, List.getElem?_take]
        rw [if_pos (by omega)]
      rw [e]; exact hc
  · show ref02_Path_B1 n t i rec1 (ref02_Path_L1 n t i rec1 k) _ = _
    unfold ref02_Path_B1
    rw [if_pos (by omega), ix_nat (gi_at (by omega)), ix_nat (gi_at hi)]
    by_cases hc : gi t.drains j = gi t.drains i
    · rw [if_pos hc, if_neg (by simp [hc])]
    · rw [if_neg hc, gd_pos (by omega), if_pos (by simp [hc])]; rfl
  · show ref02_Path_B1 n t i rec1 (ref02_Path_L1 n t i rec1 k) _ = _
    unfold ref02_Path_B1
    rw [if_neg (by omega)]
theorem Path_eq {n : Net} (hd : n.drains.length ≤ 1000) {t : Trail} (hl : t.drains.length ≤ 1000) : ref02_Path n t = some (if pathB n t = true then ((dOf n t 0).from_, (dOf n t (t.drains.length - 1)).to_, true) else (0, 0, false)) := by
  unfold ref02_Path ref02_Path_k5 pathB
  by_cases h0 : 0 < t.drains.length
  · rw [if_neg (by omega), bnd_eq (within_eq _ _ _), decide_eq_true h0]
    cases h1 : within t.amount 1 20
    · rw [if_pos (by rfl)]; rfl
    · rw [if_neg (by simp)]
      have h := scan_inv0 t.drains.length (okAt n t) (fun _ => ()) (fun k _ i => ref02_Path_L2 n t k i) (ref02_Path_k1 n t) (some (0, 0, false)) (s0 := ()) rfl (fun k i hi hp => ?_) (fun k hp => ?_) (by omega)
      · refine Eq.trans h ?_
        by_cases hc : ∀ i, i < t.drains.length → okAt n t i = true
        · rw [if_pos hc, decide_eq_true hc, if_pos (by rfl)]
          have o1 := hc 0 h0
          have o2 := hc (t.drains.length - 1) (by omega)
          unfold ref02_Path_k1
          rw [ix0 (gi_at h0), ix_eq (show 0 ≤ gi t.drains 0 from (ok_range o1).1) (dOf_at o1), gd_pos (by omega), show (t.drains.length : Int) - 1 = ((t.drains.length - 1 : Nat) : Int) by omega, ix_nat (gi_at (by omega)), ix_eq (show 0 ≤ gi t.drains (t.drains.length - 1) from (ok_range o2).1) (dOf_at o2)]
        · rw [if_neg hc, decide_eq_false hc, if_neg (by simp)]
      · show ref02_Path_B2 n t (ref02_Path_L2 n t k) _ = _
        unfold ref02_Path_B2
        rw [if_pos (by omega), ix_nat (gi_at hi), gd_pos (by omega), bnd_eq (within_eq _ _ _)]
        have e : okAt n t i = (within (kOf t i) 0 ((n.drains.length : Int) - 1) && !mem (t.drains.take i) (kOf t i) && (decide (i = 0) || decide ((dOf n t (i - 1)).to_ = (dOf n t i).from_))) := rfl
        rw [e]
        show (if within (kOf t i) 0 ((n.drains.length : Int) - 1) = true then _ else _) = _
        cases hw : within (kOf t i) 0 ((n.drains.length : Int) - 1)
        · rw [if_neg (by simp), if_neg (by simp)]
        · have hr := within_iff.1 hw
          rw [if_pos rfl, dup_loop hl hi]
          cases hm : mem (t.drains.take i) (kOf t i)
          · rw [if_neg (by simp)]
            unfold ref02_Path_k4 ref02_Path_k3 ref02_Path_k2
            by_cases hi0 : i = 0
            · rw [if_neg (by omega), if_neg (by simp), gd_pos (by omega), if_pos (by simp [hi0])]; rfl
            · have ho := hp (i - 1) (by omega)
              have hx : n.drains[(kOf t i).toNat]? = some (dOf n t i) := gd_at (by omega)
              rw [if_pos (by omega), gd_pos (by omega), show (i : Int) - 1 = ((i - 1 : Nat) : Int) by omega, ix_nat (gi_at (by omega)), ix_eq (show 0 ≤ gi t.drains (i - 1) from (ok_range ho).1) (dOf_at ho), ix_nat (gi_at hi), ix_eq (show 0 ≤ gi t.drains i from hr.1) hx]
              by_cases h4 : (dOf n t (i - 1)).to_ = (dOf n t i).from_
              · rw [decide_eq_true h4, if_neg (by simp), gd_pos (by omega), if_pos (by simp)]; rfl
              · rw [decide_eq_false h4, if_pos (by rfl), if_neg (by simp [hi0])]
          · rw [if_pos rfl, if_neg (by simp)]
      · show ref02_Path_B2 n t (ref02_Path_L2 n t k) _ = _
        unfold ref02_Path_B2
        rw [if_neg (by omega)]
  · rw [if_pos (by omega), if_pos rfl, decide_eq_false h0]; rfl
theorem IsWay_eq {n : Net} (hd : n.drains.length ≤ 1000) {t : Trail} (hl : t.drains.length ≤ 1000) : ref02_IsWay n t = some (pathB n t && (decide ((dOf n t 0).from_ = n.from_) && decide ((dOf n t (t.drains.length - 1)).to_ = n.to_))) := by
  unfold ref02_IsWay
  rw [bnd_eq (Path_eq hd hl)]
  cases pathB n t
  · rfl
  · rw [if_pos rfl, if_pos rfl, Bool.true_and]
    by_cases h : (dOf n t 0).from_ = n.from_
    · rw [if_pos h, decide_eq_true h]; rfl
    · rw [if_neg h, decide_eq_false h]; rfl
theorem IsRound_eq {n : Net} (hd : n.drains.length ≤ 1000) {t : Trail} (hl : t.drains.length ≤ 1000) : ref02_IsRound n t = some (pathB n t && decide ((dOf n t 0).from_ = (dOf n t (t.drains.length - 1)).to_)) := by
  unfold ref02_IsRound
  rw [bnd_eq (Path_eq hd hl)]
  cases pathB n t
  · rfl
  · rw [if_pos rfl, if_pos rfl, Bool.true_and]
def addK (a : Int) (l : List Int) (k : Int) : List Int := l.set k.toNat (gi l k.toNat + a)
def addT (l : List Int) (t : Trail) : List Int := t.drains.foldl (addK t.amount) l
def SB (m : Nat) (B : Int) (l : List Int) : Prop := l.length = m ∧ ∀ x ∈ l, 0 ≤ x ∧ x ≤ B
theorem SB.gi {m : Nat} {B : Int} {l : List Int} (h : SB m B l) {i : Nat} (hi : i < m) : 0 ≤ gi l i ∧ gi l i ≤ B := h.2 _ (List.mem_of_getElem? (gi_at (by rw [h.1]; exact hi)))
theorem SB.add {m : Nat} {B a : Int} {l : List Int} {k : Int} (h : SB m B l) (ha : 0 ≤ a ∧ a ≤ 20) (hk : k.toNat < m) : SB m (B + 20) (addK a l k) := by
  refine ⟨by unfold addK; rw [List.length_set, h.1], fun x hx => ?_⟩
  unfold addK at hx
  rcases List.mem_or_eq_of_mem_set hx with h1 | rfl
  · have := h.2 x h1; omega
  · have := h.gi hk; omega
theorem SB.fold {m : Nat} {a : Int} (ha : 0 ≤ a ∧ a ≤ 20) : ∀ (ks : List Int) (B : Int) (l : List Int), SB m B l → (∀ k ∈ ks, k.toNat < m) → SB m (B + 20 * (ks.length : Int)) (ks.foldl (addK a) l)
  | [], B, l, h, _ => by simpa using h
  | k :: r, B, l, h, hk => by
    have := SB.fold ha r (B + 20) (addK a l k) (h.add ha (hk k (List.mem_cons_self ..))) (fun x hx => hk x (List.mem_cons_of_mem _ hx))
    rw [List.foldl_cons, List.length_cons, show B + 20 * ((r.length + 1 : Nat) : Int) = B + 20 + 20 * (r.length : Int) by omega]
    exact this
theorem SB.mono {m : Nat} {B B' : Int} {l : List Int} (h : SB m B l) (hb : B ≤ B') : SB m B' l := ⟨h.1, fun x hx => by have := h.2 x hx; omega⟩
theorem trail_ks {n : Net} {t : Trail} (h : pathB n t = true) : (0 ≤ t.amount ∧ t.amount ≤ 20) ∧ ∀ i, i < t.drains.length → 0 ≤ gi t.drains i ∧ gi t.drains i < (n.drains.length : Int) := by
  unfold pathB at h
  simp only [Bool.and_eq_true, within_iff] at h
  exact ⟨by omega, fun i hi => ok_range (of_decide_eq_true h.2 i hi)⟩
theorem SB.addT {n : Net} {t : Trail} (h : pathB n t = true) (hl : t.drains.length ≤ 100) {B : Int} {l : List Int} (hs : SB n.drains.length B l) : SB n.drains.length (B + 2000) (addT l t) := by
  obtain ⟨h1, h2⟩ := trail_ks h
  have := SB.fold h1 t.drains B l hs (fun k hk => by
    obtain ⟨i, hi⟩ := List.getElem?_of_mem hk
    have := h2 i (lt_of_at hi)
    rw [gi_of hi] at this; omega)
  exact this.mono (by omega)
theorem fold_take {a : Int} {ks : List Int} {l : List Int} {i : Nat} (hi : i < ks.length) : (ks.take (i + 1)).foldl (addK a) l = addK a ((ks.take i).foldl (addK a) l) (gi ks i) := by
  rw [List.take_add_one, gi_at hi, List.foldl_append]; rfl
theorem SB.take {n : Net} {t : Trail} (h : pathB n t = true) (hl : t.drains.length ≤ 100) {B : Int} {l : List Int} (hs : SB n.drains.length B l) (i : Nat) : SB n.drains.length (B + 2000) ((t.drains.take i).foldl (addK t.amount) l) := by
  obtain ⟨h1, h2⟩ := trail_ks h
  have := SB.fold h1 (t.drains.take i) B l hs (fun k hk => by
    obtain ⟨j, hj⟩ := List.getElem?_of_mem (List.mem_of_mem_take hk)
    have := h2 j (lt_of_at hj)
    rw [gi_of hj] at this; omega)
  rw [List.length_take] at this
  exact this.mono (by omega)
def gt_ (l : List Trail) (i : Nat) : Trail := l.getD i ⟨[], 0⟩
theorem gt_at {l : List Trail} {i : Nat} (h : i < l.length) : l[i]? = some (gt_ l i) := by simp [gt_, List.getD, h]
theorem sum_in {n : Net} {t : Trail} (h : pathB n t = true) (hl : t.drains.length ≤ 100) {B : Int} {l : List Int} (hs : SB n.drains.length B l) (hB : B ≤ 1000000) (i : Int) (rec1 : Int → List Int → Option (List Int × Int)) :
    drain_Sum_L1 i rec1 t FU 0 l = drain_Sum_k2 i rec1 (addT l t) := by
  obtain ⟨h1, h2⟩ := trail_ks h
  refine Eq.trans (for0 t.drains.length (fun j => (t.drains.take j).foldl (addK t.amount) l) (fun k s j => drain_Sum_L1 i rec1 t k j s) (drain_Sum_k2 i rec1 (addT l t)) rfl (fun k j hj => ?_) (fun k => ?_) (by omega)) rfl
  · have hb := hs.take h hl j
    have hk := h2 j hj
    have hx : ((t.drains.take j).foldl (addK t.amount) l)[(gi t.drains j).toNat]? = some (gi ((t.drains.take j).foldl (addK t.amount) l) (gi t.drains j).toNat) := gi_at (by rw [hb.1]; omega)
    have hg := hb.gi (i := (gi t.drains j).toNat) (by omega)
    show drain_Sum_B1 i rec1 t (drain_Sum_L1 i rec1 t k) _ _ = _
    unfold drain_Sum_B1
    rw [if_pos (by omega), ix_nat (gi_at hj), ix_eq hk.1 hx, gd_pos (by omega), ix_eq hk.1 hx, gd_pos (by omega), fold_take hj]; rfl
  · show drain_Sum_B1 i rec1 t (drain_Sum_L1 i rec1 t k) _ _ = _
    unfold drain_Sum_B1
    rw [if_neg (by omega), List.take_length]; rfl
theorem rsum_in {n : Net} {ls : List Trail} {q : Nat} (hq : q < ls.length) (h : pathB n (gt_ ls q) = true) (hl : (gt_ ls q).drains.length ≤ 100) {B : Int} {l : List Int} (hs : SB n.drains.length B l) (hB : B ≤ 1000000) (rec1 : Int → List Int → Option (List Int × Int)) :
    ref02_Sum_L1 ls (q : Int) rec1 FU 0 l = ref02_Sum_k2 (q : Int) rec1 (addT l (gt_ ls q)) := by
  obtain ⟨h1, h2⟩ := trail_ks h
  refine Eq.trans (for0 (gt_ ls q).drains.length (fun j => ((gt_ ls q).drains.take j).foldl (addK (gt_ ls q).amount) l) (fun k s j => ref02_Sum_L1 ls (q : Int) rec1 k j s) (ref02_Sum_k2 (q : Int) rec1 (addT l (gt_ ls q))) rfl (fun k j hj => ?_) (fun k => ?_) (by omega)) rfl
  · have hb := hs.take h hl j
    have hk := h2 j hj
    have hx : (((gt_ ls q).drains.take j).foldl (addK (gt_ ls q).amount) l)[(gi (gt_ ls q).drains j).toNat]? = some (gi (((gt_ ls q).drains.take j).foldl (addK (gt_ ls q).amount) l) (gi (gt_ ls q).drains j).toNat) := gi_at (by rw [hb.1]; omega)
    have hg := hb.gi (i := (gi (gt_ ls q).drains j).toNat) (by omega)
    show ref02_Sum_B1 ls (q : Int) rec1 (ref02_Sum_L1 ls (q : Int) rec1 k) _ _ = _
    unfold ref02_Sum_B1
    rw [ix_nat (gt_at hq), if_pos (by omega), ix_nat (gt_at hq), ix_nat (gi_at hj), ix_eq hk.1 hx, ix_nat (gt_at hq), gd_pos (by omega), ix_eq hk.1 hx, gd_pos (by omega), fold_take hj]; rfl
  · show ref02_Sum_B1 ls (q : Int) rec1 (ref02_Sum_L1 ls (q : Int) rec1 k) _ _ = _
    unfold ref02_Sum_B1
    rw [ix_nat (gt_at hq), if_neg (by omega), List.take_length]; rfl
def zeros (n : Net) : List Int := List.replicate n.drains.length 0
def sumTo_ (n : Net) (ls : List Trail) (i : Nat) : List Int := (ls.take i).foldl addT (zeros n)
theorem sumTo_succ {n : Net} {ls : List Trail} {i : Nat} (hi : i < ls.length) : sumTo_ n ls (i + 1) = addT (sumTo_ n ls i) (gt_ ls i) := by
  unfold sumTo_
  rw [List.take_add_one, gt_at hi, List.foldl_append]; rfl
theorem sum_SB {n : Net} {ls : List Trail} (hl : ∀ t ∈ ls, t.drains.length ≤ 100) : ∀ i, i ≤ ls.length → (∀ j, j < i → isTrailR n (gt_ ls j) = true) → SB n.drains.length (2000 * (i : Int)) (sumTo_ n ls i)
  | 0, _, _ => ⟨by unfold sumTo_ zeros; simp, fun x hx => by
    unfold sumTo_ zeros at hx
    rw [List.take_zero, List.foldl_nil] at hx
    have := List.eq_of_mem_replicate hx
    omega⟩
  | i + 1, hi, h => by
    have ih := sum_SB hl i (by omega) (fun j hj => h j (by omega))
    rw [sumTo_succ (by omega)]
    have hp : pathB n (gt_ ls i) = true := by
      have := h i (by omega)
      unfold isTrailR at this
      rw [Bool.and_eq_true] at this
      exact this.1
    exact (ih.addT hp (hl _ (List.mem_of_getElem? (gt_at (by omega))))).mono (by omega)
def sumsR (n : Net) (ls : List Trail) : List Int × Int :=
  if validate n = 0 then (if 40 < ls.length then ([], 3) else if (∀ j, j < ls.length → isTrailR n (gt_ ls j) = true) then (sumTo_ n ls ls.length, 0) else ([], 1)) else ([], validate n)
theorem Sum_eq {n : Net} (hd : n.drains.length ≤ 1000) {ls : List Trail} (hl : ∀ t ∈ ls, t.drains.length ≤ 100) (hn : ls.length ≤ 100) : drain_Sum n ls = some (sumsR n ls) := by
  unfold drain_Sum sumsR
  rw [bnd_eq (Validate_eq hd)]
  by_cases hv : validate n = 0
  · rw [if_pos hv, if_pos hv]
    by_cases h4 : 40 < ls.length
    · rw [if_pos (by omega), if_pos h4]
    · rw [if_neg (by omega), if_neg h4, gd_pos (by omega)]
      refine Eq.trans (scan_inv0 ls.length (fun j => isTrailR n (gt_ ls j)) (sumTo_ n ls) (fun k s i => drain_Sum_L2 n ls k i s) (some (sumTo_ n ls ls.length, 0)) (some ([], 1)) rfl (fun k i hi hp => ?_) (fun k hp => ?_) (by omega)) (by split <;> rfl)
      · have hx := gt_at hi
        have hll := hl _ (List.mem_of_getElem? hx)
        show drain_Sum_B2 n ls (drain_Sum_L2 n ls k) _ _ = _
        unfold drain_Sum_B2
        rw [if_pos (by omega), ix_nat hx, bnd_eq (isTrail_eq hd (by omega))]
        by_cases ht : isTrailR n (gt_ ls i) = true
        · have hp' : pathB n (gt_ ls i) = true := by
            unfold isTrailR at ht
            rw [Bool.and_eq_true] at ht
            exact ht.1
          rw [if_pos ht, if_pos ht, sum_in hp' hll (sum_SB hl i (by omega) hp) (by omega)]
          unfold drain_Sum_k2
          rw [gd_pos (by omega), sumTo_succ hi]; rfl
        · rw [if_neg ht, if_neg ht]
      · show drain_Sum_B2 n ls (drain_Sum_L2 n ls k) _ _ = _
        unfold drain_Sum_B2
        rw [if_neg (by omega)]; rfl
  · rw [if_neg hv, if_neg hv]
theorem rSum_eq {n : Net} (hd : n.drains.length ≤ 1000) {ls : List Trail} (hl : ∀ t ∈ ls, t.drains.length ≤ 100) (hn : ls.length ≤ 100) : ref02_Sum n ls = some (sumsR n ls) := by
  unfold ref02_Sum sumsR
  rw [bnd_eq (rValidate_eq hd)]
  by_cases hv : validate n = 0
  · rw [if_pos hv, if_pos hv]
    by_cases h4 : 40 < ls.length
    · rw [if_pos (by omega), if_pos h4]
    · rw [if_neg (by omega), if_neg h4, gd_pos (by omega)]
      refine Eq.trans (scan_inv0 ls.length (fun j => isTrailR n (gt_ ls j)) (sumTo_ n ls) (fun k s i => ref02_Sum_L2 n ls k i s) (some (sumTo_ n ls ls.length, 0)) (some ([], 1)) rfl (fun k i hi hp => ?_) (fun k hp => ?_) (by omega)) (by split <;> rfl)
      · have hx := gt_at hi
        have hll := hl _ (List.mem_of_getElem? hx)
        show ref02_Sum_B2 n ls (ref02_Sum_L2 n ls k) _ _ = _
        unfold ref02_Sum_B2 ref02_Sum_k3
        rw [if_pos (by omega), ix_nat hx, bnd_eq (IsWay_eq hd (by omega))]
        have go : isTrailR n (gt_ ls i) = true → ref02_Sum_L1 ls (i : Int) (ref02_Sum_L2 n ls k) FU 0 (sumTo_ n ls i) = ref02_Sum_L2 n ls k ((i + 1 : Nat) : Int) (sumTo_ n ls (i + 1)) := fun ht => by
          have hp' : pathB n (gt_ ls i) = true := by
            unfold isTrailR at ht
            rw [Bool.and_eq_true] at ht
            exact ht.1
          rw [rsum_in hi hp' hll (sum_SB hl i (by omega) hp) (by omega)]
          unfold ref02_Sum_k2
          rw [gd_pos (by omega), sumTo_succ hi]; rfl
        have e : isTrailR n (gt_ ls i) = (pathB n (gt_ ls i) && (decide ((dOf n (gt_ ls i) 0).from_ = (dOf n (gt_ ls i) ((gt_ ls i).drains.length - 1)).to_) || (decide ((dOf n (gt_ ls i) 0).from_ = n.from_) && decide ((dOf n (gt_ ls i) ((gt_ ls i).drains.length - 1)).to_ = n.to_)))) := rfl
        by_cases hw : (pathB n (gt_ ls i) && (decide ((dOf n (gt_ ls i) 0).from_ = n.from_) && decide ((dOf n (gt_ ls i) ((gt_ ls i).drains.length - 1)).to_ = n.to_))) = true
        · have ht : isTrailR n (gt_ ls i) = true := by
            rw [e]
            rw [Bool.and_eq_true] at hw
            rw [hw.1, hw.2]; simp
          rw [if_pos hw, if_neg (by simp), if_pos ht]; exact go ht
        · rw [if_neg hw, ix_nat hx, bnd_eq (IsRound_eq hd (by omega))]
          have e2 : isTrailR n (gt_ ls i) = (pathB n (gt_ ls i) && decide ((dOf n (gt_ ls i) 0).from_ = (dOf n (gt_ ls i) ((gt_ ls i).drains.length - 1)).to_)) := by
            rw [e, Bool.and_or_distrib_left]
            rw [Bool.not_eq_true] at hw
            rw [hw, Bool.or_false]
          by_cases hr : (pathB n (gt_ ls i) && decide ((dOf n (gt_ ls i) 0).from_ = (dOf n (gt_ ls i) ((gt_ ls i).drains.length - 1)).to_)) = true
          · rw [if_neg (by rw [hr]; simp), if_pos (e2.trans hr)]; exact go (e2.trans hr)
          · rw [if_pos (by rw [Bool.not_eq_true] at hr; rw [hr]; rfl), if_neg (by rw [e2]; exact hr)]
      · show ref02_Sum_B2 n ls (ref02_Sum_L2 n ls k) _ _ = _
        unfold ref02_Sum_B2
        rw [if_neg (by omega)]; rfl
  · rw [if_neg hv, if_neg hv]
theorem many_eq {ls : List Trail} (hn : ls.length ≤ 9223372036854775807) : law02_many ls = some (decide (100 < ls.length) || !decide (∀ t ∈ ls, t.drains.length ≤ 100)) := by
  unfold law02_many
  by_cases h : 100 < ls.length
  · rw [if_pos (by omega), decide_eq_true h]; rfl
  · rw [if_neg (by omega), decide_eq_false h, list_loop0 ls (fun t => decide (t.drains.length ≤ 100)) (law02_many_L1 ls) (some false) (some true) (fun k i x hx => ?_) (fun k => ?_) hn]
    · by_cases ha : ∀ t ∈ ls, t.drains.length ≤ 100
      · rw [decide_eq_true ha, if_pos (List.all_eq_true.2 fun t ht => decide_eq_true (ha t ht))]; rfl
      · rw [decide_eq_false ha, if_neg (fun hc => ha fun t ht => of_decide_eq_true (List.all_eq_true.1 hc t ht))]; rfl
    · have := lt_of_at hx
      show law02_many_B1 ls (law02_many_L1 ls k) _ = _
      unfold law02_many_B1
      rw [if_pos (by omega), ix_nat hx]
      by_cases h1 : x.drains.length ≤ 100
      · rw [if_neg (by omega), gd_pos (by omega), if_pos (by simpa using h1)]; rfl
      · rw [if_pos (by omega), if_neg (by simpa using h1)]
    · show law02_many_B1 ls (law02_many_L1 ls k) _ = _
      unfold law02_many_B1
      rw [if_neg (by omega)]; rfl
theorem law_DrainSums (n : Net) (ls : List Trail) (hb : ls.length ≤ 9223372036854775807) : law02_DrainSums n ls = some true := by
  unfold law02_DrainSums
  rw [bnd_eq (Long_eq n)]
  unfold law02_DrainSums_k1
  by_cases hL : (100 : Int) < (n.drains.length : Int)
  · rw [if_pos (by simpa using hL), if_pos rfl, bnd_eq known_eq]
  · have hl : n.drains.length ≤ 1000 := by omega
    rw [if_neg (by simpa using hL), bnd_eq (many_eq hb)]
    by_cases hm : (decide (100 < ls.length) || !decide (∀ t ∈ ls, t.drains.length ≤ 100)) = true
    · rw [if_pos hm, bnd_eq known_eq]
    · have hs : ls.length ≤ 100 ∧ ∀ t ∈ ls, t.drains.length ≤ 100 := by
        simp only [Bool.or_eq_true, Bool.not_eq_true', decide_eq_true_eq, decide_eq_false_iff_not, not_or, Decidable.not_not] at hm
        exact ⟨by omega, hm.2⟩
      have hlen : (sumsR n ls).1.length ≤ 1000000 := by
        unfold sumsR
        split
        · split
          · exact Nat.zero_le _
          · split
            · rename_i hp
              have := (sum_SB hs.2 ls.length (Nat.le_refl _) hp).1
              simp only; omega
            · exact Nat.zero_le _
        · exact Nat.zero_le _
      rw [if_neg hm, bnd_eq (Sum_eq hl hs.2 hs.1), bnd_eq (rSum_eq hl hs.2 hs.1), bnd_eq (SameInts_self hlen), if_pos rfl, if_pos rfl, bnd_eq known_eq]
end Go.D2
