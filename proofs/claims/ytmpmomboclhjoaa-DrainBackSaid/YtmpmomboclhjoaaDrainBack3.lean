/- Lemmas and walks that the proof of this claim uses: D2n1, D2n3, D2k1, D2k2, Tb22, D2p1, D2p2, D2p3. -/
import Derived.Test.YtmpmomboclhjoaaDrainBack2
set_option linter.unusedVariables false
set_option linter.unusedSimpArgs false
namespace Go.D2
open Go.Tb Go.Proofs Go.RowKit
theorem Tc77 : callable Try.prog 77 = true := by kernel_rfl
theorem Tf79_0 : tyF Try.prog 79 0 = some 0 := by kernel_rfl
theorem Tf79_1 : tyF Try.prog 79 1 = some 1 := by kernel_rfl
theorem Tk30 : tyK Try.prog 30 = some (false, 1) := by kernel_rfl
theorem Tk79 : tyK Try.prog 79 = some (true, 2) := by kernel_rfl
theorem Ts45 : tyS Try.prog 45 = some (79, 2, 32, [.slice none 0 0, .int .i64 0]) := by kernel_rfl
theorem Tz79 : tyZ Try.prog 79 = some (.agg #[.slice none 0 0, .int .i64 0]) := by kernel_rfl
set_option maxRecDepth 20000 in
set_option maxHeartbeats 1000000 in
theorem drain_isTrail_ok {a0 : Net} {a1 : Trail} {A_a0_drains : Option Addr} {c_a0_drains : Nat} {A_a1_drains : Option Addr} {c_a1_drains : Nat} {w : World} {res : Bool} (h_a0_drains : Sl w A_a0_drains c_a0_drains 3 (a0.drains.map encDrain)) (h_a1_drains : Sl w A_a1_drains c_a1_drains 1 (a1.drains.map encN)) (F : drain_isTrail a0 a1 = some res) : Calls Try.prog 77 #[.agg #[.int .i64 a0.nodes, .int .i64 a0.from_, .int .i64 a0.to_, .slice A_a0_drains a0.drains.length c_a0_drains], .agg #[.slice A_a1_drains a1.drains.length c_a1_drains, .int .i64 a1.amount]] w (Rt w (.bool res)) := by
  refine calls_of_cw (args := [.agg #[.int .i64 a0.nodes, .int .i64 a0.from_, .int .i64 a0.to_, .slice A_a0_drains a0.drains.length c_a0_drains], .agg #[.slice A_a1_drains a1.drains.length c_a1_drains, .int .i64 a1.amount]]) Try.func77 rfl rfl rfl rfl ?_
  have H := Hp.start w
  have R0 := H.ext
  unfold drain_isTrail at F
  refine CW.seq fun K1 hK1 => ?_
  refine CW.region ?_
  refine LW.go rfl rfl (OW.box rfl fun b1 w1 N1 => ?_)
  replace H := H.new N1 N1.blk
  replace R0 := H.ext
  refine LW.go rfl rfl (OW.box rfl fun b2 w2 N2 => ?_)
  replace H := H.new N2 N2.blk
  replace R0 := H.ext
  refine LW.pure rfl rfl (RV.assign rfl) ?_
  refine LW.nil (hK1 _ _ ?_)
  refine CW.seq fun K2 hK2 => ?_
  refine CW.seqJ (fun ρ wl1 => (∃ (t18_1 : Bool), drain_isTrail_k3 a0 a1 t18_1 = some res ∧ ρ = [(2, .pointer (some (⟨b1, 0, none⟩))), (3, .pointer (some (⟨b2, 0, none⟩))), (4, .bool false), (18, .bool t18_1)] ∧ Hp w wl1 [.blk b1 24 [.int .i64 a0.nodes, .int .i64 a0.from_, .int .i64 a0.to_, .slice A_a0_drains a0.drains.length c_a0_drains], .blk b2 79 [.slice A_a1_drains a1.drains.length c_a1_drains, .int .i64 a1.amount]])) ?_ ?_
  ·
    rintro _ wl1 ⟨t18_1, F, rfl, H⟩
    have R0 := H.ext
    unfold drain_isTrail_k3 at F
    by_cases hp1 : t18_1 = true
    ·
      replace F := ite_y hp1 F
      have hq1 : t18_1 = true := hp1
      refine CW.condT rfl hq1 ?_
      refine CW.seq fun K3 hK3 => ?_
      refine CW.region ?_
      refine LW.pure rfl rfl (RV.assign rfl) ?_
      refine LW.nil (hK3 _ _ ?_)
      refine CW.ret ?_
      obtain rfl := Option.some.inj F
      refine ⟨_, (ResOK.one rfl), ?_⟩
      refine ⟨(by first | rfl | simp), R0⟩
    ·
      replace F := ite_n hp1 F
      have hq1 : t18_1 = false := raw_f hp1
      refine CW.condF rfl hq1 ?_
      refine CW.skip (hK2 _ _ ?_)
      refine CW.seqJ (fun ρ wl2 => (drain_isTrail_k1 a0 a1 = some res ∧ ρ = [(2, .pointer (some (⟨b1, 0, none⟩))), (3, .pointer (some (⟨b2, 0, none⟩))), (4, .bool false)] ∧ Hp w wl2 [.blk b1 24 [.int .i64 a0.nodes, .int .i64 a0.from_, .int .i64 a0.to_, .slice A_a0_drains a0.drains.length c_a0_drains], .blk b2 79 [.slice A_a1_drains a1.drains.length c_a1_drains, .int .i64 a1.amount]])) ?_ ?_
      ·
        rintro _ wl2 ⟨F, rfl, H⟩
        have R0 := H.ext
        unfold drain_isTrail_k1 at F
        refine CW.seq fun K4 hK4 => ?_
        obtain ⟨x1, hbx1, hx1, F⟩ := ix_some F
        obtain ⟨x2, hbx2, hx2, F⟩ := ix_some F
        obtain ⟨hg1, F⟩ := gd_some F
        obtain ⟨x3, hbx3, hx3, F⟩ := ix_some F
        obtain ⟨x4, hbx4, hx4, F⟩ := ix_some F
        refine CW.draw [] (fun _ => True) (.cons 0 1 (.cons 1 1 (.cons 2 1 (.cons 3 1 (.cons 4 1 (.cons 5 1 (.cons 6 1 (.cons 7 1 (.cons 8 1 (.cons 9 1 (.cons 10 1 (.cons 11 1 (.cons 12 1 (.cons 13 1 (.cons 14 1 (.cons 15 1 (.cons 16 1 (.cons 17 1 (.cons 18 1 (.cons 19 1 (.cons 20 1 (.cons 21 1 (.cons 22 1 (.cons 23 1 .nil)))))))))))))))))))))))) mixed (by kernel_rfl) fun w3 E1 => ?_
        replace H := H.grow E1
        replace R0 := H.ext
        refine DW.fix rfl rfl rfl (fun _ EQ => RV.fieldAddr Tf24_3 rfl) ?_
        refine DW.fix rfl rfl rfl (fun _ EQ => RV.load1 Tk22 rfl (((H.grow EQ).blk 0 rfl).cells.off 3) rfl) ?_
        refine DW.fix rfl rfl rfl (fun _ EQ => RV.fieldAddr Tf79_0 rfl) ?_
        refine DW.fix rfl rfl rfl (fun _ EQ => RV.load1 Tk30 rfl (((H.grow EQ).blk 1 rfl).cells.off 0) rfl) ?_
        refine DW.fix rfl rfl rfl (fun _ EQ => RV.indexAddr Ts30 rfl rfl hbx1 (h_a1_drains.addr_ hx1)) ?_
        refine DW.fix rfl rfl rfl (fun _ EQ => RV.load1 Tk3 rfl ((h_a1_drains.at_ hx1).ext (R0.trans EQ)) rfl) ?_
        refine DW.fix rfl rfl rfl (fun _ EQ => RV.indexAddr Ts22 rfl rfl hbx2 (h_a0_drains.addr_ hx2)) ?_
        refine DW.fix rfl rfl rfl (fun _ EQ => RV.fieldAddr Tf52_0 rfl) ?_
        refine DW.fix rfl rfl rfl (fun _ EQ => RV.load1 Tk3 rfl (((h_a0_drains.at_ hx2).ext (R0.trans EQ)).off 0) rfl) ?_
        refine DW.fix rfl rfl rfl (fun _ EQ => RV.fieldAddr Tf24_3 rfl) ?_
        refine DW.fix rfl rfl rfl (fun _ EQ => RV.load1 Tk22 rfl (((H.grow EQ).blk 0 rfl).cells.off 3) rfl) ?_
        refine DW.fix rfl rfl rfl (fun _ EQ => RV.fieldAddr Tf79_0 rfl) ?_
        refine DW.fix rfl rfl rfl (fun _ EQ => RV.load1 Tk30 rfl (((H.grow EQ).blk 1 rfl).cells.off 0) rfl) ?_
        refine DW.fix rfl rfl rfl (fun _ EQ => RV.fieldAddr Tf79_0 rfl) ?_
        refine DW.fix rfl rfl rfl (fun _ EQ => RV.load1 Tk30 rfl (((H.grow EQ).blk 1 rfl).cells.off 0) rfl) ?_
        refine DW.fix rfl rfl rfl (fun _ EQ => RV.len Ts30 rfl) ?_
        refine DW.fix rfl rfl rfl (fun _ EQ => RV.sub rfl rfl hg1) ?_
        refine DW.fix rfl rfl rfl (fun _ EQ => RV.indexAddr Ts30 rfl rfl hbx3 (h_a1_drains.addr_ hx3)) ?_
        refine DW.fix rfl rfl rfl (fun _ EQ => RV.load1 Tk3 rfl ((h_a1_drains.at_ hx3).ext (R0.trans EQ)) rfl) ?_
        refine DW.fix rfl rfl rfl (fun _ EQ => RV.indexAddr Ts22 rfl rfl hbx4 (h_a0_drains.addr_ hx4)) ?_
        refine DW.fix rfl rfl rfl (fun _ EQ => RV.fieldAddr Tf52_1 rfl) ?_
        refine DW.fix rfl rfl rfl (fun _ EQ => RV.load1 Tk3 rfl (((h_a0_drains.at_ hx4).ext (R0.trans EQ)).off 1) rfl) ?_
        refine DW.fix rfl rfl rfl (fun _ EQ => RV.assign rfl) ?_
        refine DW.fix rfl rfl rfl (fun _ EQ => RV.assign rfl) ?_
        refine DW.nil (hK4 _ _ ?_)
        refine CW.seq fun K5 hK5 => ?_
        by_cases hp2 : x2.from_ = x4.to_
        ·
          replace F := ite_y hp2 F
          have hq2 := dec_t hp2
          refine CW.region ?_
          refine LW.pure rfl rfl (RV.move rfl) ?_
          refine LW.pure rfl rfl (RV.move rfl) ?_
          refine LW.pure rfl rfl (RV.eqi rfl rfl) ?_
          refine LW.pure rfl rfl (RV.move rfl) ?_
          refine LW.noB rfl rfl rfl rfl (ne_beq (v := true) hq2 rfl) ?_
          refine LW.noB rfl rfl rfl rfl (ne_beq (v := true) hq2 rfl) ?_
          refine LW.noB rfl rfl rfl rfl (ne_beq (v := true) hq2 rfl) ?_
          refine LW.noB rfl rfl rfl rfl (ne_beq (v := true) hq2 rfl) ?_
          refine LW.noB rfl rfl rfl rfl (ne_beq (v := true) hq2 rfl) ?_
          refine LW.noU rfl rfl rfl rfl ?_
          refine LW.noU rfl rfl rfl rfl ?_
          refine LW.noU rfl rfl rfl rfl ?_
          refine LW.noU rfl rfl rfl rfl ?_
          refine LW.noB rfl rfl rfl rfl (ne_beq (v := true) hq2 rfl) ?_
          refine LW.pure rfl rfl (RV.pickTB rfl hq2 rfl) ?_
          refine LW.pure rfl rfl (RV.assign rfl) ?_
          refine LW.nil (hK5 _ _ ?_)
          refine CW.ret ?_
          obtain rfl := Option.some.inj F
          refine ⟨_, (ResOK.one rfl), ?_⟩
          refine ⟨(by first | rfl | simp), R0⟩
        ·
          replace F := ite_n hp2 F
          have hq2 := dec_f hp2
          by_cases hp3 : x2.from_ = a0.from_
          ·
            replace F := ite_y hp3 F
            have hq3 := dec_t hp3
            refine CW.region ?_
            refine LW.pure rfl rfl (RV.move rfl) ?_
            refine LW.pure rfl rfl (RV.move rfl) ?_
            refine LW.pure rfl rfl (RV.eqi rfl rfl) ?_
            refine LW.pure rfl rfl (RV.move rfl) ?_
            refine LW.pureYB rfl rfl rfl rfl hq2 (RV.move rfl) ?_
            refine LW.pureYB rfl rfl rfl rfl hq2 (RV.fieldAddr Tf24_1 rfl) ?_
            refine LW.pureYB rfl rfl rfl rfl hq2 (RV.load1 Tk3 rfl ((H.blk 0 rfl).cells.off 1) rfl) ?_
            refine LW.pureYB rfl rfl rfl rfl hq2 (RV.eqi rfl rfl) ?_
            refine LW.pureYB rfl rfl rfl rfl hq2 (RV.move rfl) ?_
            refine LW.pureYB rfl rfl rfl rfl hq3 (RV.move rfl) ?_
            refine LW.pureYB rfl rfl rfl rfl hq3 (RV.fieldAddr Tf24_2 rfl) ?_
            refine LW.pureYB rfl rfl rfl rfl hq3 (RV.load1 Tk3 rfl ((H.blk 0 rfl).cells.off 2) rfl) ?_
            refine LW.pureYB rfl rfl rfl rfl hq3 (RV.eqi rfl rfl) ?_
            refine LW.pureYB rfl rfl rfl rfl hq2 (RV.pickTB rfl hq3 rfl) ?_
            refine LW.pure rfl rfl (RV.pickFB rfl hq2 rfl) ?_
            refine LW.pure rfl rfl (RV.assign rfl) ?_
            refine LW.nil (hK5 _ _ ?_)
            refine CW.ret ?_
            obtain rfl := Option.some.inj F
            refine ⟨_, (ResOK.one rfl), ?_⟩
            refine ⟨(by first | rfl | simp), R0⟩
          ·
            replace F := ite_n hp3 F
            have hq3 := dec_f hp3
            refine CW.region ?_
            refine LW.pure rfl rfl (RV.move rfl) ?_
            refine LW.pure rfl rfl (RV.move rfl) ?_
            refine LW.pure rfl rfl (RV.eqi rfl rfl) ?_
            refine LW.pure rfl rfl (RV.move rfl) ?_
            refine LW.pureYB rfl rfl rfl rfl hq2 (RV.move rfl) ?_
            refine LW.pureYB rfl rfl rfl rfl hq2 (RV.fieldAddr Tf24_1 rfl) ?_
            refine LW.pureYB rfl rfl rfl rfl hq2 (RV.load1 Tk3 rfl ((H.blk 0 rfl).cells.off 1) rfl) ?_
            refine LW.pureYB rfl rfl rfl rfl hq2 (RV.eqi rfl rfl) ?_
            refine LW.pureYB rfl rfl rfl rfl hq2 (RV.move rfl) ?_
            refine LW.noB rfl rfl rfl rfl (ne_beq (v := false) hq3 rfl) ?_
            refine LW.noB rfl rfl rfl rfl (ne_beq (v := false) hq3 rfl) ?_
            refine LW.noB rfl rfl rfl rfl (ne_beq (v := false) hq3 rfl) ?_
            refine LW.noB rfl rfl rfl rfl (ne_beq (v := false) hq3 rfl) ?_
            refine LW.pureYB rfl rfl rfl rfl hq2 (RV.pickFB rfl hq3 rfl) ?_
            refine LW.pure rfl rfl (RV.pickFB rfl hq2 rfl) ?_
            refine LW.pure rfl rfl (RV.assign rfl) ?_
            refine LW.nil (hK5 _ _ ?_)
            refine CW.ret ?_
            obtain rfl := Option.some.inj F
            refine ⟨_, (ResOK.one rfl), ?_⟩
            refine ⟨(by first | rfl | simp), R0⟩
      ·
        intro K6 hK6 jK70
        refine CW.seq fun K7 hK7 => ?_
        refine CW.region ?_
        refine LW.pure rfl rfl (RV.fieldAddr Tf79_0 rfl) ?_
        refine LW.pure rfl rfl (RV.load1 Tk30 rfl ((H.blk 1 rfl).cells.off 0) rfl) ?_
        refine LW.pure rfl rfl (RV.len Ts30 rfl) ?_
        refine LW.pure rfl rfl (RV.move rfl) ?_
        refine LW.nil (hK7 _ _ ?_)
        refine CW.block ?_
        refine CW.loop (fun meas ρ wl3 => ∃ (t22_1 : Int), drain_isTrail_L1 a0 a1 meas t22_1 = some res ∧ ρ = [(2, .pointer (some (⟨b1, 0, none⟩))), (3, .pointer (some (⟨b2, 0, none⟩))), (4, .bool false), (20, .slice A_a1_drains a1.drains.length c_a1_drains), (21, .int .i64 ((a1.drains.length : Int))), (22, .int .i64 t22_1)] ∧ Hp w wl3 [.blk b1 24 [.int .i64 a0.nodes, .int .i64 a0.from_, .int .i64 a0.to_, .slice A_a0_drains a0.drains.length c_a0_drains], .blk b2 79 [.slice A_a1_drains a1.drains.length c_a1_drains, .int .i64 a1.amount]]) FU ⟨_, ?_, ((0 : Int)), F, rfl, H⟩ ?_
        · exact ⟨rfl, rfl, rfl, rfl, rfl, rfl, trivial⟩
        rintro mk1 _ wl3 ⟨t22_1, F, rfl, H⟩
        have R0 := H.ext
        replace F := drain_isTrail_L1_s F
        obtain ⟨mk1, rfl, F⟩ := F
        generalize hrec1 : drain_isTrail_L1 a0 a1 mk1 = rec1 at F
        unfold drain_isTrail_B1 at F
        refine CW.seq fun K8 hK8 => ?_
        refine CW.region ?_
        refine LW.pure rfl rfl (RV.lss rfl rfl) ?_
        refine LW.nil (hK8 _ _ ?_)
        refine CW.seq fun K9 hK9 => ?_
        by_cases hp4 : t22_1 < ((a1.drains.length : Int))
        ·
          replace F := ite_y hp4 F
          have hq4 := dec_t hp4
          refine CW.condT rfl hq4 ?_
          refine CW.skip (hK9 _ _ ?_)
          refine CW.seq fun K10 hK10 => ?_
          refine CW.block ?_
          refine CW.seq fun K11 hK11 => ?_
          obtain ⟨x5, hbx5, hx5, F⟩ := ix_some F
          refine CW.region ?_
          refine LW.pure rfl rfl (RV.move rfl) ?_
          refine LW.pure rfl rfl (RV.indexAddr Ts30 rfl rfl hbx5 (h_a1_drains.addr_ hx5)) ?_
          refine LW.pure rfl rfl (RV.load1 Tk3 rfl ((h_a1_drains.at_ hx5).ext R0) rfl) ?_
          refine LW.pure rfl rfl (RV.assign rfl) ?_
          refine LW.pure rfl rfl (RV.assign rfl) ?_
          refine LW.nil (hK11 _ _ ?_)
          refine CW.seqJ (fun ρ wl4 => (∃ (t65_1 : Bool), drain_isTrail_k2 t22_1 rec1 t65_1 = some res ∧ ρ = [(2, .pointer (some (⟨b1, 0, none⟩))), (3, .pointer (some (⟨b2, 0, none⟩))), (4, .bool false), (20, .slice A_a1_drains a1.drains.length c_a1_drains), (21, .int .i64 ((a1.drains.length : Int))), (22, .int .i64 t22_1), (65, .bool t65_1)] ∧ Hp w wl4 [.blk b1 24 [.int .i64 a0.nodes, .int .i64 a0.from_, .int .i64 a0.to_, .slice A_a0_drains a0.drains.length c_a0_drains], .blk b2 79 [.slice A_a1_drains a1.drains.length c_a1_drains, .int .i64 a1.amount]])) ?_ ?_
          ·
            rintro _ wl4 ⟨t65_1, F, rfl, H⟩
            have R0 := H.ext
            unfold drain_isTrail_k2 at F
            by_cases hp5 : t65_1 = true
            ·
              replace F := ite_y hp5 F
              have hq5 : t65_1 = true := hp5
              refine CW.condT rfl hq5 ?_
              refine CW.seq fun K12 hK12 => ?_
              refine CW.region ?_
              refine LW.pure rfl rfl (RV.assign rfl) ?_
              refine LW.nil (hK12 _ _ ?_)
              refine CW.ret ?_
              obtain rfl := Option.some.inj F
              refine ⟨_, (ResOK.one rfl), ?_⟩
              refine ⟨(by first | rfl | simp), R0⟩
            ·
              replace F := ite_n hp5 F
              have hq5 : t65_1 = false := raw_f hp5
              refine CW.condF rfl hq5 ?_
              refine CW.skip (hK10 _ _ ?_)
              obtain ⟨hg2, F⟩ := gd_some F
              refine CW.region ?_
              refine LW.pure rfl rfl (RV.add rfl rfl hg2) ?_
              refine LW.pure rfl rfl (RV.move rfl) ?_
              refine LW.nil ?_
              subst hrec1
              refine ⟨mk1, Nat.lt_succ_self _, _, ?_, (t22_1 + 1), F, rfl, H⟩
              exact ⟨rfl, rfl, rfl, rfl, rfl, rfl, trivial⟩
          ·
            intro K13 hK13 jK89
            obtain ⟨hg3, F⟩ := gd_some F
            obtain ⟨r1, hr1, F⟩ := bnd_some F
            by_cases hp6 : r1 = true
            ·
              replace F := ite_y hp6 F
              have hq6 : r1 = true := hp6
              obtain ⟨hg4, F⟩ := gd_some F
              obtain ⟨r2, hr2, F⟩ := bnd_some F
              by_cases hp7 : r2 = true
              ·
                replace F := ite_y hp7 F
                have hq7 : r2 = true := hp7
                refine CW.draw [] (fun _ => True) (.cons 0 1 (.cons 1 1 (.cons 2 1 (.cons 3 1 (.cons 4 1 (.cons 5 0 (.cons 6 1 (.cons 7 1 (.cons 8 1 (.cons 9 1 (.cons 10 1 (.cons 11 1 (.cons 12 1 (.cons 13 0 (.cons 14 1 (.cons 15 1 (.cons 16 1 (.cons 17 1 (.cons 18 1 (.cons 19 1 (.cons 20 1 (.cons 21 1 (.cons 22 1 (.cons 23 1 (.cons 24 1 (.cons 25 1 (.cons 26 1 (.cons 27 1 (.cons 28 1 (.cons 29 1 (.cons 30 1 (.cons 31 1 (.cons 32 1 (.cons 33 1 (.cons 34 1 (.cons 35 1 (.cons 36 1 (.cons 37 1 (.cons 38 1 .nil))))))))))))))))))))))))))))))))))))))) mixed (by kernel_rfl) fun w4 E2 => ?_
                replace H := H.grow E2
                replace R0 := H.ext
                refine DW.fix rfl rfl rfl (fun _ EQ => RV.move rfl) ?_
                refine DW.fix rfl rfl rfl (fun _ EQ => RV.fieldAddr Tf24_3 rfl) ?_
                refine DW.fix rfl rfl rfl (fun _ EQ => RV.load1 Tk22 rfl (((H.grow EQ).blk 0 rfl).cells.off 3) rfl) ?_
                refine DW.fix rfl rfl rfl (fun _ EQ => RV.len Ts22 rfl) ?_
                refine DW.fix rfl rfl rfl (fun _ EQ => RV.sub rfl rfl hg3) ?_
                refine DW.sole rfl rfl rfl (OW.call Tc62 rfl (drain_from_ok (a0 := x5) (a1 := (0 : Int)) (a2 := ((a0.drains.length : Int)) - 1) hr1) ?_)
                rintro _ w5 ⟨rfl, E3⟩
                refine ⟨_, rfl, fun _ => E3, ModX.ext E3, ?_⟩
                replace H := H.grow E3
                replace R0 := H.ext
                refine DW.fix rfl rfl rfl (fun _ EQ => RV.not rfl) ?_
                refine DW.fix rfl rfl rfl (fun _ EQ => RV.move rfl) ?_
                refine DW.fixYB rfl rfl rfl rfl rfl (not_f hq6) (fun _ EQ => RV.fieldAddr Tf79_0 rfl) ?_
                refine DW.fixYB rfl rfl rfl rfl rfl (not_f hq6) (fun _ EQ => RV.load1 Tk30 rfl (((H.grow EQ).blk 1 rfl).cells.off 0) rfl) ?_
                refine DW.fixYB rfl rfl rfl rfl rfl (not_f hq6) (fun _ EQ => RV.move rfl) ?_
                refine DW.fixYB rfl rfl rfl rfl rfl (not_f hq6) (fun _ EQ => RV.cutH (l := a1.drains) Ts30 rfl rfl hg4 (h_a1_drains.ext R0).le rfl) ?_
                refine DW.fixYB rfl rfl rfl rfl rfl (not_f hq6) (fun _ EQ => RV.move rfl) ?_
                refine DW.soleYB rfl rfl rfl rfl rfl (not_f hq6) (OW.call Tc65 rfl (slices_Contains_int_ok (a0 := (List.take (Int.toNat t22_1) a1.drains)) (a1 := x5) ((h_a1_drains.ext R0).cutH hg4) hr2) ?_)
                rintro _ w6 ⟨rfl, E4⟩
                refine ⟨_, rfl, fun _ => E4, ModX.ext E4, ?_⟩
                replace H := H.grow E4
                replace R0 := H.ext
                refine DW.fix rfl rfl rfl (fun _ EQ => RV.pickFB rfl (not_f hq6) rfl) ?_
                refine DW.fix rfl rfl rfl (fun _ EQ => RV.move rfl) ?_
                refine DW.fixNB rfl rfl rfl rfl rfl (ne_beq (v := true) hq7 rfl) ?_
                refine DW.fixNB rfl rfl rfl rfl rfl (ne_beq (v := true) hq7 rfl) ?_
                refine DW.fixNB rfl rfl rfl rfl rfl (ne_beq (v := true) hq7 rfl) ?_
                refine DW.fixNU rfl rfl rfl rfl rfl ?_
                refine DW.fixNU rfl rfl rfl rfl rfl ?_
                refine DW.fixNU rfl rfl rfl rfl rfl ?_
                refine DW.fixNU rfl rfl rfl rfl rfl ?_
                refine DW.fixNU rfl rfl rfl rfl rfl ?_
                refine DW.fixNU rfl rfl rfl rfl rfl ?_
                refine DW.fixNU rfl rfl rfl rfl rfl ?_
                refine DW.fixNU rfl rfl rfl rfl rfl ?_
                refine DW.fixNU rfl rfl rfl rfl rfl ?_
                refine DW.fixNU rfl rfl rfl rfl rfl ?_
                refine DW.fixNU rfl rfl rfl rfl rfl ?_
                refine DW.fixNU rfl rfl rfl rfl rfl ?_
                refine DW.fixNU rfl rfl rfl rfl rfl ?_
                refine DW.fixNU rfl rfl rfl rfl rfl ?_
                refine DW.fixNU rfl rfl rfl rfl rfl ?_
                refine DW.fixNU rfl rfl rfl rfl rfl ?_
                refine DW.fixNU rfl rfl rfl rfl rfl ?_
                refine DW.fixNU rfl rfl rfl rfl rfl ?_
                refine DW.fixNB rfl rfl rfl rfl rfl (ne_beq (v := true) hq7 rfl) ?_
                refine DW.fix rfl rfl rfl (fun _ EQ => RV.pickTB rfl hq7 rfl) ?_
                refine DW.nil (jK89 _ _ ⟨_, ?_, ⟨true, F, rfl, H⟩⟩)
                exact ⟨rfl, rfl, rfl, rfl, rfl, rfl, rfl, trivial⟩
              ·
                replace F := ite_n hp7 F
                have hq7 : r2 = false := raw_f hp7
                by_cases hp8 : (0 : Int) < t22_1
                ·
                  replace F := ite_y hp8 F
                  have hq8 := dec_t hp8
                  obtain ⟨hg5, F⟩ := gd_some F
                  obtain ⟨x6, hbx6, hx6, F⟩ := ix_some F
                  obtain ⟨x7, hbx7, hx7, F⟩ := ix_some F
                  obtain ⟨x8, hbx8, hx8, F⟩ := ix_some F
                  refine CW.draw [] (fun _ => True) (.cons 0 1 (.cons 1 1 (.cons 2 1 (.cons 3 1 (.cons 4 1 (.cons 5 0 (.cons 6 1 (.cons 7 1 (.cons 8 1 (.cons 9 1 (.cons 10 1 (.cons 11 1 (.cons 12 1 (.cons 13 0 (.cons 14 1 (.cons 15 1 (.cons 16 1 (.cons 17 1 (.cons 18 1 (.cons 19 1 (.cons 20 1 (.cons 21 1 (.cons 22 1 (.cons 23 1 (.cons 24 1 (.cons 25 1 (.cons 26 1 (.cons 27 1 (.cons 28 1 (.cons 29 1 (.cons 30 1 (.cons 31 1 (.cons 32 1 (.cons 33 1 (.cons 34 1 (.cons 35 1 (.cons 36 1 (.cons 37 1 (.cons 38 1 .nil))))))))))))))))))))))))))))))))))))))) mixed (by kernel_rfl) fun w7 E5 => ?_
                  replace H := H.grow E5
                  replace R0 := H.ext
                  refine DW.fix rfl rfl rfl (fun _ EQ => RV.move rfl) ?_
                  refine DW.fix rfl rfl rfl (fun _ EQ => RV.fieldAddr Tf24_3 rfl) ?_
                  refine DW.fix rfl rfl rfl (fun _ EQ => RV.load1 Tk22 rfl (((H.grow EQ).blk 0 rfl).cells.off 3) rfl) ?_
                  refine DW.fix rfl rfl rfl (fun _ EQ => RV.len Ts22 rfl) ?_
                  refine DW.fix rfl rfl rfl (fun _ EQ => RV.sub rfl rfl hg3) ?_
                  refine DW.sole rfl rfl rfl (OW.call Tc62 rfl (drain_from_ok (a0 := x5) (a1 := (0 : Int)) (a2 := ((a0.drains.length : Int)) - 1) hr1) ?_)
                  rintro _ w8 ⟨rfl, E6⟩
                  refine ⟨_, rfl, fun _ => E6, ModX.ext E6, ?_⟩
                  replace H := H.grow E6
                  replace R0 := H.ext
                  refine DW.fix rfl rfl rfl (fun _ EQ => RV.not rfl) ?_
                  refine DW.fix rfl rfl rfl (fun _ EQ => RV.move rfl) ?_
                  refine DW.fixYB rfl rfl rfl rfl rfl (not_f hq6) (fun _ EQ => RV.fieldAddr Tf79_0 rfl) ?_
                  refine DW.fixYB rfl rfl rfl rfl rfl (not_f hq6) (fun _ EQ => RV.load1 Tk30 rfl (((H.grow EQ).blk 1 rfl).cells.off 0) rfl) ?_
                  refine DW.fixYB rfl rfl rfl rfl rfl (not_f hq6) (fun _ EQ => RV.move rfl) ?_
                  refine DW.fixYB rfl rfl rfl rfl rfl (not_f hq6) (fun _ EQ => RV.cutH (l := a1.drains) Ts30 rfl rfl hg4 (h_a1_drains.ext R0).le rfl) ?_
                  refine DW.fixYB rfl rfl rfl rfl rfl (not_f hq6) (fun _ EQ => RV.move rfl) ?_
                  refine DW.soleYB rfl rfl rfl rfl rfl (not_f hq6) (OW.call Tc65 rfl (slices_Contains_int_ok (a0 := (List.take (Int.toNat t22_1) a1.drains)) (a1 := x5) ((h_a1_drains.ext R0).cutH hg4) hr2) ?_)
                  rintro _ w9 ⟨rfl, E7⟩
                  refine ⟨_, rfl, fun _ => E7, ModX.ext E7, ?_⟩
                  replace H := H.grow E7
                  replace R0 := H.ext
                  refine DW.fix rfl rfl rfl (fun _ EQ => RV.pickFB rfl (not_f hq6) rfl) ?_
                  refine DW.fix rfl rfl rfl (fun _ EQ => RV.move rfl) ?_
                  refine DW.fixYB rfl rfl rfl rfl rfl hq7 (fun _ EQ => RV.move rfl) ?_
                  refine DW.fixYB rfl rfl rfl rfl rfl hq7 (fun _ EQ => RV.gtr rfl rfl) ?_
                  refine DW.fixYB rfl rfl rfl rfl rfl hq7 (fun _ EQ => RV.move rfl) ?_
                  refine DW.fixYB rfl rfl rfl rfl rfl hq8 (fun _ EQ => RV.fieldAddr Tf24_3 rfl) ?_
                  refine DW.fixYB rfl rfl rfl rfl rfl hq8 (fun _ EQ => RV.load1 Tk22 rfl (((H.grow EQ).blk 0 rfl).cells.off 3) rfl) ?_
                  refine DW.fixYB rfl rfl rfl rfl rfl hq8 (fun _ EQ => RV.fieldAddr Tf79_0 rfl) ?_
                  refine DW.fixYB rfl rfl rfl rfl rfl hq8 (fun _ EQ => RV.load1 Tk30 rfl (((H.grow EQ).blk 1 rfl).cells.off 0) rfl) ?_
                  refine DW.fixYB rfl rfl rfl rfl rfl hq8 (fun _ EQ => RV.move rfl) ?_
                  refine DW.fixYB rfl rfl rfl rfl rfl hq8 (fun _ EQ => RV.sub rfl rfl hg5) ?_
                  refine DW.fixYB rfl rfl rfl rfl rfl hq8 (fun _ EQ => RV.indexAddr Ts30 rfl rfl hbx6 (h_a1_drains.addr_ hx6)) ?_
                  refine DW.fixYB rfl rfl rfl rfl rfl hq8 (fun _ EQ => RV.load1 Tk3 rfl ((h_a1_drains.at_ hx6).ext (R0.trans EQ)) rfl) ?_
                  refine DW.fixYB rfl rfl rfl rfl rfl hq8 (fun _ EQ => RV.indexAddr Ts22 rfl rfl hbx7 (h_a0_drains.addr_ hx7)) ?_
                  refine DW.fixYB rfl rfl rfl rfl rfl hq8 (fun _ EQ => RV.fieldAddr Tf52_1 rfl) ?_
                  refine DW.fixYB rfl rfl rfl rfl rfl hq8 (fun _ EQ => RV.load1 Tk3 rfl (((h_a0_drains.at_ hx7).ext (R0.trans EQ)).off 1) rfl) ?_
                  refine DW.fixYB rfl rfl rfl rfl rfl hq8 (fun _ EQ => RV.fieldAddr Tf24_3 rfl) ?_
                  refine DW.fixYB rfl rfl rfl rfl rfl hq8 (fun _ EQ => RV.load1 Tk22 rfl (((H.grow EQ).blk 0 rfl).cells.off 3) rfl) ?_
                  refine DW.fixYB rfl rfl rfl rfl rfl hq8 (fun _ EQ => RV.move rfl) ?_
                  refine DW.fixYB rfl rfl rfl rfl rfl hq8 (fun _ EQ => RV.indexAddr Ts22 rfl rfl hbx8 (h_a0_drains.addr_ hx8)) ?_
                  refine DW.fixYB rfl rfl rfl rfl rfl hq8 (fun _ EQ => RV.fieldAddr Tf52_0 rfl) ?_
                  refine DW.fixYB rfl rfl rfl rfl rfl hq8 (fun _ EQ => RV.load1 Tk3 rfl (((h_a0_drains.at_ hx8).ext (R0.trans EQ)).off 0) rfl) ?_
                  refine DW.fixYB rfl rfl rfl rfl rfl hq8 (fun _ EQ => RV.nei rfl rfl) ?_
                  refine DW.fixYB rfl rfl rfl rfl rfl hq7 (fun _ EQ => RV.pickTB rfl hq8 rfl) ?_
                  refine DW.fix rfl rfl rfl (fun _ EQ => RV.pickFB rfl hq7 rfl) ?_
                  refine DW.nil (jK89 _ _ ⟨_, ?_, ⟨(!(decide (x7.to_ = x8.from_))), F, rfl, H⟩⟩)
                  exact ⟨rfl, rfl, rfl, rfl, rfl, rfl, rfl, trivial⟩
                ·
                  replace F := ite_n hp8 F
                  have hq8 := dec_f hp8
                  refine CW.draw [] (fun _ => True) (.cons 0 1 (.cons 1 1 (.cons 2 1 (.cons 3 1 (.cons 4 1 (.cons 5 0 (.cons 6 1 (.cons 7 1 (.cons 8 1 (.cons 9 1 (.cons 10 1 (.cons 11 1 (.cons 12 1 (.cons 13 0 (.cons 14 1 (.cons 15 1 (.cons 16 1 (.cons 17 1 (.cons 18 1 (.cons 19 1 (.cons 20 1 (.cons 21 1 (.cons 22 1 (.cons 23 1 (.cons 24 1 (.cons 25 1 (.cons 26 1 (.cons 27 1 (.cons 28 1 (.cons 29 1 (.cons 30 1 (.cons 31 1 (.cons 32 1 (.cons 33 1 (.cons 34 1 (.cons 35 1 (.cons 36 1 (.cons 37 1 (.cons 38 1 .nil))))))))))))))))))))))))))))))))))))))) mixed (by kernel_rfl) fun w10 E8 => ?_
                  replace H := H.grow E8
                  replace R0 := H.ext
                  refine DW.fix rfl rfl rfl (fun _ EQ => RV.move rfl) ?_
                  refine DW.fix rfl rfl rfl (fun _ EQ => RV.fieldAddr Tf24_3 rfl) ?_
                  refine DW.fix rfl rfl rfl (fun _ EQ => RV.load1 Tk22 rfl (((H.grow EQ).blk 0 rfl).cells.off 3) rfl) ?_
                  refine DW.fix rfl rfl rfl (fun _ EQ => RV.len Ts22 rfl) ?_
                  refine DW.fix rfl rfl rfl (fun _ EQ => RV.sub rfl rfl hg3) ?_
                  refine DW.sole rfl rfl rfl (OW.call Tc62 rfl (drain_from_ok (a0 := x5) (a1 := (0 : Int)) (a2 := ((a0.drains.length : Int)) - 1) hr1) ?_)
                  rintro _ w11 ⟨rfl, E9⟩
                  refine ⟨_, rfl, fun _ => E9, ModX.ext E9, ?_⟩
                  replace H := H.grow E9
                  replace R0 := H.ext
                  refine DW.fix rfl rfl rfl (fun _ EQ => RV.not rfl) ?_
                  refine DW.fix rfl rfl rfl (fun _ EQ => RV.move rfl) ?_
                  refine DW.fixYB rfl rfl rfl rfl rfl (not_f hq6) (fun _ EQ => RV.fieldAddr Tf79_0 rfl) ?_
                  refine DW.fixYB rfl rfl rfl rfl rfl (not_f hq6) (fun _ EQ => RV.load1 Tk30 rfl (((H.grow EQ).blk 1 rfl).cells.off 0) rfl) ?_
                  refine DW.fixYB rfl rfl rfl rfl rfl (not_f hq6) (fun _ EQ => RV.move rfl) ?_
                  refine DW.fixYB rfl rfl rfl rfl rfl (not_f hq6) (fun _ EQ => RV.cutH (l := a1.drains) Ts30 rfl rfl hg4 (h_a1_drains.ext R0).le rfl) ?_
                  refine DW.fixYB rfl rfl rfl rfl rfl (not_f hq6) (fun _ EQ => RV.move rfl) ?_
                  refine DW.soleYB rfl rfl rfl rfl rfl (not_f hq6) (OW.call Tc65 rfl (slices_Contains_int_ok (a0 := (List.take (Int.toNat t22_1) a1.drains)) (a1 := x5) ((h_a1_drains.ext R0).cutH hg4) hr2) ?_)
                  rintro _ w12 ⟨rfl, E10⟩
                  refine ⟨_, rfl, fun _ => E10, ModX.ext E10, ?_⟩
                  replace H := H.grow E10
                  replace R0 := H.ext
                  refine DW.fix rfl rfl rfl (fun _ EQ => RV.pickFB rfl (not_f hq6) rfl) ?_
                  refine DW.fix rfl rfl rfl (fun _ EQ => RV.move rfl) ?_
                  refine DW.fixYB rfl rfl rfl rfl rfl hq7 (fun _ EQ => RV.move rfl) ?_
                  refine DW.fixYB rfl rfl rfl rfl rfl hq7 (fun _ EQ => RV.gtr rfl rfl) ?_
                  refine DW.fixYB rfl rfl rfl rfl rfl hq7 (fun _ EQ => RV.move rfl) ?_
                  refine DW.fixNB rfl rfl rfl rfl rfl (ne_beq (v := false) hq8 rfl) ?_
                  refine DW.fixNB rfl rfl rfl rfl rfl (ne_beq (v := false) hq8 rfl) ?_
                  refine DW.fixNB rfl rfl rfl rfl rfl (ne_beq (v := false) hq8 rfl) ?_
                  refine DW.fixNB rfl rfl rfl rfl rfl (ne_beq (v := false) hq8 rfl) ?_
                  refine DW.fixNB rfl rfl rfl rfl rfl (ne_beq (v := false) hq8 rfl) ?_
                  refine DW.fixNB rfl rfl rfl rfl rfl (ne_beq (v := false) hq8 rfl) ?_
                  refine DW.fixNB rfl rfl rfl rfl rfl (ne_beq (v := false) hq8 rfl) ?_
                  refine DW.fixNB rfl rfl rfl rfl rfl (ne_beq (v := false) hq8 rfl) ?_
                  refine DW.fixNB rfl rfl rfl rfl rfl (ne_beq (v := false) hq8 rfl) ?_
                  refine DW.fixNB rfl rfl rfl rfl rfl (ne_beq (v := false) hq8 rfl) ?_
                  refine DW.fixNB rfl rfl rfl rfl rfl (ne_beq (v := false) hq8 rfl) ?_
                  refine DW.fixNB rfl rfl rfl rfl rfl (ne_beq (v := false) hq8 rfl) ?_
                  refine DW.fixNB rfl rfl rfl rfl rfl (ne_beq (v := false) hq8 rfl) ?_
                  refine DW.fixNB rfl rfl rfl rfl rfl (ne_beq (v := false) hq8 rfl) ?_
                  refine DW.fixNB rfl rfl rfl rfl rfl (ne_beq (v := false) hq8 rfl) ?_
                  refine DW.fixNB rfl rfl rfl rfl rfl (ne_beq (v := false) hq8 rfl) ?_
                  refine DW.fixNB rfl rfl rfl rfl rfl (ne_beq (v := false) hq8 rfl) ?_
                  refine DW.fixNB rfl rfl rfl rfl rfl (ne_beq (v := false) hq8 rfl) ?_
                  refine DW.fixYB rfl rfl rfl rfl rfl hq7 (fun _ EQ => RV.pickFB rfl hq8 rfl) ?_
                  refine DW.fix rfl rfl rfl (fun _ EQ => RV.pickFB rfl hq7 rfl) ?_
                  refine DW.nil (jK89 _ _ ⟨_, ?_, ⟨false, F, rfl, H⟩⟩)
                  exact ⟨rfl, rfl, rfl, rfl, rfl, rfl, rfl, trivial⟩
            ·
              replace F := ite_n hp6 F
              have hq6 : r1 = false := raw_f hp6
              refine CW.draw [] (fun _ => True) (.cons 0 1 (.cons 1 1 (.cons 2 1 (.cons 3 1 (.cons 4 1 (.cons 5 0 (.cons 6 1 (.cons 7 1 (.cons 8 1 (.cons 9 1 (.cons 10 1 (.cons 11 1 (.cons 12 1 (.cons 13 0 (.cons 14 1 (.cons 15 1 (.cons 16 1 (.cons 17 1 (.cons 18 1 (.cons 19 1 (.cons 20 1 (.cons 21 1 (.cons 22 1 (.cons 23 1 (.cons 24 1 (.cons 25 1 (.cons 26 1 (.cons 27 1 (.cons 28 1 (.cons 29 1 (.cons 30 1 (.cons 31 1 (.cons 32 1 (.cons 33 1 (.cons 34 1 (.cons 35 1 (.cons 36 1 (.cons 37 1 (.cons 38 1 .nil))))))))))))))))))))))))))))))))))))))) mixed (by kernel_rfl) fun w13 E11 => ?_
              replace H := H.grow E11
              replace R0 := H.ext
              refine DW.fix rfl rfl rfl (fun _ EQ => RV.move rfl) ?_
              refine DW.fix rfl rfl rfl (fun _ EQ => RV.fieldAddr Tf24_3 rfl) ?_
              refine DW.fix rfl rfl rfl (fun _ EQ => RV.load1 Tk22 rfl (((H.grow EQ).blk 0 rfl).cells.off 3) rfl) ?_
              refine DW.fix rfl rfl rfl (fun _ EQ => RV.len Ts22 rfl) ?_
              refine DW.fix rfl rfl rfl (fun _ EQ => RV.sub rfl rfl hg3) ?_
              refine DW.sole rfl rfl rfl (OW.call Tc62 rfl (drain_from_ok (a0 := x5) (a1 := (0 : Int)) (a2 := ((a0.drains.length : Int)) - 1) hr1) ?_)
              rintro _ w14 ⟨rfl, E12⟩
              refine ⟨_, rfl, fun _ => E12, ModX.ext E12, ?_⟩
              replace H := H.grow E12
              replace R0 := H.ext
              refine DW.fix rfl rfl rfl (fun _ EQ => RV.not rfl) ?_
              refine DW.fix rfl rfl rfl (fun _ EQ => RV.move rfl) ?_
              refine DW.fixNB rfl rfl rfl rfl rfl (ne_beq (v := true) (not_t hq6) rfl) ?_
              refine DW.fixNB rfl rfl rfl rfl rfl (ne_beq (v := true) (not_t hq6) rfl) ?_
              refine DW.fixNB rfl rfl rfl rfl rfl (ne_beq (v := true) (not_t hq6) rfl) ?_
              refine DW.fixNB rfl rfl rfl rfl rfl (ne_beq (v := true) (not_t hq6) rfl) ?_
              refine DW.fixNB rfl rfl rfl rfl rfl (ne_beq (v := true) (not_t hq6) rfl) ?_
              refine DW.soleNB rfl rfl rfl rfl rfl (ne_beq (v := true) (not_t hq6) rfl) ?_
              refine DW.fix rfl rfl rfl (fun _ EQ => RV.pickTB rfl (not_t hq6) rfl) ?_
              refine DW.fix rfl rfl rfl (fun _ EQ => RV.move rfl) ?_
              refine DW.fixNB rfl rfl rfl rfl rfl (ne_beq (v := true) rfl rfl) ?_
              refine DW.fixNB rfl rfl rfl rfl rfl (ne_beq (v := true) rfl rfl) ?_
              refine DW.fixNB rfl rfl rfl rfl rfl (ne_beq (v := true) rfl rfl) ?_
              refine DW.fixNU rfl rfl rfl rfl rfl ?_
              refine DW.fixNU rfl rfl rfl rfl rfl ?_
              refine DW.fixNU rfl rfl rfl rfl rfl ?_
              refine DW.fixNU rfl rfl rfl rfl rfl ?_
              refine DW.fixNU rfl rfl rfl rfl rfl ?_
              refine DW.fixNU rfl rfl rfl rfl rfl ?_
              refine DW.fixNU rfl rfl rfl rfl rfl ?_
              refine DW.fixNU rfl rfl rfl rfl rfl ?_
              refine DW.fixNU rfl rfl rfl rfl rfl ?_
              refine DW.fixNU rfl rfl rfl rfl rfl ?_
              refine DW.fixNU rfl rfl rfl rfl rfl ?_
              refine DW.fixNU rfl rfl rfl rfl rfl ?_
              refine DW.fixNU rfl rfl rfl rfl rfl ?_
              refine DW.fixNU rfl rfl rfl rfl rfl ?_
              refine DW.fixNU rfl rfl rfl rfl rfl ?_
              refine DW.fixNU rfl rfl rfl rfl rfl ?_
              refine DW.fixNU rfl rfl rfl rfl rfl ?_
              refine DW.fixNU rfl rfl rfl rfl rfl ?_
              refine DW.fixNB rfl rfl rfl rfl rfl (ne_beq (v := true) rfl rfl) ?_
              refine DW.fix rfl rfl rfl (fun _ EQ => RV.pickTB rfl rfl rfl) ?_
              refine DW.nil (jK89 _ _ ⟨_, ?_, ⟨true, F, rfl, H⟩⟩)
              exact ⟨rfl, rfl, rfl, rfl, rfl, rfl, rfl, trivial⟩
        ·
          replace F := ite_n hp4 F
          have hq4 := dec_f hp4
          refine CW.condF rfl hq4 ?_
          refine CW.exit (jK70 _ _ ⟨_, ?_, ⟨F, rfl, H⟩⟩)
          exact ⟨rfl, rfl, rfl, trivial⟩
  ·
    intro K14 hK14 jK90
    by_cases hp9 : ((a1.drains.length : Int)) = 0
    ·
      replace F := ite_y hp9 F
      have hq9 := dec_t hp9
      refine CW.region ?_
      refine LW.pure rfl rfl (RV.fieldAddr Tf79_0 rfl) ?_
      refine LW.pure rfl rfl (RV.load1 Tk30 rfl ((H.blk 0 rfl).cells.off 0) rfl) ?_
      refine LW.pure rfl rfl (RV.len Ts30 rfl) ?_
      refine LW.pure rfl rfl (RV.eqi rfl rfl) ?_
      refine LW.pure rfl rfl (RV.move rfl) ?_
      refine LW.noB rfl rfl rfl rfl (ne_beq (v := true) hq9 rfl) ?_
      refine LW.noB rfl rfl rfl rfl (ne_beq (v := true) hq9 rfl) ?_
      refine LW.noB rfl rfl rfl rfl (ne_beq (v := true) hq9 rfl) ?_
      refine LW.noB rfl rfl rfl rfl (ne_beq (v := true) hq9 rfl) ?_
      refine LW.pure rfl rfl (RV.pickTB rfl hq9 rfl) ?_
      replace H := H.pick (L' := [.blk b1 24 [.int .i64 a0.nodes, .int .i64 a0.from_, .int .i64 a0.to_, .slice A_a0_drains a0.drains.length c_a0_drains], .blk b2 79 [.slice A_a1_drains a1.drains.length c_a1_drains, .int .i64 a1.amount]]) [1, 0] (by decide) rfl
      replace R0 := H.ext
      refine LW.nil (jK90 _ _ ⟨_, ?_, ⟨true, F, rfl, H⟩⟩)
      exact ⟨rfl, rfl, rfl, rfl, trivial⟩
    ·
      replace F := ite_n hp9 F
      have hq9 := dec_f hp9
      obtain ⟨r3, hr3, F⟩ := bnd_some F
      refine CW.region ?_
      refine LW.pure rfl rfl (RV.fieldAddr Tf79_0 rfl) ?_
      refine LW.pure rfl rfl (RV.load1 Tk30 rfl ((H.blk 0 rfl).cells.off 0) rfl) ?_
      refine LW.pure rfl rfl (RV.len Ts30 rfl) ?_
      refine LW.pure rfl rfl (RV.eqi rfl rfl) ?_
      refine LW.pure rfl rfl (RV.move rfl) ?_
      refine LW.pureYB rfl rfl rfl rfl hq9 (RV.fieldAddr Tf79_1 rfl) ?_
      refine LW.pureYB rfl rfl rfl rfl hq9 (RV.load1 Tk3 rfl ((H.blk 0 rfl).cells.off 1) rfl) ?_
      refine LW.yesB rfl rfl rfl rfl hq9 (OW.call Tc62 rfl (drain_from_ok (a0 := a1.amount) (a1 := (1 : Int)) (a2 := (20 : Int)) hr3) ?_)
      rintro _ w15 ⟨rfl, E13⟩
      refine ⟨_, rfl, ?_⟩
      replace H := H.grow E13
      replace R0 := H.ext
      refine LW.pureYB rfl rfl rfl rfl hq9 (RV.not rfl) ?_
      refine LW.pure rfl rfl (RV.pickFB rfl hq9 rfl) ?_
      replace H := H.pick (L' := [.blk b1 24 [.int .i64 a0.nodes, .int .i64 a0.from_, .int .i64 a0.to_, .slice A_a0_drains a0.drains.length c_a0_drains], .blk b2 79 [.slice A_a1_drains a1.drains.length c_a1_drains, .int .i64 a1.amount]]) [1, 0] (by decide) rfl
      replace R0 := H.ext
      refine LW.nil (jK90 _ _ ⟨_, ?_, ⟨(!r3), F, rfl, H⟩⟩)
      exact ⟨rfl, rfl, rfl, rfl, trivial⟩
set_option maxRecDepth 20000 in
set_option maxHeartbeats 1000000 in
theorem drain_Sum_ok {a0 : Net} {a1 : List Trail} {A_a0_drains : Option Addr} {c_a0_drains : Nat} {A_a1 : Option Addr} {c_a1 : Nat} {w : World} {res : (List Int) × Int} (h_a0_drains : Sl w A_a0_drains c_a0_drains 3 (a0.drains.map encDrain)) (h_a1 : SlT w A_a1 c_a1 2 encTrail (fun x => x.drains) 1 encN a1) (F : drain_Sum a0 a1 = some res) : Calls Try.prog 38 #[.agg #[.int .i64 a0.nodes, .int .i64 a0.from_, .int .i64 a0.to_, .slice A_a0_drains a0.drains.length c_a0_drains], .slice A_a1 a1.length c_a1] w (fun e w' => ∃ (A1 : Option Addr) (c1 : Nat), e = .returned (.tuple #[.slice A1 res.1.length c1, .int .i64 res.2]) ∧ Hp w w' [.own A1 c1 3 1 (List.map encN res.1)]) := by
  refine calls_of_cw (args := [.agg #[.int .i64 a0.nodes, .int .i64 a0.from_, .int .i64 a0.to_, .slice A_a0_drains a0.drains.length c_a0_drains], .slice A_a1 a1.length c_a1]) Try.func38 rfl rfl rfl rfl ?_
  have H := Hp.start w
  have R0 := H.ext
  unfold drain_Sum at F
  refine CW.seq fun K1 hK1 => ?_
  refine CW.region ?_
  refine LW.go rfl rfl (OW.box rfl fun b1 w1 N1 => ?_)
  replace H := H.new N1 N1.blk
  replace R0 := H.ext
  refine LW.pure rfl rfl (RV.assign rfl) ?_
  refine LW.pure rfl rfl (RV.assign rfl) ?_
  refine LW.nil (hK1 _ _ ?_)
  refine CW.seq fun K2 hK2 => ?_
  refine CW.seq fun K3 hK3 => ?_
  obtain ⟨r2, hr2, F⟩ := bnd_some F
  refine CW.region ?_
  refine LW.pure rfl rfl (RV.loadA [.int .i64 a0.nodes, .int .i64 a0.from_, .int .i64 a0.to_, .slice A_a0_drains a0.drains.length c_a0_drains] Tk24 rfl (H.blk 0 rfl).cells rfl rfl) ?_
  refine LW.go rfl rfl (OW.call Tc26 rfl (drain_Validate_ok (a0 := a0) (h_a0_drains.ext R0) hr2) ?_)
  rintro _ w2 ⟨rfl, E1⟩
  refine ⟨_, rfl, ?_⟩
  replace H := H.grow E1
  replace R0 := H.ext
  refine LW.pure rfl rfl (RV.assign rfl) ?_
  refine LW.nil (hK3 _ _ ?_)
  refine CW.seq fun K4 hK4 => ?_
  refine CW.region ?_
  refine LW.pure rfl rfl (RV.move rfl) ?_
  refine LW.pure rfl rfl (RV.nei rfl rfl) ?_
  refine LW.nil (hK4 _ _ ?_)
  by_cases hp1 : r2 = 0
  ·
    replace F := ite_y hp1 F
    have hq1 := dec_t hp1
    refine CW.condF rfl (not_f hq1) ?_
    refine CW.skip (hK2 _ _ ?_)
    refine CW.seq fun K5 hK5 => ?_
    refine CW.seq fun K6 hK6 => ?_
    refine CW.region ?_
    refine LW.pure rfl rfl (RV.move rfl) ?_
    refine LW.pure rfl rfl (RV.len Ts45 rfl) ?_
    refine LW.pure rfl rfl (RV.gtr rfl rfl) ?_
    refine LW.nil (hK6 _ _ ?_)
    by_cases hp2 : (40 : Int) < ((a1.length : Int))
    ·
      replace F := ite_y hp2 F
      have hq2 := dec_t hp2
      refine CW.condT rfl hq2 ?_
      refine CW.seq fun K7 hK7 => ?_
      refine CW.region ?_
      refine LW.pure rfl rfl (RV.assign rfl) ?_
      refine LW.pure rfl rfl (RV.assign rfl) ?_
      refine LW.nil (hK7 _ _ ?_)
      refine CW.ret ?_
      obtain rfl := Option.some.inj F
      refine ⟨_, (ResOK.two rfl rfl), ?_⟩
      replace H := H.nilOwn 3 1
      replace R0 := H.ext
      replace H := H.pick (L' := [.own none 0 3 1 (List.map encN (([] : List Int)))]) [0] (by decide) rfl
      replace R0 := H.ext
      exact ⟨none, 0, (by first | rfl | (simp; done) | (simp; omega)), H⟩
    ·
      replace F := ite_n hp2 F
      have hq2 := dec_f hp2
      refine CW.condF rfl hq2 ?_
      refine CW.skip (hK5 _ _ ?_)
      refine CW.seq fun K8 hK8 => ?_
      obtain ⟨hg1, F⟩ := gd_some F
      refine CW.region ?_
      refine LW.pure rfl rfl (RV.fieldAddr Tf24_3 rfl) ?_
      refine LW.pure rfl rfl (RV.load1 Tk22 rfl ((H.blk 0 rfl).cells.off 3) rfl) ?_
      refine LW.pure rfl rfl (RV.len Ts22 rfl) ?_
      refine LW.go rfl rfl (OW.makeR (enc := encN) (0 : Int) Ts30 rfl rfl rfl rfl rfl hg1 (by decide) fun b2 w3 N2 => ?_)
      replace H := H.made' (k := 1) (t := 3) (enc := encN) (l := (List.replicate (Int.toNat ((a0.drains.length : Int))) (0 : Int))) N2 N2.blk (fun _ => rfl) rfl (by first | decide | omega | (simp; done) | (simp; omega))
      replace R0 := H.ext
      refine LW.pure rfl rfl (RV.assign rfl) ?_
      refine LW.nil (hK8 _ _ ?_)
      refine CW.seqJ (fun ρ wl1 => (∃ (l1 : List Int), drain_Sum_k1 l1 = some res ∧ ρ = [(4, .slice none 0 0), (5, .int .i64 0), (7, .slice (some ⟨b2, 0, none⟩) l1.length (((List.replicate (Int.toNat ((a0.drains.length : Int))) (0 : Int))).length))] ∧ Hp w wl1 [.own (some ⟨b2, 0, none⟩) (((List.replicate (Int.toNat ((a0.drains.length : Int))) (0 : Int))).length) 3 1 (List.map encN l1)])) ?_ ?_
      ·
        rintro _ wl1 ⟨l1, F, rfl, H⟩
        have R0 := H.ext
        unfold drain_Sum_k1 at F
        refine CW.seq fun K9 hK9 => ?_
        refine CW.region ?_
        refine LW.pure rfl rfl (RV.move rfl) ?_
        refine LW.pure rfl rfl (RV.assign rfl) ?_
        refine LW.pure rfl rfl (RV.assign rfl) ?_
        refine LW.nil (hK9 _ _ ?_)
        refine CW.ret ?_
        obtain rfl := Option.some.inj F
        refine ⟨_, (ResOK.two rfl rfl), ?_⟩
        exact ⟨(some ⟨b2, 0, none⟩), (((List.replicate (Int.toNat ((a0.drains.length : Int))) (0 : Int))).length), (by first | rfl | (simp; done) | (simp; omega)), H⟩
      ·
        intro K10 hK10 jK357
        refine CW.seq fun K11 hK11 => ?_
        refine CW.region ?_
        refine LW.pure rfl rfl (RV.move rfl) ?_
        refine LW.pure rfl rfl (RV.len Ts45 rfl) ?_
        refine LW.pure rfl rfl (RV.move rfl) ?_
        refine LW.nil (hK11 _ _ ?_)
        refine CW.block ?_
        refine CW.loop (fun meas ρ wl2 => ∃ (t26_1 : Int) (l4 : List Int), drain_Sum_L2 a0 a1 meas t26_1 l4 = some res ∧ ρ = [(2, .pointer (some (⟨b1, 0, none⟩))), (4, .slice none 0 0), (5, .int .i64 0), (7, .slice (some ⟨b2, 0, none⟩) l4.length (((List.replicate (Int.toNat ((a0.drains.length : Int))) (0 : Int))).length)), (24, .slice A_a1 a1.length c_a1), (25, .int .i64 ((a1.length : Int))), (26, .int .i64 t26_1)] ∧ Hp w wl2 [.own (some ⟨b2, 0, none⟩) (((List.replicate (Int.toNat ((a0.drains.length : Int))) (0 : Int))).length) 3 1 (List.map encN l4), .blk b1 24 [.int .i64 a0.nodes, .int .i64 a0.from_, .int .i64 a0.to_, .slice A_a0_drains a0.drains.length c_a0_drains]]) FU ⟨_, ?_, ((0 : Int)), ((List.replicate (Int.toNat ((a0.drains.length : Int))) (0 : Int))), F, rfl, H⟩ ?_
        · exact ⟨rfl, rfl, rfl, (look_slice rfl (by first | rfl | (simp; done) | (simp; omega))), rfl, rfl, rfl, trivial⟩
        rintro mk1 _ wl2 ⟨t26_1, l4, F, rfl, H⟩
        have R0 := H.ext
        replace F := drain_Sum_L2_s F
        obtain ⟨mk1, rfl, F⟩ := F
        generalize hrec1 : drain_Sum_L2 a0 a1 mk1 = rec1 at F
        unfold drain_Sum_B2 at F
        refine CW.seq fun K12 hK12 => ?_
        refine CW.region ?_
        refine LW.pure rfl rfl (RV.lss rfl rfl) ?_
        refine LW.nil (hK12 _ _ ?_)
        refine CW.seq fun K13 hK13 => ?_
        by_cases hp3 : t26_1 < ((a1.length : Int))
        ·
          replace F := ite_y hp3 F
          have hq3 := dec_t hp3
          refine CW.condT rfl hq3 ?_
          refine CW.skip (hK13 _ _ ?_)
          refine CW.seqJ (fun ρ wl3 => (∃ (l2 : List Int), drain_Sum_k2 t26_1 rec1 l2 = some res ∧ ρ = [(2, .pointer (some (⟨b1, 0, none⟩))), (4, .slice none 0 0), (5, .int .i64 0), (7, .slice (some ⟨b2, 0, none⟩) l2.length (((List.replicate (Int.toNat ((a0.drains.length : Int))) (0 : Int))).length)), (24, .slice A_a1 a1.length c_a1), (25, .int .i64 ((a1.length : Int))), (26, .int .i64 t26_1)] ∧ Hp w wl3 [.own (some ⟨b2, 0, none⟩) (((List.replicate (Int.toNat ((a0.drains.length : Int))) (0 : Int))).length) 3 1 (List.map encN l2), .blk b1 24 [.int .i64 a0.nodes, .int .i64 a0.from_, .int .i64 a0.to_, .slice A_a0_drains a0.drains.length c_a0_drains]])) ?_ ?_
          ·
            rintro _ wl3 ⟨l2, F, rfl, H⟩
            have R0 := H.ext
            unfold drain_Sum_k2 at F
            obtain ⟨hg2, F⟩ := gd_some F
            refine CW.region ?_
            refine LW.pure rfl rfl (RV.add rfl rfl hg2) ?_
            refine LW.pure rfl rfl (RV.move rfl) ?_
            refine LW.nil ?_
            subst hrec1
            refine ⟨mk1, Nat.lt_succ_self _, _, ?_, (t26_1 + 1), l2, F, rfl, H⟩
            exact ⟨rfl, rfl, rfl, (look_slice rfl (by first | rfl | (simp; done) | (simp; omega))), rfl, rfl, rfl, trivial⟩
          ·
            intro K14 hK14 jK452
            refine CW.block ?_
            refine CW.seq fun K15 hK15 => ?_
            obtain ⟨x1, hbx1, hx1, F⟩ := ix_some F
            refine CW.region ?_
            obtain ⟨A2, c2, hC1, hS1⟩ := h_a1.at_ hx1
            refine LW.pure rfl rfl (RV.indexAddr Ts45 rfl rfl hbx1 (h_a1.addr hbx1)) ?_
            refine LW.pure rfl rfl (RV.loadA [.slice A2 x1.drains.length c2, .int .i64 x1.amount] Tk79 rfl (hC1.ext R0) rfl rfl) ?_
            refine LW.go rfl rfl (OW.alloc Tz79 fun b3 w4 N3 => ?_)
            replace H := H.new N3 N3.blk
            replace R0 := H.ext
            refine LW.go rfl rfl (OW.store Tk79 rfl rfl (H.blk 0 rfl) (off := 0) (vs := [.slice A2 x1.drains.length c2, .int .i64 x1.amount]) rfl rfl rfl rfl rfl fun w5 S1 => ?_)
            replace H : Hp w w5 [.blk b3 79 [.slice A2 x1.drains.length c2, .int .i64 x1.amount], .own (some ⟨b2, 0, none⟩) (((List.replicate (Int.toNat ((a0.drains.length : Int))) (0 : Int))).length) 3 1 (List.map encN l4), .blk b1 24 [.int .i64 a0.nodes, .int .i64 a0.from_, .int .i64 a0.to_, .slice A_a0_drains a0.drains.length c_a0_drains]] := H.stored 0 rfl S1
            replace R0 := H.ext
            refine LW.nil (hK15 _ _ ?_)
            refine CW.seq fun K16 hK16 => ?_
            refine CW.seq fun K17 hK17 => ?_
            obtain ⟨r1, hr1, F⟩ := bnd_some F
            refine CW.region ?_
            refine LW.pure rfl rfl (RV.loadA [.int .i64 a0.nodes, .int .i64 a0.from_, .int .i64 a0.to_, .slice A_a0_drains a0.drains.length c_a0_drains] Tk24 rfl (H.blk 2 rfl).cells rfl rfl) ?_
            refine LW.pure rfl rfl (RV.loadA [.slice A2 x1.drains.length c2, .int .i64 x1.amount] Tk79 rfl (H.blk 0 rfl).cells rfl rfl) ?_
            refine LW.go rfl rfl (OW.call Tc77 rfl (drain_isTrail_ok (a0 := a0) (a1 := x1) (h_a0_drains.ext R0) (hS1.ext R0) hr1) ?_)
            rintro _ w6 ⟨rfl, E2⟩
            refine ⟨_, rfl, ?_⟩
            replace H := H.grow E2
            replace R0 := H.ext
            refine LW.pure rfl rfl (RV.not rfl) ?_
            refine LW.nil (hK17 _ _ ?_)
            by_cases hp4 : r1 = true
            ·
              replace F := ite_y hp4 F
              have hq4 : r1 = true := hp4
              refine CW.condF rfl (not_f hq4) ?_
              refine CW.skip (hK16 _ _ ?_)
              refine CW.seq fun K18 hK18 => ?_
              refine CW.region ?_
              refine LW.pure rfl rfl (RV.fieldAddr Tf79_0 rfl) ?_
              refine LW.pure rfl rfl (RV.load1 Tk30 rfl ((H.blk 0 rfl).cells.off 0) rfl) ?_
              refine LW.pure rfl rfl (RV.len Ts30 rfl) ?_
              refine LW.pure rfl rfl (RV.move rfl) ?_
              refine LW.nil (hK18 _ _ ?_)
              refine CW.block ?_
              replace H := H.pick (L' := [.own (some ⟨b2, 0, none⟩) (((List.replicate (Int.toNat ((a0.drains.length : Int))) (0 : Int))).length) 3 1 (List.map encN l4), .blk b1 24 [.int .i64 a0.nodes, .int .i64 a0.from_, .int .i64 a0.to_, .slice A_a0_drains a0.drains.length c_a0_drains], .blk b3 79 [.slice A2 x1.drains.length c2, .int .i64 x1.amount]]) [1, 2, 0] (by decide) rfl
              replace R0 := H.ext
              refine CW.loop (fun meas ρ wl4 => ∃ (t37_1 : Int) (l3 : List Int), drain_Sum_L1 t26_1 rec1 x1 meas t37_1 l3 = some res ∧ ρ = [(2, .pointer (some (⟨b1, 0, none⟩))), (4, .slice none 0 0), (5, .int .i64 0), (7, .slice (some ⟨b2, 0, none⟩) l3.length (((List.replicate (Int.toNat ((a0.drains.length : Int))) (0 : Int))).length)), (9, .pointer (some (⟨b3, 0, none⟩))), (24, .slice A_a1 a1.length c_a1), (25, .int .i64 ((a1.length : Int))), (26, .int .i64 t26_1), (35, .slice A2 x1.drains.length c2), (36, .int .i64 ((x1.drains.length : Int))), (37, .int .i64 t37_1)] ∧ Hp w wl4 [.own (some ⟨b2, 0, none⟩) (((List.replicate (Int.toNat ((a0.drains.length : Int))) (0 : Int))).length) 3 1 (List.map encN l3), .blk b1 24 [.int .i64 a0.nodes, .int .i64 a0.from_, .int .i64 a0.to_, .slice A_a0_drains a0.drains.length c_a0_drains], .blk b3 79 [.slice A2 x1.drains.length c2, .int .i64 x1.amount]]) FU ⟨_, ?_, ((0 : Int)), l4, F, rfl, H⟩ ?_
              · exact ⟨rfl, rfl, rfl, (look_slice rfl (by first | rfl | (simp; done) | (simp; omega))), rfl, rfl, rfl, rfl, rfl, rfl, rfl, trivial⟩
              rintro mk2 _ wl4 ⟨t37_1, l3, F, rfl, H⟩
              have R0 := H.ext
              replace F := drain_Sum_L1_s F
              obtain ⟨mk2, rfl, F⟩ := F
              generalize hrec2 : drain_Sum_L1 t26_1 rec1 x1 mk2 = rec2 at F
              unfold drain_Sum_B1 at F
              refine CW.seq fun K19 hK19 => ?_
              refine CW.region ?_
              refine LW.pure rfl rfl (RV.lss rfl rfl) ?_
              refine LW.nil (hK19 _ _ ?_)
              refine CW.seq fun K20 hK20 => ?_
              by_cases hp5 : t37_1 < ((x1.drains.length : Int))
              ·
                replace F := ite_y hp5 F
                have hq5 := dec_t hp5
                refine CW.condT rfl hq5 ?_
                refine CW.skip (hK20 _ _ ?_)
                refine CW.seq fun K21 hK21 => ?_
                refine CW.block ?_
                refine CW.seq fun K22 hK22 => ?_
                obtain ⟨x2, hbx2, hx2, F⟩ := ix_some F
                refine CW.region ?_
                refine LW.pure rfl rfl (RV.indexAddr Ts30 rfl rfl hbx2 (hS1.addr_ hx2)) ?_
                refine LW.pure rfl rfl (RV.load1 Tk3 rfl ((hS1.at_ hx2).ext R0) rfl) ?_
                refine LW.pure rfl rfl (RV.assign rfl) ?_
                refine LW.nil (hK22 _ _ ?_)
                obtain ⟨x3, hbx3, hx3, F⟩ := ix_some F
                obtain ⟨hg3, F⟩ := gd_some F
                obtain ⟨x4, hbx4, hx4, F⟩ := ix_some F
                refine CW.draw [8] (fun _ => True) (.cons 0 1 (.cons 1 1 (.cons 2 1 (.cons 3 1 (.cons 4 1 (.cons 5 1 (.cons 6 1 (.cons 7 1 (.cons 8 0 .nil))))))))) mixed (by kernel_rfl) fun w7 E3 => ?_
                replace H := H.grow E3
                replace R0 := H.ext
                refine DW.fix rfl rfl rfl (fun _ EQ => RV.move rfl) ?_
                refine DW.fix rfl rfl rfl (fun _ EQ => RV.move rfl) ?_
                refine DW.fix rfl rfl rfl (fun _ EQ => RV.indexAddr Ts30 rfl rfl hbx3 ⟨_, rfl⟩) ?_
                refine DW.fix rfl rfl rfl (fun _ EQ => RV.load1 Tk3 rfl (((H.grow EQ).own 0 rfl).sl.at_ hx3) rfl) ?_
                refine DW.fix rfl rfl rfl (fun _ EQ => RV.fieldAddr Tf79_1 rfl) ?_
                refine DW.fix rfl rfl rfl (fun _ EQ => RV.load1 Tk3 rfl (((H.grow EQ).blk 2 rfl).cells.off 1) rfl) ?_
                refine DW.fix rfl rfl rfl (fun _ EQ => RV.add rfl rfl hg3) ?_
                refine DW.fix rfl rfl rfl (fun _ EQ => RV.indexAddr Ts30 rfl rfl hbx4 ⟨_, rfl⟩) ?_
                refine DW.sole rfl rfl rfl (OW.storeO (enc := encN) (vs := [.int .i64 (x3 + x1.amount)]) 0 (x3 + x1.amount) Tk3 rfl rfl (H.own 0 rfl) (fun _ => rfl) rfl hx4 rfl rfl (by decide) rfl rfl fun w8 M1 O1 => ?_)
                refine ⟨fun h => absurd h (by decide), M1.modx (fun _ _ => trivial), ?_⟩
                replace H : Hp w w8 [.own (some ⟨b2, 0, none⟩) (((List.replicate (Int.toNat ((a0.drains.length : Int))) (0 : Int))).length) 3 1 (List.map encN ((l3.set (Int.toNat x2) (x3 + x1.amount)))), .blk b1 24 [.int .i64 a0.nodes, .int .i64 a0.from_, .int .i64 a0.to_, .slice A_a0_drains a0.drains.length c_a0_drains], .blk b3 79 [.slice A2 x1.drains.length c2, .int .i64 x1.amount]] := H.mod 0 rfl M1 O1 (.inl rfl)
                replace R0 := H.ext
                refine DW.nil (hK21 _ _ ?_)
                obtain ⟨hg4, F⟩ := gd_some F
                refine CW.region ?_
                refine LW.pure rfl rfl (RV.add rfl rfl hg4) ?_
                refine LW.pure rfl rfl (RV.move rfl) ?_
                refine LW.nil ?_
                subst hrec2
                refine ⟨mk2, Nat.lt_succ_self _, _, ?_, (t37_1 + 1), ((l3.set (Int.toNat x2) (x3 + x1.amount))), F, rfl, H⟩
                exact ⟨rfl, rfl, rfl, (look_slice rfl (by first | rfl | (simp; done) | (simp; omega))), rfl, rfl, rfl, rfl, rfl, rfl, rfl, trivial⟩
              ·
                replace F := ite_n hp5 F
                have hq5 := dec_f hp5
                refine CW.condF rfl hq5 ?_
                replace H := H.pick (L' := [.own (some ⟨b2, 0, none⟩) (((List.replicate (Int.toNat ((a0.drains.length : Int))) (0 : Int))).length) 3 1 (List.map encN l3), .blk b1 24 [.int .i64 a0.nodes, .int .i64 a0.from_, .int .i64 a0.to_, .slice A_a0_drains a0.drains.length c_a0_drains]]) [0, 1] (by decide) rfl
                replace R0 := H.ext
                refine CW.exit (jK452 _ _ ⟨_, ?_, ⟨l3, F, rfl, H⟩⟩)
                exact ⟨rfl, rfl, rfl, (look_slice rfl (by first | rfl | (simp; done) | (simp; omega))), rfl, rfl, rfl, trivial⟩
            ·
              replace F := ite_n hp4 F
              have hq4 : r1 = false := raw_f hp4
              refine CW.condT rfl (not_t hq4) ?_
              refine CW.seq fun K23 hK23 => ?_
              refine CW.region ?_
              refine LW.pure rfl rfl (RV.assign rfl) ?_
              refine LW.pure rfl rfl (RV.assign rfl) ?_
              refine LW.nil (hK23 _ _ ?_)
              refine CW.ret ?_
              obtain rfl := Option.some.inj F
              refine ⟨_, (ResOK.two rfl rfl), ?_⟩
              replace H := H.nilOwn 3 1
              replace R0 := H.ext
              replace H := H.pick (L' := [.own none 0 3 1 (List.map encN (([] : List Int)))]) [0] (by decide) rfl
              replace R0 := H.ext
              exact ⟨none, 0, (by first | rfl | (simp; done) | (simp; omega)), H⟩
        ·
          replace F := ite_n hp3 F
          have hq3 := dec_f hp3
          refine CW.condF rfl hq3 ?_
          replace H := H.pick (L' := [.own (some ⟨b2, 0, none⟩) (((List.replicate (Int.toNat ((a0.drains.length : Int))) (0 : Int))).length) 3 1 (List.map encN l4)]) [0] (by decide) rfl
          replace R0 := H.ext
          refine CW.exit (jK357 _ _ ⟨_, ?_, ⟨l4, F, rfl, H⟩⟩)
          exact ⟨rfl, rfl, (look_slice rfl (by first | rfl | (simp; done) | (simp; omega))), trivial⟩
  ·
    replace F := ite_n hp1 F
    have hq1 := dec_f hp1
    refine CW.condT rfl (not_t hq1) ?_
    refine CW.seq fun K24 hK24 => ?_
    refine CW.region ?_
    refine LW.pure rfl rfl (RV.move rfl) ?_
    refine LW.pure rfl rfl (RV.assign rfl) ?_
    refine LW.pure rfl rfl (RV.assign rfl) ?_
    refine LW.nil (hK24 _ _ ?_)
    refine CW.ret ?_
    obtain rfl := Option.some.inj F
    refine ⟨_, (ResOK.two rfl rfl), ?_⟩
    replace H := H.nilOwn 3 1
    replace R0 := H.ext
    replace H := H.pick (L' := [.own none 0 3 1 (List.map encN (([] : List Int)))]) [0] (by decide) rfl
    replace R0 := H.ext
    exact ⟨none, 0, (by first | rfl | (simp; done) | (simp; omega)), H⟩
end Go.D2

set_option linter.unusedVariables false
set_option linter.unusedSimpArgs false
namespace Go.D2
open Go.Tb Go.Proofs Go.RowKit
theorem Tc38 : callable Try.prog 38 = true := by kernel_rfl
end Go.D2

set_option linter.unusedVariables false
set_option linter.unusedSimpArgs false
namespace Go.D2
open Go.Tb Go.Proofs Go.RowKit
theorem Tc86 : callable Try.prog 86 = true := by kernel_rfl
theorem Tc87 : callable Try.prog 87 = true := by kernel_rfl
theorem Tc88 : callable Try.prog 88 = true := by kernel_rfl
theorem Tc89 : callable Try.prog 89 = true := by kernel_rfl
set_option maxRecDepth 20000 in
set_option maxHeartbeats 1000000 in
theorem drain_trail_ok {a0 : Net} {a1 : List Int} {a2 : Int} {a3 : Int} {a4 : Int} {A_a0_drains : Option Addr} {c_a0_drains : Nat} {A_a1 : Option Addr} {c_a1 : Nat} {wb : World} {R : List Ck} {w : World} {res : Trail × (List Int)} (h_a0_drains : Sl wb A_a0_drains c_a0_drains 3 (a0.drains.map encDrain)) (H : Hp wb w ([.own A_a1 c_a1 3 1 (List.map encN a1)] ++ R)) (F : drain_trail a0 a1 a2 a3 a4 = some res) : Calls Try.prog 87 #[.agg #[.int .i64 a0.nodes, .int .i64 a0.from_, .int .i64 a0.to_, .slice A_a0_drains a0.drains.length c_a0_drains], .slice A_a1 a1.length c_a1, .int .i64 a2, .int .i64 a3, .int .i64 a4] w (fun e w' => ∃ (A0_drains : Option Addr) (c0_drains : Nat), e = .returned (.agg #[.slice A0_drains res.1.drains.length c0_drains, .int .i64 res.1.amount]) ∧ res.2.length = a1.length ∧ Hp wb w' ([.own A_a1 c_a1 3 1 (List.map encN res.2), .own A0_drains c0_drains 3 1 (List.map encN res.1.drains)] ++ R)) := by
  refine calls_of_cw (args := [.agg #[.int .i64 a0.nodes, .int .i64 a0.from_, .int .i64 a0.to_, .slice A_a0_drains a0.drains.length c_a0_drains], .slice A_a1 a1.length c_a1, .int .i64 a2, .int .i64 a3, .int .i64 a4]) Try.func87 rfl rfl rfl rfl ?_
  have R0 := H.ext
  unfold drain_trail at F
  refine CW.seq fun K1 hK1 => ?_
  refine CW.region ?_
  refine LW.go rfl rfl (OW.box rfl fun b1 w1 N1 => ?_)
  replace H := H.new N1 N1.blk
  replace R0 := H.ext
  refine LW.go rfl rfl (OW.alloc Tz79 fun b2 w2 N2 => ?_)
  replace H := H.new N2 N2.blk
  replace R0 := H.ext
  refine LW.nil (hK1 _ _ ?_)
  refine CW.seq fun K2 hK2 => ?_
  refine CW.region ?_
  refine LW.pure rfl rfl (RV.move rfl) ?_
  refine LW.go rfl rfl (OW.buildSlice (e := 3) (vs := [.int .i64 a2]) (cs := [.int .i64 a2]) rfl (fun _ => by kernel_rfl) fun b3 w3 N3 => ?_)
  replace H := H.made' (k := 1) (t := 3) (enc := encN) (l := ([a2] : List Int)) N3 N3.blk (fun _ => rfl) rfl (by first | decide | omega | (simp; done) | (simp; omega))
  replace R0 := H.ext
  refine LW.pure rfl rfl (RV.assign rfl) ?_
  refine LW.pure rfl rfl (RV.assign rfl) ?_
  refine LW.nil (hK2 _ _ ?_)
  refine CW.seqJ (fun ρ wl1 => (∃ (t4_1 : Int) (l1 : List Int) (lo1 : Nat) (Al1 : Option Addr) (cl1 : Nat), drain_trail_k3 a1 t4_1 l1 lo1 = some res ∧ ρ = [(1, .slice A_a1 a1.length c_a1), (4, .int .i64 t4_1), (10, .pointer (some (⟨b2, 0, none⟩))), (12, .slice ((cutA Al1 cl1 1 lo1)) ((List.drop lo1 l1).length) ((cl1 - lo1)))] ∧ Hp wb wl1 ([.own A_a1 c_a1 3 1 (List.map encN a1), .own Al1 cl1 3 1 (List.map encN l1), .blk b2 79 [.slice none 0 0, .int .i64 0]] ++ R) ∧ lo1 ≤ l1.length)) ?_ ?_
  ·
    rintro _ wl1 ⟨t4_1, l1, lo1, Al1, cl1, F, rfl, H, hlo1⟩
    have R0 := H.ext
    unfold drain_trail_k3 at F
    refine CW.seq fun K3 hK3 => ?_
    refine CW.region ?_
    refine LW.pure rfl rfl (RV.move rfl) ?_
    refine LW.pure rfl rfl (RV.assign rfl) ?_
    refine LW.nil (hK3 _ _ ?_)
    refine CW.seqJ (fun ρ wl2 => (∃ (t15_1 : Int), drain_trail_k2 a1 l1 lo1 t15_1 = some res ∧ ρ = [(1, .slice A_a1 a1.length c_a1), (10, .pointer (some (⟨b2, 0, none⟩))), (12, .slice ((cutA Al1 cl1 1 lo1)) ((List.drop lo1 l1).length) ((cl1 - lo1))), (15, .int .i64 t15_1)] ∧ Hp wb wl2 ([.own A_a1 c_a1 3 1 (List.map encN a1), .own Al1 cl1 3 1 (List.map encN l1), .blk b2 79 [.slice none 0 0, .int .i64 0]] ++ R))) ?_ ?_
    ·
      rintro _ wl2 ⟨t15_1, F, rfl, H⟩
      have R0 := H.ext
      unfold drain_trail_k2 at F
      refine CW.seqJ (fun ρ wl3 => (∃ (l2 : List Int), drain_trail_k1 l1 lo1 t15_1 l2 = some res ∧ ρ = [(10, .pointer (some (⟨b2, 0, none⟩))), (12, .slice ((cutA Al1 cl1 1 lo1)) ((List.drop lo1 l1).length) ((cl1 - lo1))), (15, .int .i64 t15_1)] ∧ Hp wb wl3 ([.own Al1 cl1 3 1 (List.map encN l1), .own A_a1 c_a1 3 1 (List.map encN l2), .blk b2 79 [.slice none 0 0, .int .i64 0]] ++ R) ∧ l2.length = a1.length)) ?_ ?_
      ·
        rintro _ wl3 ⟨l2, F, rfl, H, hl1⟩
        have R0 := H.ext
        unfold drain_trail_k1 at F
        refine CW.seq fun K4 hK4 => ?_
        obtain ⟨r1, hr1, F⟩ := bnd_some F
        refine CW.region ?_
        refine LW.pure rfl rfl (RV.move rfl) ?_
        refine LW.go rfl rfl (OW.call Tc86 rfl (slices_Clone_int_ok (a0 := (List.drop lo1 l1)) ((H.own 0 rfl).sl.cutN hlo1) hr1) ?_)
        rintro _ w4 ⟨A12_0, c12_0, rfl, E1⟩
        refine ⟨_, rfl, ?_⟩
        replace H : Hp wb w4 ([.own A12_0 c12_0 3 1 (List.map encN r1), .own Al1 cl1 3 1 (List.map encN l1), .own A_a1 c_a1 3 1 (List.map encN l2), .blk b2 79 [.slice none 0 0, .int .i64 0]] ++ R) := H.append E1
        replace R0 := H.ext
        refine LW.pure rfl rfl (RV.move rfl) ?_
        refine LW.pure rfl rfl (RV.build (vs := [.slice A12_0 r1.length c12_0, .int .i64 t15_1]) (cs := [.slice A12_0 r1.length c12_0, .int .i64 t15_1]) rfl (fun _ => by kernel_rfl)) ?_
        refine LW.go rfl rfl (OW.store Tk79 rfl rfl (H.blk 3 rfl) (off := 0) (vs := [.slice A12_0 r1.length c12_0, .int .i64 t15_1]) rfl rfl rfl rfl rfl fun w5 S1 => ?_)
        replace H : Hp wb w5 ([.own A12_0 c12_0 3 1 (List.map encN r1), .own Al1 cl1 3 1 (List.map encN l1), .own A_a1 c_a1 3 1 (List.map encN l2), .blk b2 79 [.slice A12_0 r1.length c12_0, .int .i64 t15_1]] ++ R) := H.stored 3 rfl S1
        replace R0 := H.ext
        refine LW.nil (hK4 _ _ ?_)
        refine CW.ret ?_
        obtain rfl := Option.some.inj F
        refine ⟨_, (ResOK.cell1 ⟨_, rfl, run_loadVar_agg Tk79 (H.blk 3 rfl).cells (us := [.slice A12_0 r1.length c12_0, .int .i64 t15_1]) rfl rfl⟩), ?_⟩
        replace H := H.pickR (C := [.own A12_0 c12_0 3 1 (List.map encN r1), .own Al1 cl1 3 1 (List.map encN l1), .own A_a1 c_a1 3 1 (List.map encN l2), .blk b2 79 [.slice A12_0 r1.length c12_0, .int .i64 t15_1]]) (C' := [.own A_a1 c_a1 3 1 (List.map encN l2), .own A12_0 c12_0 3 1 (List.map encN r1)]) [2, 0] (by decide) rfl
        replace R0 := H.ext
        exact ⟨A12_0, c12_0, (by first | rfl | (simp; done) | (simp; omega)), (by first | rfl | assumption | omega | (simp; done) | (simp; assumption) | (simp; omega)), H⟩
      ·
        intro K5 hK5 jK297
        refine CW.seq fun K6 hK6 => ?_
        refine CW.region ?_
        refine LW.pure rfl rfl (RV.move rfl) ?_
        refine LW.pure rfl rfl (RV.len Ts30 rfl) ?_
        refine LW.pure rfl rfl (RV.move rfl) ?_
        refine LW.nil (hK6 _ _ ?_)
        refine CW.block ?_
        refine CW.loop (fun meas ρ wl4 => ∃ (t85_1 : Int) (l3 : List Int), drain_trail_L1 l1 lo1 t15_1 meas t85_1 l3 = some res ∧ ρ = [(1, .slice A_a1 l3.length c_a1), (10, .pointer (some (⟨b2, 0, none⟩))), (12, .slice ((cutA Al1 cl1 1 lo1)) ((List.drop lo1 l1).length) ((cl1 - lo1))), (15, .int .i64 t15_1), (83, .slice ((cutA Al1 cl1 1 lo1)) ((List.drop lo1 l1).length) ((cl1 - lo1))), (84, .int .i64 (((List.drop lo1 l1).length : Int))), (85, .int .i64 t85_1)] ∧ Hp wb wl4 ([.own A_a1 c_a1 3 1 (List.map encN l3), .own Al1 cl1 3 1 (List.map encN l1), .blk b2 79 [.slice none 0 0, .int .i64 0]] ++ R) ∧ l3.length = a1.length) FU ⟨_, ?_, ((0 : Int)), a1, F, rfl, H, (show a1.length = a1.length by first | rfl | assumption | omega | (simp; done) | (simp; assumption) | (simp; omega))⟩ ?_
        · exact ⟨(look_slice rfl (by first | rfl | (simp; done) | omega | (simp; omega))), rfl, rfl, rfl, rfl, rfl, rfl, trivial⟩
        rintro mk1 _ wl4 ⟨t85_1, l3, F, rfl, H, hl2⟩
        have R0 := H.ext
        replace F := drain_trail_L1_s F
        obtain ⟨mk1, rfl, F⟩ := F
        generalize hrec1 : drain_trail_L1 l1 lo1 t15_1 mk1 = rec1 at F
        unfold drain_trail_B1 at F
        refine CW.seq fun K7 hK7 => ?_
        refine CW.region ?_
        refine LW.pure rfl rfl (RV.lss rfl rfl) ?_
        refine LW.nil (hK7 _ _ ?_)
        refine CW.seq fun K8 hK8 => ?_
        by_cases hp1 : t85_1 < (((List.drop lo1 l1).length : Int))
        ·
          replace F := ite_y hp1 F
          have hq1 := dec_t hp1
          refine CW.condT rfl hq1 ?_
          refine CW.skip (hK8 _ _ ?_)
          refine CW.seq fun K9 hK9 => ?_
          refine CW.block ?_
          refine CW.seq fun K10 hK10 => ?_
          obtain ⟨x1, hbx1, hx1, F⟩ := ix_some F
          refine CW.region ?_
          refine LW.pure rfl rfl (RV.indexAddr Ts30 rfl rfl hbx1 (((H.own 1 rfl).sl.cutN hlo1).addr_ hx1)) ?_
          refine LW.pure rfl rfl (RV.load1 Tk3 rfl (((H.own 1 rfl).sl.cutN hlo1).at_ hx1) rfl) ?_
          refine LW.pure rfl rfl (RV.assign rfl) ?_
          refine LW.nil (hK10 _ _ ?_)
          obtain ⟨x2, hbx2, hx2, F⟩ := ix_some F
          obtain ⟨hg1, F⟩ := gd_some F
          obtain ⟨x3, hbx3, hx3, F⟩ := ix_some F
          refine CW.region ?_
          refine LW.pure rfl rfl (RV.move rfl) ?_
          refine LW.pure rfl rfl (RV.move rfl) ?_
          refine LW.pure rfl rfl (RV.indexAddr Ts30 rfl rfl hbx2 ((H.own 0 rfl).sl.addr_ hx2)) ?_
          refine LW.pure rfl rfl (RV.load1 Tk3 rfl ((H.own 0 rfl).sl.at_ hx2) rfl) ?_
          refine LW.pure rfl rfl (RV.move rfl) ?_
          refine LW.pure rfl rfl (RV.sub rfl rfl hg1) ?_
          refine LW.pure rfl rfl (RV.indexAddr Ts30 rfl rfl hbx3 ((H.own 0 rfl).sl.addr_ hx3)) ?_
          refine LW.go rfl rfl (OW.storeO (enc := encN) (vs := [.int .i64 (x2 - t15_1)]) 0 (x2 - t15_1) Tk3 rfl rfl (H.own 0 rfl) (fun _ => rfl) rfl hx3 rfl rfl (by decide) rfl rfl fun w6 M1 O1 => ?_)
          replace H : Hp wb w6 ([.own A_a1 c_a1 3 1 (List.map encN ((l3.set (Int.toNat x1) (x2 - t15_1)))), .own Al1 cl1 3 1 (List.map encN l1), .blk b2 79 [.slice none 0 0, .int .i64 0]] ++ R) := H.mod 0 rfl M1 O1 (.inl rfl)
          replace R0 := H.ext
          refine LW.nil (hK9 _ _ ?_)
          obtain ⟨hg2, F⟩ := gd_some F
          refine CW.region ?_
          refine LW.pure rfl rfl (RV.add rfl rfl hg2) ?_
          refine LW.pure rfl rfl (RV.move rfl) ?_
          refine LW.nil ?_
          subst hrec1
          refine ⟨mk1, Nat.lt_succ_self _, _, ?_, (t85_1 + 1), ((l3.set (Int.toNat x1) (x2 - t15_1))), F, rfl, H, (show ((l3.set (Int.toNat x1) (x2 - t15_1))).length = a1.length by first | rfl | assumption | omega | (simp; done) | (simp; assumption) | (simp; omega))⟩
          exact ⟨(look_slice rfl (by first | rfl | (simp; done) | omega | (simp; omega))), rfl, rfl, rfl, rfl, rfl, rfl, trivial⟩
        ·
          replace F := ite_n hp1 F
          have hq1 := dec_f hp1
          refine CW.condF rfl hq1 ?_
          replace H := H.pickR (C := [.own A_a1 c_a1 3 1 (List.map encN l3), .own Al1 cl1 3 1 (List.map encN l1), .blk b2 79 [.slice none 0 0, .int .i64 0]]) (C' := [.own Al1 cl1 3 1 (List.map encN l1), .own A_a1 c_a1 3 1 (List.map encN l3), .blk b2 79 [.slice none 0 0, .int .i64 0]]) [1, 0, 2] (by decide) rfl
          replace R0 := H.ext
          refine CW.exit (jK297 _ _ ⟨_, ?_, ⟨l3, F, rfl, H, (show l3.length = a1.length by first | rfl | assumption | omega | (simp; done) | (simp; assumption) | (simp; omega))⟩⟩)
          exact ⟨rfl, rfl, rfl, trivial⟩
    ·
      intro K11 hK11 jK311
      refine CW.seq fun K12 hK12 => ?_
      refine CW.region ?_
      refine LW.pure rfl rfl (RV.move rfl) ?_
      refine LW.pure rfl rfl (RV.len Ts30 rfl) ?_
      refine LW.pure rfl rfl (RV.move rfl) ?_
      refine LW.nil (hK12 _ _ ?_)
      refine CW.block ?_
      refine CW.loop (fun meas ρ wl5 => ∃ (t15_2 : Int) (t72_1 : Int), drain_trail_L2 a1 l1 lo1 meas t15_2 t72_1 = some res ∧ ρ = [(1, .slice A_a1 a1.length c_a1), (10, .pointer (some (⟨b2, 0, none⟩))), (12, .slice ((cutA Al1 cl1 1 lo1)) ((List.drop lo1 l1).length) ((cl1 - lo1))), (15, .int .i64 t15_2), (70, .slice ((cutA Al1 cl1 1 lo1)) ((List.drop lo1 l1).length) ((cl1 - lo1))), (71, .int .i64 (((List.drop lo1 l1).length : Int))), (72, .int .i64 t72_1)] ∧ Hp wb wl5 ([.own A_a1 c_a1 3 1 (List.map encN a1), .own Al1 cl1 3 1 (List.map encN l1), .blk b2 79 [.slice none 0 0, .int .i64 0]] ++ R)) FU ⟨_, ?_, t4_1, ((0 : Int)), F, rfl, H⟩ ?_
      · exact ⟨(look_slice rfl (by first | rfl | (simp; done) | omega | (simp; omega))), rfl, rfl, rfl, rfl, rfl, rfl, trivial⟩
      rintro mk2 _ wl5 ⟨t15_2, t72_1, F, rfl, H⟩
      have R0 := H.ext
      replace F := drain_trail_L2_s F
      obtain ⟨mk2, rfl, F⟩ := F
      generalize hrec2 : drain_trail_L2 a1 l1 lo1 mk2 = rec2 at F
      unfold drain_trail_B2 at F
      refine CW.seq fun K13 hK13 => ?_
      refine CW.region ?_
      refine LW.pure rfl rfl (RV.lss rfl rfl) ?_
      refine LW.nil (hK13 _ _ ?_)
      refine CW.seq fun K14 hK14 => ?_
      by_cases hp2 : t72_1 < (((List.drop lo1 l1).length : Int))
      ·
        replace F := ite_y hp2 F
        have hq2 := dec_t hp2
        refine CW.condT rfl hq2 ?_
        refine CW.skip (hK14 _ _ ?_)
        refine CW.seq fun K15 hK15 => ?_
        refine CW.block ?_
        refine CW.seq fun K16 hK16 => ?_
        obtain ⟨x4, hbx4, hx4, F⟩ := ix_some F
        refine CW.region ?_
        refine LW.pure rfl rfl (RV.indexAddr Ts30 rfl rfl hbx4 (((H.own 1 rfl).sl.cutN hlo1).addr_ hx4)) ?_
        refine LW.pure rfl rfl (RV.load1 Tk3 rfl (((H.own 1 rfl).sl.cutN hlo1).at_ hx4) rfl) ?_
        refine LW.pure rfl rfl (RV.assign rfl) ?_
        refine LW.nil (hK16 _ _ ?_)
        obtain ⟨x5, hbx5, hx5, F⟩ := ix_some F
        refine CW.region ?_
        refine LW.pure rfl rfl (RV.move rfl) ?_
        refine LW.pure rfl rfl (RV.move rfl) ?_
        refine LW.pure rfl rfl (RV.move rfl) ?_
        refine LW.pure rfl rfl (RV.indexAddr Ts30 rfl rfl hbx5 ((H.own 0 rfl).sl.addr_ hx5)) ?_
        refine LW.pure rfl rfl (RV.load1 Tk3 rfl ((H.own 0 rfl).sl.at_ hx5) rfl) ?_
        refine LW.pure rfl rfl (RV.min2 rfl rfl) ?_
        refine LW.pure rfl rfl (RV.assign rfl) ?_
        refine LW.nil (hK15 _ _ ?_)
        obtain ⟨hg3, F⟩ := gd_some F
        refine CW.region ?_
        refine LW.pure rfl rfl (RV.add rfl rfl hg3) ?_
        refine LW.pure rfl rfl (RV.move rfl) ?_
        refine LW.nil ?_
        subst hrec2
        refine ⟨mk2, Nat.lt_succ_self _, _, ?_, (min t15_2 x5), (t72_1 + 1), F, rfl, H⟩
        exact ⟨(look_slice rfl (by first | rfl | (simp; done) | omega | (simp; omega))), rfl, rfl, rfl, rfl, rfl, rfl, trivial⟩
      ·
        replace F := ite_n hp2 F
        have hq2 := dec_f hp2
        refine CW.condF rfl hq2 ?_
        refine CW.exit (jK311 _ _ ⟨_, ?_, ⟨t15_2, F, rfl, H⟩⟩)
        exact ⟨(look_slice rfl (by first | rfl | (simp; done) | omega | (simp; omega))), rfl, rfl, rfl, trivial⟩
  ·
    intro K17 hK17 jK325
    refine CW.block ?_
    replace H := H.nilOwn 3 1
    replace R0 := H.ext
    replace H := H.pickR (C := [.own none 0 3 1 (List.map encN (([] : List Int))), .own (some ⟨b3, 0, none⟩) ((([a2] : List Int)).length) 3 1 (List.map encN (([a2] : List Int))), .blk b2 79 [.slice none 0 0, .int .i64 0], .blk b1 24 [.int .i64 a0.nodes, .int .i64 a0.from_, .int .i64 a0.to_, .slice A_a0_drains a0.drains.length c_a0_drains], .own A_a1 c_a1 3 1 (List.map encN a1)]) (C' := [.own A_a1 c_a1 3 1 (List.map encN a1), .own (some ⟨b3, 0, none⟩) ((([a2] : List Int)).length) 3 1 (List.map encN (([a2] : List Int))), .own none 0 3 1 (List.map encN (([] : List Int))), .blk b1 24 [.int .i64 a0.nodes, .int .i64 a0.from_, .int .i64 a0.to_, .slice A_a0_drains a0.drains.length c_a0_drains], .blk b2 79 [.slice none 0 0, .int .i64 0]]) [4, 1, 0, 3, 2] (by decide) rfl
    replace R0 := H.ext
    refine CW.loop (fun meas ρ wl6 => ∃ (t2_1 : Int) (l4 : List Int) (l5 : List Int) (Al4 : Option Addr) (cl4 : Nat) (Al5 : Option Addr) (cl5 : Nat), drain_trail_L4 a0 a1 a3 a4 meas t2_1 l4 l5 = some res ∧ ρ = [(1, .slice A_a1 a1.length c_a1), (2, .int .i64 t2_1), (3, .int .i64 a3), (4, .int .i64 a4), (5, .pointer (some (⟨b1, 0, none⟩))), (10, .pointer (some (⟨b2, 0, none⟩))), (11, .slice Al4 l4.length cl4), (12, .slice Al5 l5.length cl5)] ∧ Hp wb wl6 ([.own A_a1 c_a1 3 1 (List.map encN a1), .own Al4 cl4 3 1 (List.map encN l4), .own Al5 cl5 3 1 (List.map encN l5), .blk b1 24 [.int .i64 a0.nodes, .int .i64 a0.from_, .int .i64 a0.to_, .slice A_a0_drains a0.drains.length c_a0_drains], .blk b2 79 [.slice none 0 0, .int .i64 0]] ++ R)) FU ⟨_, ?_, a2, (([a2] : List Int)), (([] : List Int)), (some ⟨b3, 0, none⟩), ((([a2] : List Int)).length), none, 0, F, rfl, H⟩ ?_
    · exact ⟨(look_slice rfl (by first | rfl | (simp; done) | omega | (simp; omega))), rfl, rfl, rfl, rfl, rfl, (look_slice rfl (by first | rfl | (simp; done) | omega | (simp; omega))), (look_slice rfl (by first | rfl | (simp; done) | omega | (simp; omega))), trivial⟩
    rintro mk3 _ wl6 ⟨t2_1, l4, l5, Al4, cl4, Al5, cl5, F, rfl, H⟩
    have R0 := H.ext
    replace F := drain_trail_L4_s F
    obtain ⟨mk3, rfl, F⟩ := F
    generalize hrec3 : drain_trail_L4 a0 a1 a3 a4 mk3 = rec3 at F
    unfold drain_trail_B4 at F
    refine CW.seq fun K18 hK18 => ?_
    refine CW.seqJ (fun ρ wl7 => (∃ (t29_1 : Bool), drain_trail_k6 a0 a1 a4 t2_1 l4 l5 rec3 t29_1 = some res ∧ ρ = [(1, .slice A_a1 a1.length c_a1), (2, .int .i64 t2_1), (3, .int .i64 a3), (4, .int .i64 a4), (5, .pointer (some (⟨b1, 0, none⟩))), (10, .pointer (some (⟨b2, 0, none⟩))), (11, .slice Al4 l4.length cl4), (12, .slice Al5 l5.length cl5), (29, .bool t29_1)] ∧ Hp wb wl7 ([.own A_a1 c_a1 3 1 (List.map encN a1), .own Al4 cl4 3 1 (List.map encN l4), .own Al5 cl5 3 1 (List.map encN l5), .blk b1 24 [.int .i64 a0.nodes, .int .i64 a0.from_, .int .i64 a0.to_, .slice A_a0_drains a0.drains.length c_a0_drains], .blk b2 79 [.slice none 0 0, .int .i64 0]] ++ R))) ?_ ?_
    ·
      rintro _ wl7 ⟨t29_1, F, rfl, H⟩
      have R0 := H.ext
      unfold drain_trail_k6 at F
      by_cases hp3 : t29_1 = true
      ·
        replace F := ite_y hp3 F
        have hq3 : t29_1 = true := hp3
        refine CW.condT rfl hq3 ?_
        refine CW.skip (hK18 _ _ ?_)
        refine CW.block ?_
        refine CW.seq fun K19 hK19 => ?_
        refine CW.region ?_
        refine LW.pure rfl rfl (RV.assign rfl) ?_
        refine LW.nil (hK19 _ _ ?_)
        refine CW.seqJ (fun ρ wl8 => (∃ (t13_1 : Int), drain_trail_k4 a0 a1 l4 l5 rec3 t13_1 = some res ∧ ρ = [(1, .slice A_a1 a1.length c_a1), (2, .int .i64 t2_1), (3, .int .i64 a3), (4, .int .i64 a4), (5, .pointer (some (⟨b1, 0, none⟩))), (10, .pointer (some (⟨b2, 0, none⟩))), (11, .slice Al4 l4.length cl4), (12, .slice Al5 l5.length cl5), (13, .int .i64 t13_1)] ∧ Hp wb wl8 ([.own A_a1 c_a1 3 1 (List.map encN a1), .own Al4 cl4 3 1 (List.map encN l4), .own Al5 cl5 3 1 (List.map encN l5), .blk b1 24 [.int .i64 a0.nodes, .int .i64 a0.from_, .int .i64 a0.to_, .slice A_a0_drains a0.drains.length c_a0_drains], .blk b2 79 [.slice none 0 0, .int .i64 0]] ++ R))) ?_ ?_
        ·
          rintro _ wl8 ⟨t13_1, F, rfl, H⟩
          have R0 := H.ext
          unfold drain_trail_k4 at F
          refine CW.seq fun K20 hK20 => ?_
          obtain ⟨hg4, F⟩ := gd_some F
          refine CW.region ?_
          refine LW.pure rfl rfl (RV.move rfl) ?_
          refine LW.pure rfl rfl (RV.move rfl) ?_
          refine LW.go rfl rfl (OW.buildSlice (e := 3) (vs := [.int .i64 t13_1]) (cs := [.int .i64 t13_1]) rfl (fun _ => by kernel_rfl) fun b4 w7 N4 => ?_)
          replace H := H.made' (k := 1) (t := 3) (enc := encN) (l := ([t13_1] : List Int)) N4 N4.blk (fun _ => rfl) rfl (by first | decide | omega | (simp; done) | (simp; omega))
          replace R0 := H.ext
          refine LW.go rfl rfl (OW.appendG (enc := encN) (l := l5) (xs := ([t13_1] : List Int)) Ts30 rfl (look_slice rfl (by first | rfl | (simp; done) | (simp; omega))) (H.own 3 rfl) (H.own 0 rfl).sl (fun _ => rfl) rfl rfl hg4 (by decide) fun A1 c1 w8 O2 M2 D1 => ?_)
          replace H : Hp wb w8 ([.own (some ⟨b4, 0, none⟩) ((([t13_1] : List Int)).length) 3 1 (List.map encN (([t13_1] : List Int))), .own A_a1 c_a1 3 1 (List.map encN a1), .own Al4 cl4 3 1 (List.map encN l4), .own A1 c1 3 1 (List.map encN ((l5 ++ ([t13_1] : List Int)))), .blk b1 24 [.int .i64 a0.nodes, .int .i64 a0.from_, .int .i64 a0.to_, .slice A_a0_drains a0.drains.length c_a0_drains], .blk b2 79 [.slice none 0 0, .int .i64 0]] ++ R) := H.mod 3 rfl M2 O2 D1
          replace R0 := H.ext
          refine LW.pure rfl rfl (RV.assign rfl) ?_
          refine LW.nil (hK20 _ _ ?_)
          refine CW.seq fun K21 hK21 => ?_
          obtain ⟨x6, hbx6, hx6, F⟩ := ix_some F
          refine CW.region ?_
          refine LW.pure rfl rfl (RV.fieldAddr Tf24_3 rfl) ?_
          refine LW.pure rfl rfl (RV.load1 Tk22 rfl ((H.blk 4 rfl).cells.off 3) rfl) ?_
          refine LW.pure rfl rfl (RV.move rfl) ?_
          refine LW.pure rfl rfl (RV.indexAddr Ts22 rfl rfl hbx6 (h_a0_drains.addr_ hx6)) ?_
          refine LW.pure rfl rfl (RV.fieldAddr Tf52_1 rfl) ?_
          refine LW.pure rfl rfl (RV.load1 Tk3 rfl (((h_a0_drains.at_ hx6).ext R0).off 1) rfl) ?_
          refine LW.pure rfl rfl (RV.assign rfl) ?_
          refine LW.nil (hK21 _ _ ?_)
          refine CW.seq fun K22 hK22 => ?_
          refine CW.seq fun K23 hK23 => ?_
          obtain ⟨r2, hr2, F⟩ := bnd_some F
          refine CW.region ?_
          refine LW.pure rfl rfl (RV.move rfl) ?_
          refine LW.pure rfl rfl (RV.move rfl) ?_
          refine LW.go rfl rfl (OW.call Tc91 rfl (slices_Index_int_ok (a0 := l4) (a1 := x6.to_) (H.own 2 rfl).sl hr2) ?_)
          rintro _ w9 ⟨rfl, E2⟩
          refine ⟨_, rfl, ?_⟩
          replace H := H.grow E2
          replace R0 := H.ext
          refine LW.pure rfl rfl (RV.assign rfl) ?_
          refine LW.nil (hK23 _ _ ?_)
          refine CW.seq fun K24 hK24 => ?_
          refine CW.region ?_
          refine LW.pure rfl rfl (RV.move rfl) ?_
          refine LW.pure rfl rfl (RV.geq rfl rfl) ?_
          refine LW.nil (hK24 _ _ ?_)
          by_cases hp4 : (0 : Int) ≤ r2
          ·
            replace F := ite_y hp4 F
            have hq4 := dec_t hp4
            refine CW.condT rfl hq4 ?_
            refine CW.seq fun K25 hK25 => ?_
            obtain ⟨hg5, F⟩ := gd_some F
            refine CW.region ?_
            refine LW.pure rfl rfl (RV.move rfl) ?_
            refine LW.pure rfl rfl (RV.move rfl) ?_
            refine LW.pure rfl rfl (RV.cutL (l := (l5 ++ ([t13_1] : List Int))) Ts30 rfl rfl hg5 (H.own 3 rfl).sl.le rfl) ?_
            refine LW.pure rfl rfl (RV.assign rfl) ?_
            refine LW.nil (hK25 _ _ ?_)
            refine CW.seq fun K26 hK26 => ?_
            refine CW.region ?_
            refine LW.pure rfl rfl (RV.assign rfl) ?_
            refine LW.nil (hK26 _ _ ?_)
            replace H := H.pickR (C := [.own (some ⟨b4, 0, none⟩) ((([t13_1] : List Int)).length) 3 1 (List.map encN (([t13_1] : List Int))), .own A_a1 c_a1 3 1 (List.map encN a1), .own Al4 cl4 3 1 (List.map encN l4), .own A1 c1 3 1 (List.map encN ((l5 ++ ([t13_1] : List Int)))), .blk b1 24 [.int .i64 a0.nodes, .int .i64 a0.from_, .int .i64 a0.to_, .slice A_a0_drains a0.drains.length c_a0_drains], .blk b2 79 [.slice none 0 0, .int .i64 0]]) (C' := [.own A_a1 c_a1 3 1 (List.map encN a1), .own A1 c1 3 1 (List.map encN ((l5 ++ ([t13_1] : List Int)))), .blk b2 79 [.slice none 0 0, .int .i64 0]]) [1, 3, 5] (by decide) rfl
            replace R0 := H.ext
            refine CW.exit (jK325 _ _ ⟨_, ?_, ⟨((20 : Int)), ((l5 ++ ([t13_1] : List Int))), (Int.toNat r2), A1, c1, F, rfl, H, (by omega)⟩⟩)
            exact ⟨(look_slice rfl (by first | rfl | (simp; done) | omega | (simp; omega))), rfl, rfl, rfl, trivial⟩
          ·
            replace F := ite_n hp4 F
            have hq4 := dec_f hp4
            refine CW.condF rfl hq4 ?_
            refine CW.skip (hK22 _ _ ?_)
            obtain ⟨hg6, F⟩ := gd_some F
            refine CW.region ?_
            refine LW.pure rfl rfl (RV.move rfl) ?_
            refine LW.pure rfl rfl (RV.move rfl) ?_
            refine LW.go rfl rfl (OW.buildSlice (e := 3) (vs := [.int .i64 x6.to_]) (cs := [.int .i64 x6.to_]) rfl (fun _ => by kernel_rfl) fun b5 w10 N5 => ?_)
            replace H := H.made' (k := 1) (t := 3) (enc := encN) (l := ([x6.to_] : List Int)) N5 N5.blk (fun _ => rfl) rfl (by first | decide | omega | (simp; done) | (simp; omega))
            replace R0 := H.ext
            refine LW.go rfl rfl (OW.appendG (enc := encN) (l := l4) (xs := ([x6.to_] : List Int)) Ts30 rfl (look_slice rfl (by first | rfl | (simp; done) | (simp; omega))) (H.own 3 rfl) (H.own 0 rfl).sl (fun _ => rfl) rfl rfl hg6 (by decide) fun A2 c2 w11 O3 M3 D2 => ?_)
            replace H : Hp wb w11 ([.own (some ⟨b5, 0, none⟩) ((([x6.to_] : List Int)).length) 3 1 (List.map encN (([x6.to_] : List Int))), .own (some ⟨b4, 0, none⟩) ((([t13_1] : List Int)).length) 3 1 (List.map encN (([t13_1] : List Int))), .own A_a1 c_a1 3 1 (List.map encN a1), .own A2 c2 3 1 (List.map encN ((l4 ++ ([x6.to_] : List Int)))), .own A1 c1 3 1 (List.map encN ((l5 ++ ([t13_1] : List Int)))), .blk b1 24 [.int .i64 a0.nodes, .int .i64 a0.from_, .int .i64 a0.to_, .slice A_a0_drains a0.drains.length c_a0_drains], .blk b2 79 [.slice none 0 0, .int .i64 0]] ++ R) := H.mod 3 rfl M3 O3 D2
            replace R0 := H.ext
            refine LW.pure rfl rfl (RV.assign rfl) ?_
            refine LW.nil ?_
            replace H := H.pickR (C := [.own (some ⟨b5, 0, none⟩) ((([x6.to_] : List Int)).length) 3 1 (List.map encN (([x6.to_] : List Int))), .own (some ⟨b4, 0, none⟩) ((([t13_1] : List Int)).length) 3 1 (List.map encN (([t13_1] : List Int))), .own A_a1 c_a1 3 1 (List.map encN a1), .own A2 c2 3 1 (List.map encN ((l4 ++ ([x6.to_] : List Int)))), .own A1 c1 3 1 (List.map encN ((l5 ++ ([t13_1] : List Int)))), .blk b1 24 [.int .i64 a0.nodes, .int .i64 a0.from_, .int .i64 a0.to_, .slice A_a0_drains a0.drains.length c_a0_drains], .blk b2 79 [.slice none 0 0, .int .i64 0]]) (C' := [.own A_a1 c_a1 3 1 (List.map encN a1), .own A2 c2 3 1 (List.map encN ((l4 ++ ([x6.to_] : List Int)))), .own A1 c1 3 1 (List.map encN ((l5 ++ ([t13_1] : List Int)))), .blk b1 24 [.int .i64 a0.nodes, .int .i64 a0.from_, .int .i64 a0.to_, .slice A_a0_drains a0.drains.length c_a0_drains], .blk b2 79 [.slice none 0 0, .int .i64 0]]) [2, 3, 4, 5, 6] (by decide) rfl
            replace R0 := H.ext
            subst hrec3
            refine ⟨mk3, Nat.lt_succ_self _, _, ?_, x6.to_, ((l4 ++ ([x6.to_] : List Int))), ((l5 ++ ([t13_1] : List Int))), A2, c2, A1, c1, F, rfl, H⟩
            exact ⟨(look_slice rfl (by first | rfl | (simp; done) | omega | (simp; omega))), rfl, rfl, rfl, rfl, rfl, (look_slice rfl (by first | rfl | (simp; done) | omega | (simp; omega))), (look_slice rfl (by first | rfl | (simp; done) | omega | (simp; omega))), trivial⟩
        ·
          intro K27 hK27 jK387
          refine CW.block ?_
          refine CW.loop (fun meas ρ wl9 => ∃ (t13_2 : Int), drain_trail_L3 a0 a1 t2_1 l4 l5 rec3 meas t13_2 = some res ∧ ρ = [(1, .slice A_a1 a1.length c_a1), (2, .int .i64 t2_1), (3, .int .i64 a3), (4, .int .i64 a4), (5, .pointer (some (⟨b1, 0, none⟩))), (10, .pointer (some (⟨b2, 0, none⟩))), (11, .slice Al4 l4.length cl4), (12, .slice Al5 l5.length cl5), (13, .int .i64 t13_2)] ∧ Hp wb wl9 ([.own A_a1 c_a1 3 1 (List.map encN a1), .own Al4 cl4 3 1 (List.map encN l4), .own Al5 cl5 3 1 (List.map encN l5), .blk b1 24 [.int .i64 a0.nodes, .int .i64 a0.from_, .int .i64 a0.to_, .slice A_a0_drains a0.drains.length c_a0_drains], .blk b2 79 [.slice none 0 0, .int .i64 0]] ++ R)) FU ⟨_, ?_, ((0 : Int)), F, rfl, H⟩ ?_
          · exact ⟨(look_slice rfl (by first | rfl | (simp; done) | omega | (simp; omega))), rfl, rfl, rfl, rfl, rfl, (look_slice rfl (by first | rfl | (simp; done) | omega | (simp; omega))), (look_slice rfl (by first | rfl | (simp; done) | omega | (simp; omega))), rfl, trivial⟩
          rintro mk4 _ wl9 ⟨t13_2, F, rfl, H⟩
          have R0 := H.ext
          replace F := drain_trail_L3_s F
          obtain ⟨mk4, rfl, F⟩ := F
          generalize hrec4 : drain_trail_L3 a0 a1 t2_1 l4 l5 rec3 mk4 = rec4 at F
          unfold drain_trail_B3 at F
          refine CW.seq fun K28 hK28 => ?_
          refine CW.seqJ (fun ρ wl10 => (∃ (t44_1 : Bool), drain_trail_k5 a0 a1 l4 l5 rec3 t13_2 rec4 t44_1 = some res ∧ ρ = [(1, .slice A_a1 a1.length c_a1), (2, .int .i64 t2_1), (3, .int .i64 a3), (4, .int .i64 a4), (5, .pointer (some (⟨b1, 0, none⟩))), (10, .pointer (some (⟨b2, 0, none⟩))), (11, .slice Al4 l4.length cl4), (12, .slice Al5 l5.length cl5), (13, .int .i64 t13_2), (44, .bool t44_1)] ∧ Hp wb wl10 ([.own A_a1 c_a1 3 1 (List.map encN a1), .own Al4 cl4 3 1 (List.map encN l4), .own Al5 cl5 3 1 (List.map encN l5), .blk b1 24 [.int .i64 a0.nodes, .int .i64 a0.from_, .int .i64 a0.to_, .slice A_a0_drains a0.drains.length c_a0_drains], .blk b2 79 [.slice none 0 0, .int .i64 0]] ++ R))) ?_ ?_
          ·
            rintro _ wl10 ⟨t44_1, F, rfl, H⟩
            have R0 := H.ext
            unfold drain_trail_k5 at F
            by_cases hp5 : t44_1 = true
            ·
              replace F := ite_y hp5 F
              have hq5 : t44_1 = true := hp5
              refine CW.condT rfl hq5 ?_
              refine CW.skip (hK28 _ _ ?_)
              refine CW.block ?_
              obtain ⟨hg7, F⟩ := gd_some F
              refine CW.region ?_
              refine LW.pure rfl rfl (RV.move rfl) ?_
              refine LW.pure rfl rfl (RV.add rfl rfl hg7) ?_
              refine LW.pure rfl rfl (RV.assign rfl) ?_
              refine LW.nil ?_
              subst hrec4
              refine ⟨mk4, Nat.lt_succ_self _, _, ?_, (t13_2 + 1), F, rfl, H⟩
              exact ⟨(look_slice rfl (by first | rfl | (simp; done) | omega | (simp; omega))), rfl, rfl, rfl, rfl, rfl, (look_slice rfl (by first | rfl | (simp; done) | omega | (simp; omega))), (look_slice rfl (by first | rfl | (simp; done) | omega | (simp; omega))), rfl, trivial⟩
            ·
              replace F := ite_n hp5 F
              have hq5 : t44_1 = false := raw_f hp5
              refine CW.condF rfl hq5 ?_
              refine CW.exit (jK387 _ _ ⟨_, ?_, ⟨t13_2, F, rfl, H⟩⟩)
              exact ⟨(look_slice rfl (by first | rfl | (simp; done) | omega | (simp; omega))), rfl, rfl, rfl, rfl, rfl, (look_slice rfl (by first | rfl | (simp; done) | omega | (simp; omega))), (look_slice rfl (by first | rfl | (simp; done) | omega | (simp; omega))), rfl, trivial⟩
          ·
            intro K29 hK29 jK393
            obtain ⟨x7, hbx7, hx7, F⟩ := ix_some F
            by_cases hp6 : x7.from_ = t2_1
            ·
              replace F := ite_y hp6 F
              have hq6 := dec_t hp6
              obtain ⟨x8, hbx8, hx8, F⟩ := ix_some F
              refine CW.region ?_
              refine LW.pure rfl rfl (RV.fieldAddr Tf24_3 rfl) ?_
              refine LW.pure rfl rfl (RV.load1 Tk22 rfl ((H.blk 3 rfl).cells.off 3) rfl) ?_
              refine LW.pure rfl rfl (RV.move rfl) ?_
              refine LW.pure rfl rfl (RV.indexAddr Ts22 rfl rfl hbx7 (h_a0_drains.addr_ hx7)) ?_
              refine LW.pure rfl rfl (RV.fieldAddr Tf52_0 rfl) ?_
              refine LW.pure rfl rfl (RV.load1 Tk3 rfl (((h_a0_drains.at_ hx7).ext R0).off 0) rfl) ?_
              refine LW.pure rfl rfl (RV.move rfl) ?_
              refine LW.pure rfl rfl (RV.nei rfl rfl) ?_
              refine LW.pure rfl rfl (RV.move rfl) ?_
              refine LW.pureYB rfl rfl rfl rfl (not_f hq6) (RV.move rfl) ?_
              refine LW.pureYB rfl rfl rfl rfl (not_f hq6) (RV.move rfl) ?_
              refine LW.pureYB rfl rfl rfl rfl (not_f hq6) (RV.indexAddr Ts30 rfl rfl hbx8 ((H.own 0 rfl).sl.addr_ hx8)) ?_
              refine LW.pureYB rfl rfl rfl rfl (not_f hq6) (RV.load1 Tk3 rfl ((H.own 0 rfl).sl.at_ hx8) rfl) ?_
              refine LW.pureYB rfl rfl rfl rfl (not_f hq6) (RV.eqi rfl rfl) ?_
              refine LW.pure rfl rfl (RV.pickFB rfl (not_f hq6) rfl) ?_
              refine LW.nil (jK393 _ _ ⟨_, ?_, ⟨(decide (x8 = 0)), F, rfl, H⟩⟩)
              exact ⟨(look_slice rfl (by first | rfl | (simp; done) | omega | (simp; omega))), rfl, rfl, rfl, rfl, rfl, (look_slice rfl (by first | rfl | (simp; done) | omega | (simp; omega))), (look_slice rfl (by first | rfl | (simp; done) | omega | (simp; omega))), rfl, rfl, trivial⟩
            ·
              replace F := ite_n hp6 F
              have hq6 := dec_f hp6
              refine CW.region ?_
              refine LW.pure rfl rfl (RV.fieldAddr Tf24_3 rfl) ?_
              refine LW.pure rfl rfl (RV.load1 Tk22 rfl ((H.blk 3 rfl).cells.off 3) rfl) ?_
              refine LW.pure rfl rfl (RV.move rfl) ?_
              refine LW.pure rfl rfl (RV.indexAddr Ts22 rfl rfl hbx7 (h_a0_drains.addr_ hx7)) ?_
              refine LW.pure rfl rfl (RV.fieldAddr Tf52_0 rfl) ?_
              refine LW.pure rfl rfl (RV.load1 Tk3 rfl (((h_a0_drains.at_ hx7).ext R0).off 0) rfl) ?_
              refine LW.pure rfl rfl (RV.move rfl) ?_
              refine LW.pure rfl rfl (RV.nei rfl rfl) ?_
              refine LW.pure rfl rfl (RV.move rfl) ?_
              refine LW.noB rfl rfl rfl rfl (ne_beq (v := true) (not_t hq6) rfl) ?_
              refine LW.noB rfl rfl rfl rfl (ne_beq (v := true) (not_t hq6) rfl) ?_
              refine LW.noB rfl rfl rfl rfl (ne_beq (v := true) (not_t hq6) rfl) ?_
              refine LW.noB rfl rfl rfl rfl (ne_beq (v := true) (not_t hq6) rfl) ?_
              refine LW.noB rfl rfl rfl rfl (ne_beq (v := true) (not_t hq6) rfl) ?_
              refine LW.pure rfl rfl (RV.pickTB rfl (not_t hq6) rfl) ?_
              refine LW.nil (jK393 _ _ ⟨_, ?_, ⟨true, F, rfl, H⟩⟩)
              exact ⟨(look_slice rfl (by first | rfl | (simp; done) | omega | (simp; omega))), rfl, rfl, rfl, rfl, rfl, (look_slice rfl (by first | rfl | (simp; done) | omega | (simp; omega))), (look_slice rfl (by first | rfl | (simp; done) | omega | (simp; omega))), rfl, rfl, trivial⟩
      ·
        replace F := ite_n hp3 F
        have hq3 : t29_1 = false := raw_f hp3
        refine CW.condF rfl hq3 ?_
        replace H := H.pickR (C := [.own A_a1 c_a1 3 1 (List.map encN a1), .own Al4 cl4 3 1 (List.map encN l4), .own Al5 cl5 3 1 (List.map encN l5), .blk b1 24 [.int .i64 a0.nodes, .int .i64 a0.from_, .int .i64 a0.to_, .slice A_a0_drains a0.drains.length c_a0_drains], .blk b2 79 [.slice none 0 0, .int .i64 0]]) (C' := [.own A_a1 c_a1 3 1 (List.map encN a1), .own Al5 cl5 3 1 (List.map encN l5), .blk b2 79 [.slice none 0 0, .int .i64 0]]) [0, 2, 4] (by decide) rfl
        replace R0 := H.ext
        refine CW.exit (jK325 _ _ ⟨_, ?_, ⟨a4, l5, 0, Al5, cl5, F, rfl, H, (Nat.zero_le _)⟩⟩)
        exact ⟨(look_slice rfl (by first | rfl | (simp; done) | omega | (simp; omega))), rfl, rfl, (look_cut0 rfl), trivial⟩
    ·
      intro K30 hK30 jK394
      by_cases hp7 : t2_1 = a3
      ·
        replace F := ite_y hp7 F
        have hq7 := dec_t hp7
        refine CW.region ?_
        refine LW.pure rfl rfl (RV.move rfl) ?_
        refine LW.pure rfl rfl (RV.move rfl) ?_
        refine LW.pure rfl rfl (RV.nei rfl rfl) ?_
        refine LW.pure rfl rfl (RV.move rfl) ?_
        refine LW.pureYB rfl rfl rfl rfl (not_f hq7) (RV.move rfl) ?_
        refine LW.pureYB rfl rfl rfl rfl (not_f hq7) (RV.len Ts30 rfl) ?_
        refine LW.pureYB rfl rfl rfl rfl (not_f hq7) (RV.eqi rfl rfl) ?_
        refine LW.pure rfl rfl (RV.pickFB rfl (not_f hq7) rfl) ?_
        refine LW.nil (jK394 _ _ ⟨_, ?_, ⟨(decide (((l5.length : Int)) = 0)), F, rfl, H⟩⟩)
        exact ⟨(look_slice rfl (by first | rfl | (simp; done) | omega | (simp; omega))), rfl, rfl, rfl, rfl, rfl, (look_slice rfl (by first | rfl | (simp; done) | omega | (simp; omega))), (look_slice rfl (by first | rfl | (simp; done) | omega | (simp; omega))), rfl, trivial⟩
      ·
        replace F := ite_n hp7 F
        have hq7 := dec_f hp7
        refine CW.region ?_
        refine LW.pure rfl rfl (RV.move rfl) ?_
        refine LW.pure rfl rfl (RV.move rfl) ?_
        refine LW.pure rfl rfl (RV.nei rfl rfl) ?_
        refine LW.pure rfl rfl (RV.move rfl) ?_
        refine LW.noB rfl rfl rfl rfl (ne_beq (v := true) (not_t hq7) rfl) ?_
        refine LW.noB rfl rfl rfl rfl (ne_beq (v := true) (not_t hq7) rfl) ?_
        refine LW.noB rfl rfl rfl rfl (ne_beq (v := true) (not_t hq7) rfl) ?_
        refine LW.pure rfl rfl (RV.pickTB rfl (not_t hq7) rfl) ?_
        refine LW.nil (jK394 _ _ ⟨_, ?_, ⟨true, F, rfl, H⟩⟩)
        exact ⟨(look_slice rfl (by first | rfl | (simp; done) | omega | (simp; omega))), rfl, rfl, rfl, rfl, rfl, (look_slice rfl (by first | rfl | (simp; done) | omega | (simp; omega))), (look_slice rfl (by first | rfl | (simp; done) | omega | (simp; omega))), rfl, trivial⟩
set_option maxRecDepth 20000 in
set_option maxHeartbeats 1000000 in
theorem slices_IndexFunc_int_ok {a0 : List Int} {a1 : Int → Option Bool} {A_a0 : Option Addr} {c_a0 : Nat} {f_a1 : Nat} {p_a1 : Array Value} {q_a1 : Array Value} {w : World} {res : Int} (h_a0 : Sl w A_a0 c_a0 1 (a0.map encN)) (h_a1 : ∀ (x2 : Int) (r : Bool), a1 x2 = some r → ∀ w1, Ext w w1 → CallsV Try.prog f_a1 p_a1 q_a1 #[.int .i64 x2] w1 (Rt w1 (.bool r))) (F : slices_IndexFunc_int a0 a1 = some res) : Calls Try.prog 88 #[.slice A_a0 a0.length c_a0, .func (.func f_a1) p_a1 q_a1] w (Rt w (.int .i64 res)) := by
  refine calls_of_cw (args := [.slice A_a0 a0.length c_a0, .func (.func f_a1) p_a1 q_a1]) Try.func88 rfl rfl rfl rfl ?_
  have H := Hp.start w
  have R0 := H.ext
  unfold slices_IndexFunc_int at F
  refine CW.seq fun K1 hK1 => ?_
  refine CW.region ?_
  refine LW.pure rfl rfl (RV.assign rfl) ?_
  refine LW.nil (hK1 _ _ ?_)
  refine CW.seqJ (fun ρ wl1 => (slices_IndexFunc_int_k1 = some res ∧ ρ = [(4, .int .i64 0)] ∧ Hp w wl1 [])) ?_ ?_
  ·
    rintro _ wl1 ⟨F, rfl, H⟩
    have R0 := H.ext
    unfold slices_IndexFunc_int_k1 at F
    refine CW.seq fun K2 hK2 => ?_
    refine CW.region ?_
    refine LW.pure rfl rfl (RV.assign rfl) ?_
    refine LW.nil (hK2 _ _ ?_)
    refine CW.ret ?_
    obtain rfl := Option.some.inj F
    refine ⟨_, (ResOK.one rfl), ?_⟩
    refine ⟨(by first | rfl | simp), R0⟩
  ·
    intro K3 hK3 jK63
    refine CW.seq fun K4 hK4 => ?_
    refine CW.region ?_
    refine LW.pure rfl rfl (RV.move rfl) ?_
    refine LW.pure rfl rfl (RV.len Ts30 rfl) ?_
    refine LW.pure rfl rfl (RV.move rfl) ?_
    refine LW.nil (hK4 _ _ ?_)
    refine CW.block ?_
    refine CW.loop (fun meas ρ wl2 => ∃ (t8_1 : Int), slices_IndexFunc_int_L1 a0 a1 meas t8_1 = some res ∧ ρ = [(0, .slice A_a0 a0.length c_a0), (1, .func (.func f_a1) p_a1 q_a1), (4, .int .i64 0), (7, .int .i64 ((a0.length : Int))), (8, .int .i64 t8_1)] ∧ Hp w wl2 []) FU ⟨_, ?_, ((0 : Int)), F, rfl, H⟩ ?_
    · exact ⟨rfl, rfl, rfl, rfl, rfl, trivial⟩
    rintro mk1 _ wl2 ⟨t8_1, F, rfl, H⟩
    have R0 := H.ext
    replace F := slices_IndexFunc_int_L1_s F
    obtain ⟨mk1, rfl, F⟩ := F
    generalize hrec1 : slices_IndexFunc_int_L1 a0 a1 mk1 = rec1 at F
    unfold slices_IndexFunc_int_B1 at F
    refine CW.seq fun K5 hK5 => ?_
    refine CW.region ?_
    refine LW.pure rfl rfl (RV.lss rfl rfl) ?_
    refine LW.nil (hK5 _ _ ?_)
    refine CW.seq fun K6 hK6 => ?_
    by_cases hp1 : t8_1 < ((a0.length : Int))
    ·
      replace F := ite_y hp1 F
      have hq1 := dec_t hp1
      refine CW.condT rfl hq1 ?_
      refine CW.skip (hK6 _ _ ?_)
      refine CW.seq fun K7 hK7 => ?_
      refine CW.block ?_
      refine CW.seq fun K8 hK8 => ?_
      refine CW.region ?_
      refine LW.pure rfl rfl (RV.move rfl) ?_
      refine LW.pure rfl rfl (RV.assign rfl) ?_
      refine LW.nil (hK8 _ _ ?_)
      refine CW.seq fun K9 hK9 => ?_
      obtain ⟨x1, hbx1, hx1, F⟩ := ix_some F
      obtain ⟨r1, hr1, F⟩ := bnd_some F
      refine CW.region ?_
      refine LW.pure rfl rfl (RV.move rfl) ?_
      refine LW.pure rfl rfl (RV.move rfl) ?_
      refine LW.pure rfl rfl (RV.move rfl) ?_
      refine LW.pure rfl rfl (RV.indexAddr Ts30 rfl rfl hbx1 (h_a0.addr_ hx1)) ?_
      refine LW.pure rfl rfl (RV.load1 Tk3 rfl ((h_a0.at_ hx1).ext R0) rfl) ?_
      refine LW.go rfl rfl (OW.callV2 rfl rfl rfl (h_a1 _ _ hr1 _ R0) ?_)
      rintro _ w2 ⟨rfl, E1⟩
      refine ⟨_, rfl, ?_⟩
      replace H := H.grow E1
      replace R0 := H.ext
      refine LW.nil (hK9 _ _ ?_)
      by_cases hp2 : r1 = true
      ·
        replace F := ite_y hp2 F
        have hq2 : r1 = true := hp2
        refine CW.condT rfl hq2 ?_
        refine CW.seq fun K10 hK10 => ?_
        refine CW.region ?_
        refine LW.pure rfl rfl (RV.move rfl) ?_
        refine LW.pure rfl rfl (RV.assign rfl) ?_
        refine LW.nil (hK10 _ _ ?_)
        refine CW.ret ?_
        obtain rfl := Option.some.inj F
        refine ⟨_, (ResOK.one rfl), ?_⟩
        refine ⟨(by first | rfl | simp), R0⟩
      ·
        replace F := ite_n hp2 F
        have hq2 : r1 = false := raw_f hp2
        refine CW.condF rfl hq2 ?_
        refine CW.skip (hK7 _ _ ?_)
        obtain ⟨hg1, F⟩ := gd_some F
        refine CW.region ?_
        refine LW.pure rfl rfl (RV.add rfl rfl hg1) ?_
        refine LW.pure rfl rfl (RV.move rfl) ?_
        refine LW.nil ?_
        subst hrec1
        refine ⟨mk1, Nat.lt_succ_self _, _, ?_, (t8_1 + 1), F, rfl, H⟩
        exact ⟨rfl, rfl, rfl, rfl, rfl, trivial⟩
    ·
      replace F := ite_n hp1 F
      have hq1 := dec_f hp1
      refine CW.condF rfl hq1 ?_
      refine CW.exit (jK63 _ _ ⟨_, ?_, ⟨F, rfl, H⟩⟩)
      exact ⟨rfl, trivial⟩
set_option maxRecDepth 20000 in
set_option maxHeartbeats 1000000 in
theorem drain_Split_1_ok {a0 : Int} {w : World} {res : Bool} (F : drain_Split_1 a0 = some res) : Calls Try.prog 89 #[.int .i64 a0] w (Rt w (.bool res)) := by
  refine calls_of_cw (args := [.int .i64 a0]) Try.func89 rfl rfl rfl rfl ?_
  have H := Hp.start w
  have R0 := H.ext
  unfold drain_Split_1 at F
  refine CW.seq fun K1 hK1 => ?_
  refine CW.region ?_
  refine LW.pure rfl rfl (RV.assign rfl) ?_
  refine LW.nil (hK1 _ _ ?_)
  refine CW.seq fun K2 hK2 => ?_
  refine CW.region ?_
  refine LW.pure rfl rfl (RV.move rfl) ?_
  refine LW.pure rfl rfl (RV.gtr rfl rfl) ?_
  refine LW.pure rfl rfl (RV.assign rfl) ?_
  refine LW.nil (hK2 _ _ ?_)
  refine CW.ret ?_
  obtain rfl := Option.some.inj F
  refine ⟨_, (ResOK.one rfl), ?_⟩
  refine ⟨(by first | rfl | simp), R0⟩
set_option maxRecDepth 20000 in
set_option maxHeartbeats 1000000 in
theorem drain_Split_ok {a0 : Net} {a1 : List Int} {A_a0_drains : Option Addr} {c_a0_drains : Nat} {A_a1 : Option Addr} {c_a1 : Nat} {w : World} {res : (List Trail) × Int} (h_a0_drains : Sl w A_a0_drains c_a0_drains 3 (a0.drains.map encDrain)) (h_a1 : Sl w A_a1 c_a1 1 (a1.map encN)) (F : drain_Split a0 a1 = some res) : Calls Try.prog 53 #[.agg #[.int .i64 a0.nodes, .int .i64 a0.from_, .int .i64 a0.to_, .slice A_a0_drains a0.drains.length c_a0_drains], .slice A_a1 a1.length c_a1] w (fun e w' => ∃ (A1 : Option Addr) (c1 : Nat) (hs0 : List (Option Addr × Nat)), e = .returned (.tuple #[.slice A1 res.1.length c1, .int .i64 res.2]) ∧ Hp w w' [.inv (tbxB A1 hs0) (TbxH A1 c1 79 2 encTrail (fun x => x.drains) 3 1 encN hs0 res.1)]) := by
  refine calls_of_cw (args := [.agg #[.int .i64 a0.nodes, .int .i64 a0.from_, .int .i64 a0.to_, .slice A_a0_drains a0.drains.length c_a0_drains], .slice A_a1 a1.length c_a1]) Try.func53 rfl rfl rfl rfl ?_
  have H := Hp.start w
  have R0 := H.ext
  unfold drain_Split at F
  refine CW.seq fun K1 hK1 => ?_
  refine CW.region ?_
  refine LW.go rfl rfl (OW.box rfl fun b1 w1 N1 => ?_)
  replace H := H.new N1 N1.blk
  replace R0 := H.ext
  refine LW.pure rfl rfl (RV.assign rfl) ?_
  refine LW.pure rfl rfl (RV.assign rfl) ?_
  refine LW.nil (hK1 _ _ ?_)
  refine CW.seq fun K2 hK2 => ?_
  obtain ⟨r5, hr5, F⟩ := bnd_some F
  refine CW.region ?_
  refine LW.pure rfl rfl (RV.loadA [.int .i64 a0.nodes, .int .i64 a0.from_, .int .i64 a0.to_, .slice A_a0_drains a0.drains.length c_a0_drains] Tk24 rfl (H.blk 0 rfl).cells rfl rfl) ?_
  refine LW.pure rfl rfl (RV.move rfl) ?_
  refine LW.go rfl rfl (OW.call Tc25 rfl (drain_CheckFlow_ok (a0 := a0) (a1 := a1) (h_a0_drains.ext R0) (h_a1.ext R0) hr5) ?_)
  rintro _ w2 ⟨rfl, E1⟩
  refine ⟨_, rfl, ?_⟩
  replace H := H.grow E1
  replace R0 := H.ext
  refine LW.pure rfl rfl (RV.move rfl) ?_
  refine LW.pure rfl rfl (RV.extract rfl rfl) ?_
  refine LW.pure rfl rfl (RV.extract rfl rfl) ?_
  refine LW.pure rfl rfl (RV.assign rfl) ?_
  refine LW.pure rfl rfl (RV.assign rfl) ?_
  refine LW.nil (hK2 _ _ ?_)
  refine CW.seq fun K3 hK3 => ?_
  refine CW.seq fun K4 hK4 => ?_
  refine CW.region ?_
  refine LW.pure rfl rfl (RV.move rfl) ?_
  refine LW.pure rfl rfl (RV.nei rfl rfl) ?_
  refine LW.nil (hK4 _ _ ?_)
  by_cases hp1 : r5.2 = 0
  ·
    replace F := ite_y hp1 F
    have hq1 := dec_t hp1
    refine CW.condF rfl (not_f hq1) ?_
    refine CW.skip (hK3 _ _ ?_)
    refine CW.seq fun K5 hK5 => ?_
    refine CW.seq fun K6 hK6 => ?_
    refine CW.region ?_
    refine LW.pure rfl rfl (RV.move rfl) ?_
    refine LW.pure rfl rfl (RV.lss rfl rfl) ?_
    refine LW.nil (hK6 _ _ ?_)
    by_cases hp2 : r5.1 < 0
    ·
      replace F := ite_y hp2 F
      have hq2 := dec_t hp2
      refine CW.condT rfl hq2 ?_
      refine CW.seq fun K7 hK7 => ?_
      refine CW.region ?_
      refine LW.pure rfl rfl (RV.assign rfl) ?_
      refine LW.pure rfl rfl (RV.assign rfl) ?_
      refine LW.nil (hK7 _ _ ?_)
      refine CW.ret ?_
      obtain rfl := Option.some.inj F
      refine ⟨_, (ResOK.two rfl rfl), ?_⟩
      replace H := H.nilTbx encTrail (fun x => x.drains) encN 79 2 3 1
      replace R0 := H.ext
      replace H := H.pick (L' := [.inv (tbxB none ([])) (TbxH none 0 79 2 encTrail (fun x => x.drains) 3 1 encN ([]) (([] : List Trail)))]) [0] (by decide) rfl
      replace R0 := H.ext
      exact ⟨none, 0, ([]), (by first | rfl | (simp; done) | (simp; omega)), H⟩
    ·
      replace F := ite_n hp2 F
      have hq2 := dec_f hp2
      refine CW.condF rfl hq2 ?_
      refine CW.skip (hK5 _ _ ?_)
      refine CW.seq fun K8 hK8 => ?_
      obtain ⟨r6, hr6, F⟩ := bnd_some F
      refine CW.region ?_
      refine LW.pure rfl rfl (RV.move rfl) ?_
      refine LW.go rfl rfl (OW.call Tc86 rfl (slices_Clone_int_ok (a0 := a1) (h_a1.ext R0) hr6) ?_)
      rintro _ w3 ⟨A24_0, c24_0, rfl, E2⟩
      refine ⟨_, rfl, ?_⟩
      replace H : Hp w w3 [.own A24_0 c24_0 3 1 (List.map encN r6), .blk b1 24 [.int .i64 a0.nodes, .int .i64 a0.from_, .int .i64 a0.to_, .slice A_a0_drains a0.drains.length c_a0_drains]] := H.append E2
      replace R0 := H.ext
      refine LW.pure rfl rfl (RV.assign rfl) ?_
      refine LW.nil (hK8 _ _ ?_)
      refine CW.seq fun K9 hK9 => ?_
      refine CW.region ?_
      refine LW.pure rfl rfl (RV.assign rfl) ?_
      refine LW.nil (hK9 _ _ ?_)
      refine CW.seqJ (fun ρ wl1 => (∃ (l2 : List Int) (m2 : List Trail) (hsm2 : List (Option Addr × Nat)) (Am2 : Option Addr) (cm2 : Nat), drain_Split_k1 a0 l2 m2 = some res ∧ ρ = [(2, .pointer (some (⟨b1, 0, none⟩))), (4, .slice none 0 0), (5, .int .i64 0), (8, .slice A24_0 l2.length c24_0), (9, .slice Am2 m2.length cm2)] ∧ Hp w wl1 [.own A24_0 c24_0 3 1 (List.map encN l2), .inv (tbxB Am2 hsm2) (TbxH Am2 cm2 79 2 encTrail (fun x => x.drains) 3 1 encN hsm2 m2), .blk b1 24 [.int .i64 a0.nodes, .int .i64 a0.from_, .int .i64 a0.to_, .slice A_a0_drains a0.drains.length c_a0_drains]])) ?_ ?_
      ·
        rintro _ wl1 ⟨l2, m2, hsm2, Am2, cm2, F, rfl, H⟩
        have R0 := H.ext
        unfold drain_Split_k1 at F
        refine CW.block ?_
        refine CW.loop (fun meas ρ wl2 => ∃ (l1 : List Int) (m1 : List Trail) (hsm1 : List (Option Addr × Nat)) (Am1 : Option Addr) (cm1 : Nat), drain_Split_L1 a0 meas l1 m1 = some res ∧ ρ = [(2, .pointer (some (⟨b1, 0, none⟩))), (4, .slice none 0 0), (5, .int .i64 0), (8, .slice A24_0 l1.length c24_0), (9, .slice Am1 m1.length cm1)] ∧ Hp w wl2 [.own A24_0 c24_0 3 1 (List.map encN l1), .inv (tbxB Am1 hsm1) (TbxH Am1 cm1 79 2 encTrail (fun x => x.drains) 3 1 encN hsm1 m1), .blk b1 24 [.int .i64 a0.nodes, .int .i64 a0.from_, .int .i64 a0.to_, .slice A_a0_drains a0.drains.length c_a0_drains]]) FU ⟨_, ?_, l2, m2, hsm2, Am2, cm2, F, rfl, H⟩ ?_
        · exact ⟨rfl, rfl, rfl, (look_slice rfl (by first | rfl | (simp; done) | omega | (simp; omega))), (look_slice rfl (by first | rfl | (simp; done) | omega | (simp; omega))), trivial⟩
        rintro mk1 _ wl2 ⟨l1, m1, hsm1, Am1, cm1, F, rfl, H⟩
        have R0 := H.ext
        replace F := drain_Split_L1_s F
        obtain ⟨mk1, rfl, F⟩ := F
        generalize hrec1 : drain_Split_L1 a0 mk1 = rec1 at F
        unfold drain_Split_B1 at F
        refine CW.block ?_
        refine CW.seq fun K10 hK10 => ?_
        obtain ⟨r1, hr1, F⟩ := bnd_some F
        refine CW.region ?_
        refine LW.pure rfl rfl (RV.move rfl) ?_
        refine LW.go rfl rfl (OW.call Tc88 rfl (slices_IndexFunc_int_ok (a0 := l1) (a1 := drain_Split_1) (H.own 0 rfl).sl (fun x2 r hF w4 hE => CallsV.of Tc89 (drain_Split_1_ok (a0 := x2) hF)) hr1) ?_)
        rintro _ w5 ⟨rfl, E3⟩
        refine ⟨_, rfl, ?_⟩
        replace H := H.grow E3
        replace R0 := H.ext
        refine LW.pure rfl rfl (RV.assign rfl) ?_
        refine LW.nil (hK10 _ _ ?_)
        refine CW.seq fun K11 hK11 => ?_
        refine CW.seq fun K12 hK12 => ?_
        refine CW.region ?_
        refine LW.pure rfl rfl (RV.move rfl) ?_
        refine LW.pure rfl rfl (RV.lss rfl rfl) ?_
        refine LW.nil (hK12 _ _ ?_)
        by_cases hp3 : r1 < 0
        ·
          replace F := ite_y hp3 F
          have hq3 := dec_t hp3
          refine CW.condT rfl hq3 ?_
          refine CW.seq fun K13 hK13 => ?_
          refine CW.region ?_
          refine LW.pure rfl rfl (RV.move rfl) ?_
          refine LW.pure rfl rfl (RV.assign rfl) ?_
          refine LW.pure rfl rfl (RV.assign rfl) ?_
          refine LW.nil (hK13 _ _ ?_)
          refine CW.ret ?_
          obtain rfl := Option.some.inj F
          refine ⟨_, (ResOK.two rfl rfl), ?_⟩
          replace H := H.pick (L' := [.inv (tbxB Am1 hsm1) (TbxH Am1 cm1 79 2 encTrail (fun x => x.drains) 3 1 encN hsm1 m1)]) [1] (by decide) rfl
          replace R0 := H.ext
          exact ⟨Am1, cm1, hsm1, (by first | rfl | (simp; done) | (simp; omega)), H⟩
        ·
          replace F := ite_n hp3 F
          have hq3 := dec_f hp3
          refine CW.condF rfl hq3 ?_
          refine CW.skip (hK11 _ _ ?_)
          obtain ⟨x1, hbx1, hx1, F⟩ := ix_some F
          obtain ⟨r2, hr2, F⟩ := bnd_some F
          obtain ⟨hg1, F⟩ := gd_some F
          have H0 := H
          have hz : w5.heap.size ≤ w5.heap.size := Nat.le_refl _
          refine CW.draw [9, 11] (XB w5 [.own A24_0 c24_0 3 1 (List.map encN l1), .inv (tbxB Am1 hsm1) (TbxH Am1 cm1 79 2 encTrail (fun x => x.drains) 3 1 encN hsm1 m1), .blk b1 24 [.int .i64 a0.nodes, .int .i64 a0.from_, .int .i64 a0.to_, .slice A_a0_drains a0.drains.length c_a0_drains]] [0, 1]) (.cons 0 2 (.cons 1 2 (.cons 2 2 (.cons 3 2 (.cons 4 2 (.cons 5 2 (.cons 6 2 (.cons 7 2 (.cons 8 2 (.cons 9 0 (.cons 10 0 (.cons 11 0 (.cons 12 2 .nil))))))))))))) mixed (by kernel_rfl) fun w6 E4 => ?_
          replace H := H.grow E4
          replace R0 := H.ext
          replace hz := Nat.le_trans hz (Ext.size E4)
          refine DW.thru rfl rfl rfl (fun _ EQ => RV.move rfl) ?_
          refine DW.thru rfl rfl rfl (fun _ EQ => RV.loadA [.int .i64 a0.nodes, .int .i64 a0.from_, .int .i64 a0.to_, .slice A_a0_drains a0.drains.length c_a0_drains] Tk24 rfl (H.thruB 2 rfl EQ (H0.notX [0, 1] 2 rfl (by decide))).cells rfl rfl) ?_
          refine DW.thru rfl rfl rfl (fun _ EQ => RV.move rfl) ?_
          refine DW.thru rfl rfl rfl (fun _ EQ => RV.fieldAddr Tf24_3 rfl) ?_
          refine DW.thru rfl rfl rfl (fun _ EQ => RV.load1 Tk22 rfl ((H.thruB 2 rfl EQ (H0.notX [0, 1] 2 rfl (by decide))).cells.off 3) rfl) ?_
          refine DW.thru rfl rfl rfl (fun _ EQ => RV.move rfl) ?_
          refine DW.thru rfl rfl rfl (fun _ EQ => RV.indexAddr Ts22 rfl rfl hbx1 (h_a0_drains.addr_ hx1)) ?_
          refine DW.thru rfl rfl rfl (fun _ EQ => RV.fieldAddr Tf52_0 rfl) ?_
          refine DW.thru rfl rfl rfl (fun _ EQ => RV.load1 Tk3 rfl ((H0.old EQ R0 (h_a0_drains.at_ hx1)).off 0) rfl) ?_
          replace H := H.pick (L' := [.own A24_0 c24_0 3 1 (List.map encN l1), .inv (tbxB Am1 hsm1) (TbxH Am1 cm1 79 2 encTrail (fun x => x.drains) 3 1 encN hsm1 m1), .blk b1 24 [.int .i64 a0.nodes, .int .i64 a0.from_, .int .i64 a0.to_, .slice A_a0_drains a0.drains.length c_a0_drains]]) [0, 1, 2] (by decide) rfl
          replace R0 := H.ext
          obtain ⟨Ex1, HE1, Hz1⟩ := Hp.freeze (a := .own A24_0 c24_0 3 1 (List.map encN l1)) (L := [.inv (tbxB Am1 hsm1) (TbxH Am1 cm1 79 2 encTrail (fun x => x.drains) 3 1 encN hsm1 m1), .blk b1 24 [.int .i64 a0.nodes, .int .i64 a0.from_, .int .i64 a0.to_, .slice A_a0_drains a0.drains.length c_a0_drains]]) H
          refine DW.sole rfl rfl rfl (OW.call Tc87 rfl (drain_trail_ok (a0 := a0) (a1 := l1) (a2 := x1.from_) (a3 := (-1 : Int)) (a4 := (0 : Int)) (R := Ex1) h_a0_drains HE1 hr2) ?_)
          rintro _ w7 ⟨A39_0_drains, c39_0_drains, rfl, hlm39_a1, Hq1⟩
          obtain ⟨Hq1, hz1s, hz1k⟩ := Hz1 w7 (.own A24_0 c24_0 3 1 (List.map encN r2.2)) [.own A39_0_drains c39_0_drains 3 1 (List.map encN r2.1.drains)] rfl Hq1
          refine ⟨_, rfl, fun h => absurd h (by decide), ModX.frz hz1s hz1k (XB.own_ 0 (by decide) rfl), ?_⟩
          replace H : Hp w w7 [.own A24_0 c24_0 3 1 (List.map encN r2.2), .own A39_0_drains c39_0_drains 3 1 (List.map encN r2.1.drains), .inv (tbxB Am1 hsm1) (TbxH Am1 cm1 79 2 encTrail (fun x => x.drains) 3 1 encN hsm1 m1), .blk b1 24 [.int .i64 a0.nodes, .int .i64 a0.from_, .int .i64 a0.to_, .slice A_a0_drains a0.drains.length c_a0_drains]] := Hq1
          replace R0 := H.ext
          replace hz := Nat.le_trans hz hz1s
          refine DW.sole rfl rfl rfl (OW.buildSlice (e := 79) (vs := [.agg #[.slice A39_0_drains r2.1.drains.length c39_0_drains, .int .i64 r2.1.amount]]) (cs := [.slice A39_0_drains r2.1.drains.length c39_0_drains, .int .i64 r2.1.amount]) rfl (fun _ => by kernel_rfl) fun b2 w8 N2 => ?_)
          refine ⟨fun _ => N2.ext, ModX.ext N2.ext, ?_⟩
          have G0_b2 : w5.heap.size ≤ b2 := by rw [N2.at_]; exact hz
          replace H := H.made' (k := 2) (t := 79) (enc := encTrail) (l := ([((A39_0_drains, c39_0_drains), r2.1)] : List ((Option Addr × Nat) × Trail))) N2 (by have q := N2.blk; simp only [List.flatMap_cons, List.flatMap_nil, encTrail, List.append_nil, List.cons_append, List.nil_append]; first | done | exact q) (fun _ => rfl) rfl (by first | decide | omega | (simp; done) | (simp; omega))
          replace R0 := H.ext
          replace hz := Nat.le_trans hz (Ext.size N2.ext)
          refine DW.sole rfl rfl rfl (OW.appendX (l := m1) (el := r2.1) (B := A39_0_drains) (q := c39_0_drains) Ts45 rfl rfl (H.tbx 3 rfl) (H.own 0 rfl).sl (fun _ => rfl) rfl (by decide) hg1 (by decide) fun A2 c2 w9 O1 M1 D1 => ?_)
          refine ⟨fun h => absurd h (by decide), M1.modx (XB.tbxO 1 (by decide) rfl), ?_⟩
          replace H : Hp w w9 [.own (some ⟨b2, 0, none⟩) ((([((A39_0_drains, c39_0_drains), r2.1)] : List ((Option Addr × Nat) × Trail))).length) 79 2 (List.map encTrail (([((A39_0_drains, c39_0_drains), r2.1)] : List ((Option Addr × Nat) × Trail)))), .own A24_0 c24_0 3 1 (List.map encN r2.2), .inv (tbxB A2 ((hsm1 ++ [(A39_0_drains, c39_0_drains)]))) (TbxH A2 c2 79 2 encTrail (fun x => x.drains) 3 1 encN ((hsm1 ++ [(A39_0_drains, c39_0_drains)])) ((m1 ++ [r2.1]))), .blk b1 24 [.int .i64 a0.nodes, .int .i64 a0.from_, .int .i64 a0.to_, .slice A_a0_drains a0.drains.length c_a0_drains]] := H.tbxPush (x := r2.1) 3 2 (by decide) rfl rfl M1 D1 O1
          replace R0 := H.ext
          replace hz := Nat.le_trans hz M1.size
          refine DW.thru rfl rfl rfl (fun _ EQ => RV.assign rfl) ?_
          refine DW.nil ?_
          replace H := H.pick (L' := [.own A24_0 c24_0 3 1 (List.map encN r2.2), .inv (tbxB A2 ((hsm1 ++ [(A39_0_drains, c39_0_drains)]))) (TbxH A2 c2 79 2 encTrail (fun x => x.drains) 3 1 encN ((hsm1 ++ [(A39_0_drains, c39_0_drains)])) ((m1 ++ [r2.1]))), .blk b1 24 [.int .i64 a0.nodes, .int .i64 a0.from_, .int .i64 a0.to_, .slice A_a0_drains a0.drains.length c_a0_drains]]) [1, 2, 3] (by decide) rfl
          replace R0 := H.ext
          subst hrec1
          refine ⟨mk1, Nat.lt_succ_self _, _, ?_, r2.2, ((m1 ++ [r2.1])), ((hsm1 ++ [(A39_0_drains, c39_0_drains)])), A2, c2, F, rfl, H⟩
          exact ⟨rfl, rfl, rfl, (look_slice rfl (by first | rfl | (simp; done) | omega | (simp; omega))), (look_slice rfl (by first | rfl | (simp; done) | omega | (simp; omega))), trivial⟩
      ·
        intro K14 hK14 jK81
        refine CW.block ?_
        replace H := H.nilTbx encTrail (fun x => x.drains) encN 79 2 3 1
        replace R0 := H.ext
        replace H := H.pick (L' := [.own A24_0 c24_0 3 1 (List.map encN r6), .inv (tbxB none ([])) (TbxH none 0 79 2 encTrail (fun x => x.drains) 3 1 encN ([]) (([] : List Trail))), .blk b1 24 [.int .i64 a0.nodes, .int .i64 a0.from_, .int .i64 a0.to_, .slice A_a0_drains a0.drains.length c_a0_drains]]) [1, 0, 2] (by decide) rfl
        replace R0 := H.ext
        refine CW.loop (fun meas ρ wl3 => ∃ (t6_1 : Int) (l3 : List Int) (m3 : List Trail) (hsm3 : List (Option Addr × Nat)) (Am3 : Option Addr) (cm3 : Nat), drain_Split_L2 a0 meas t6_1 l3 m3 = some res ∧ ρ = [(2, .pointer (some (⟨b1, 0, none⟩))), (4, .slice none 0 0), (5, .int .i64 0), (6, .int .i64 t6_1), (8, .slice A24_0 l3.length c24_0), (9, .slice Am3 m3.length cm3)] ∧ Hp w wl3 [.own A24_0 c24_0 3 1 (List.map encN l3), .inv (tbxB Am3 hsm3) (TbxH Am3 cm3 79 2 encTrail (fun x => x.drains) 3 1 encN hsm3 m3), .blk b1 24 [.int .i64 a0.nodes, .int .i64 a0.from_, .int .i64 a0.to_, .slice A_a0_drains a0.drains.length c_a0_drains]]) FU ⟨_, ?_, r5.1, r6, (([] : List Trail)), ([]), none, 0, F, rfl, H⟩ ?_
        · exact ⟨rfl, rfl, rfl, rfl, (look_slice rfl (by first | rfl | (simp; done) | omega | (simp; omega))), (look_slice rfl (by first | rfl | (simp; done) | omega | (simp; omega))), trivial⟩
        rintro mk2 _ wl3 ⟨t6_1, l3, m3, hsm3, Am3, cm3, F, rfl, H⟩
        have R0 := H.ext
        replace F := drain_Split_L2_s F
        obtain ⟨mk2, rfl, F⟩ := F
        generalize hrec2 : drain_Split_L2 a0 mk2 = rec2 at F
        unfold drain_Split_B2 at F
        refine CW.seq fun K15 hK15 => ?_
        refine CW.seq fun K16 hK16 => ?_
        refine CW.region ?_
        refine LW.pure rfl rfl (RV.move rfl) ?_
        refine LW.pure rfl rfl (RV.gtr rfl rfl) ?_
        refine LW.nil (hK16 _ _ ?_)
        by_cases hp4 : (0 : Int) < t6_1
        ·
          replace F := ite_y hp4 F
          have hq4 := dec_t hp4
          refine CW.condT rfl hq4 ?_
          refine CW.skip (hK15 _ _ ?_)
          refine CW.block ?_
          refine CW.seq fun K17 hK17 => ?_
          obtain ⟨r3, hr3, F⟩ := bnd_some F
          refine CW.region ?_
          refine LW.pure rfl rfl (RV.loadA [.int .i64 a0.nodes, .int .i64 a0.from_, .int .i64 a0.to_, .slice A_a0_drains a0.drains.length c_a0_drains] Tk24 rfl (H.blk 2 rfl).cells rfl rfl) ?_
          refine LW.pure rfl rfl (RV.move rfl) ?_
          refine LW.pure rfl rfl (RV.fieldAddr Tf24_1 rfl) ?_
          refine LW.pure rfl rfl (RV.load1 Tk3 rfl ((H.blk 2 rfl).cells.off 1) rfl) ?_
          refine LW.pure rfl rfl (RV.fieldAddr Tf24_2 rfl) ?_
          refine LW.pure rfl rfl (RV.load1 Tk3 rfl ((H.blk 2 rfl).cells.off 2) rfl) ?_
          refine LW.pure rfl rfl (RV.move rfl) ?_
          replace H := H.pick (L' := [.own A24_0 c24_0 3 1 (List.map encN l3), .inv (tbxB Am3 hsm3) (TbxH Am3 cm3 79 2 encTrail (fun x => x.drains) 3 1 encN hsm3 m3), .blk b1 24 [.int .i64 a0.nodes, .int .i64 a0.from_, .int .i64 a0.to_, .slice A_a0_drains a0.drains.length c_a0_drains]]) [0, 1, 2] (by decide) rfl
          replace R0 := H.ext
          refine LW.go rfl rfl (OW.call Tc87 rfl (drain_trail_ok (a0 := a0) (a1 := l3) (a2 := a0.from_) (a3 := a0.to_) (a4 := t6_1) (R := [.inv (tbxB Am3 hsm3) (TbxH Am3 cm3 79 2 encTrail (fun x => x.drains) 3 1 encN hsm3 m3), .blk b1 24 [.int .i64 a0.nodes, .int .i64 a0.from_, .int .i64 a0.to_, .slice A_a0_drains a0.drains.length c_a0_drains]]) h_a0_drains H hr3) ?_)
          rintro _ w10 ⟨A45_0_drains, c45_0_drains, rfl, hlm45_a1, Hq2⟩
          refine ⟨_, rfl, ?_⟩
          replace H : Hp w w10 [.own A24_0 c24_0 3 1 (List.map encN r3.2), .own A45_0_drains c45_0_drains 3 1 (List.map encN r3.1.drains), .inv (tbxB Am3 hsm3) (TbxH Am3 cm3 79 2 encTrail (fun x => x.drains) 3 1 encN hsm3 m3), .blk b1 24 [.int .i64 a0.nodes, .int .i64 a0.from_, .int .i64 a0.to_, .slice A_a0_drains a0.drains.length c_a0_drains]] := Hq2
          replace R0 := H.ext
          refine LW.go rfl rfl (OW.alloc Tz79 fun b3 w11 N3 => ?_)
          replace H := H.new N3 N3.blk
          replace R0 := H.ext
          refine LW.go rfl rfl (OW.store Tk79 rfl rfl (H.blk 0 rfl) (off := 0) (vs := [.slice A45_0_drains r3.1.drains.length c45_0_drains, .int .i64 r3.1.amount]) rfl rfl rfl rfl rfl fun w12 S1 => ?_)
          replace H : Hp w w12 [.blk b3 79 [.slice A45_0_drains r3.1.drains.length c45_0_drains, .int .i64 r3.1.amount], .own A24_0 c24_0 3 1 (List.map encN r3.2), .own A45_0_drains c45_0_drains 3 1 (List.map encN r3.1.drains), .inv (tbxB Am3 hsm3) (TbxH Am3 cm3 79 2 encTrail (fun x => x.drains) 3 1 encN hsm3 m3), .blk b1 24 [.int .i64 a0.nodes, .int .i64 a0.from_, .int .i64 a0.to_, .slice A_a0_drains a0.drains.length c_a0_drains]] := H.stored 0 rfl S1
          replace R0 := H.ext
          refine LW.nil (hK17 _ _ ?_)
          refine CW.seq fun K18 hK18 => ?_
          obtain ⟨hg2, F⟩ := gd_some F
          refine CW.region ?_
          refine LW.pure rfl rfl (RV.move rfl) ?_
          refine LW.pure rfl rfl (RV.loadA [.slice A45_0_drains r3.1.drains.length c45_0_drains, .int .i64 r3.1.amount] Tk79 rfl (H.blk 0 rfl).cells rfl rfl) ?_
          refine LW.go rfl rfl (OW.buildSlice (e := 79) (vs := [.agg #[.slice A45_0_drains r3.1.drains.length c45_0_drains, .int .i64 r3.1.amount]]) (cs := [.slice A45_0_drains r3.1.drains.length c45_0_drains, .int .i64 r3.1.amount]) rfl (fun _ => by kernel_rfl) fun b4 w13 N4 => ?_)
          replace H := H.made' (k := 2) (t := 79) (enc := encTrail) (l := ([((A45_0_drains, c45_0_drains), r3.1)] : List ((Option Addr × Nat) × Trail))) N4 (by have q := N4.blk; simp only [List.flatMap_cons, List.flatMap_nil, encTrail, List.append_nil, List.cons_append, List.nil_append]; first | done | exact q) (fun _ => rfl) rfl (by first | decide | omega | (simp; done) | (simp; omega))
          replace R0 := H.ext
          refine LW.go rfl rfl (OW.appendX (l := m3) (el := r3.1) (B := A45_0_drains) (q := c45_0_drains) Ts45 rfl rfl (H.tbx 4 rfl) (H.own 0 rfl).sl (fun _ => rfl) rfl (by decide) hg2 (by decide) fun A3 c3 w14 O2 M2 D2 => ?_)
          replace H : Hp w w14 [.own (some ⟨b4, 0, none⟩) ((([((A45_0_drains, c45_0_drains), r3.1)] : List ((Option Addr × Nat) × Trail))).length) 79 2 (List.map encTrail (([((A45_0_drains, c45_0_drains), r3.1)] : List ((Option Addr × Nat) × Trail)))), .blk b3 79 [.slice A45_0_drains r3.1.drains.length c45_0_drains, .int .i64 r3.1.amount], .own A24_0 c24_0 3 1 (List.map encN r3.2), .inv (tbxB A3 ((hsm3 ++ [(A45_0_drains, c45_0_drains)]))) (TbxH A3 c3 79 2 encTrail (fun x => x.drains) 3 1 encN ((hsm3 ++ [(A45_0_drains, c45_0_drains)])) ((m3 ++ [r3.1]))), .blk b1 24 [.int .i64 a0.nodes, .int .i64 a0.from_, .int .i64 a0.to_, .slice A_a0_drains a0.drains.length c_a0_drains]] := H.tbxPush (x := r3.1) 4 3 (by decide) rfl rfl M2 D2 O2
          replace R0 := H.ext
          refine LW.pure rfl rfl (RV.assign rfl) ?_
          refine LW.nil (hK18 _ _ ?_)
          obtain ⟨r4, hr4, F⟩ := bnd_some F
          refine CW.region ?_
          refine LW.pure rfl rfl (RV.loadA [.int .i64 a0.nodes, .int .i64 a0.from_, .int .i64 a0.to_, .slice A_a0_drains a0.drains.length c_a0_drains] Tk24 rfl (H.blk 4 rfl).cells rfl rfl) ?_
          refine LW.pure rfl rfl (RV.move rfl) ?_
          refine LW.pure rfl rfl (RV.fieldAddr Tf24_1 rfl) ?_
          refine LW.pure rfl rfl (RV.load1 Tk3 rfl ((H.blk 4 rfl).cells.off 1) rfl) ?_
          refine LW.go rfl rfl (OW.call Tc63 (evs_cast rfl (by first | rfl | (simp; done) | (simp; omega))) (drain_value_ok (a0 := a0) (a1 := r3.2) (a2 := a0.from_) (h_a0_drains.ext R0) (H.own 2 rfl).sl hr4) ?_)
          rintro _ w15 ⟨rfl, E5⟩
          refine ⟨_, rfl, ?_⟩
          replace H := H.grow E5
          replace R0 := H.ext
          refine LW.pure rfl rfl (RV.assign rfl) ?_
          refine LW.nil ?_
          replace H := H.pick (L' := [.own A24_0 c24_0 3 1 (List.map encN r3.2), .inv (tbxB A3 ((hsm3 ++ [(A45_0_drains, c45_0_drains)]))) (TbxH A3 c3 79 2 encTrail (fun x => x.drains) 3 1 encN ((hsm3 ++ [(A45_0_drains, c45_0_drains)])) ((m3 ++ [r3.1]))), .blk b1 24 [.int .i64 a0.nodes, .int .i64 a0.from_, .int .i64 a0.to_, .slice A_a0_drains a0.drains.length c_a0_drains]]) [2, 3, 4] (by decide) rfl
          replace R0 := H.ext
          subst hrec2
          refine ⟨mk2, Nat.lt_succ_self _, _, ?_, r4, r3.2, ((m3 ++ [r3.1])), ((hsm3 ++ [(A45_0_drains, c45_0_drains)])), A3, c3, F, rfl, H⟩
          exact ⟨rfl, rfl, rfl, rfl, (look_slice rfl (by first | rfl | (simp; done) | omega | (simp; omega))), (look_slice rfl (by first | rfl | (simp; done) | omega | (simp; omega))), trivial⟩
        ·
          replace F := ite_n hp4 F
          have hq4 := dec_f hp4
          refine CW.condF rfl hq4 ?_
          refine CW.exit (jK81 _ _ ⟨_, ?_, ⟨l3, m3, hsm3, Am3, cm3, F, rfl, H⟩⟩)
          exact ⟨rfl, rfl, rfl, (look_slice rfl (by first | rfl | (simp; done) | omega | (simp; omega))), (look_slice rfl (by first | rfl | (simp; done) | omega | (simp; omega))), trivial⟩
  ·
    replace F := ite_n hp1 F
    have hq1 := dec_f hp1
    refine CW.condT rfl (not_t hq1) ?_
    refine CW.seq fun K19 hK19 => ?_
    refine CW.region ?_
    refine LW.pure rfl rfl (RV.move rfl) ?_
    refine LW.pure rfl rfl (RV.assign rfl) ?_
    refine LW.pure rfl rfl (RV.assign rfl) ?_
    refine LW.nil (hK19 _ _ ?_)
    refine CW.ret ?_
    obtain rfl := Option.some.inj F
    refine ⟨_, (ResOK.two rfl rfl), ?_⟩
    replace H := H.nilTbx encTrail (fun x => x.drains) encN 79 2 3 1
    replace R0 := H.ext
    replace H := H.pick (L' := [.inv (tbxB none ([])) (TbxH none 0 79 2 encTrail (fun x => x.drains) 3 1 encN ([]) (([] : List Trail)))]) [0] (by decide) rfl
    replace R0 := H.ext
    exact ⟨none, 0, ([]), (by first | rfl | (simp; done) | (simp; omega)), H⟩
end Go.D2

set_option linter.unusedVariables false
set_option linter.unusedSimpArgs false
namespace Go.D2
open Go.Tb Go.Proofs Go.RowKit
theorem Tc53 : callable Try.prog 53 = true := by kernel_rfl
set_option maxRecDepth 20000 in
set_option maxHeartbeats 1000000 in
theorem law02_DrainBack_ok {a0 : Net} {A_a0_drains : Option Addr} {c_a0_drains : Nat} {w : World} {res : Bool} (h_a0_drains : Sl w A_a0_drains c_a0_drains 3 (a0.drains.map encDrain)) (F : law02_DrainBack a0 = some res) : Calls Try.prog 14 #[.agg #[.int .i64 a0.nodes, .int .i64 a0.from_, .int .i64 a0.to_, .slice A_a0_drains a0.drains.length c_a0_drains]] w (Rt w (.bool res)) := by
  refine calls_of_cw (args := [.agg #[.int .i64 a0.nodes, .int .i64 a0.from_, .int .i64 a0.to_, .slice A_a0_drains a0.drains.length c_a0_drains]]) Try.func14 rfl rfl rfl rfl ?_
  have H := Hp.start w
  have R0 := H.ext
  unfold law02_DrainBack at F
  refine CW.seq fun K1 hK1 => ?_
  refine CW.region ?_
  refine LW.go rfl rfl (OW.box rfl fun b1 w1 N1 => ?_)
  replace H := H.new N1 N1.blk
  replace R0 := H.ext
  refine LW.pure rfl rfl (RV.assign rfl) ?_
  refine LW.nil (hK1 _ _ ?_)
  refine CW.seq fun K2 hK2 => ?_
  refine CW.seq fun K3 hK3 => ?_
  obtain ⟨r1, hr1, F⟩ := bnd_some F
  refine CW.region ?_
  refine LW.pure rfl rfl (RV.loadA [.int .i64 a0.nodes, .int .i64 a0.from_, .int .i64 a0.to_, .slice A_a0_drains a0.drains.length c_a0_drains] Tk24 rfl (H.blk 0 rfl).cells rfl rfl) ?_
  refine LW.go rfl rfl (OW.call Tc16 rfl (law02_Long_ok (a0 := a0) (h_a0_drains.ext R0) hr1) ?_)
  rintro _ w2 ⟨rfl, E1⟩
  refine ⟨_, rfl, ?_⟩
  replace H := H.grow E1
  replace R0 := H.ext
  refine LW.nil (hK3 _ _ ?_)
  by_cases hp1 : r1 = true
  ·
    replace F := ite_y hp1 F
    have hq1 : r1 = true := hp1
    refine CW.condT rfl hq1 ?_
    refine CW.seq fun K4 hK4 => ?_
    obtain ⟨r2, hr2, F⟩ := bnd_some F
    refine CW.region ?_
    refine LW.go rfl rfl (OW.call Tc17 rfl (law02_known_ok hr2) ?_)
    rintro _ w3 ⟨rfl, E2⟩
    refine ⟨_, rfl, ?_⟩
    replace H := H.grow E2
    replace R0 := H.ext
    refine LW.pure rfl rfl (RV.assign rfl) ?_
    refine LW.nil (hK4 _ _ ?_)
    refine CW.ret ?_
    obtain rfl := Option.some.inj F
    refine ⟨_, (ResOK.one rfl), ?_⟩
    refine ⟨(by first | rfl | simp), R0⟩
  ·
    replace F := ite_n hp1 F
    have hq1 : r1 = false := raw_f hp1
    refine CW.condF rfl hq1 ?_
    refine CW.skip (hK2 _ _ ?_)
    refine CW.seq fun K5 hK5 => ?_
    obtain ⟨r3, hr3, F⟩ := bnd_some F
    refine CW.region ?_
    refine LW.pure rfl rfl (RV.loadA [.int .i64 a0.nodes, .int .i64 a0.from_, .int .i64 a0.to_, .slice A_a0_drains a0.drains.length c_a0_drains] Tk24 rfl (H.blk 0 rfl).cells rfl rfl) ?_
    refine LW.go rfl rfl (OW.call Tc20 rfl (drain_Flow_ok (a0 := a0) (h_a0_drains.ext R0) hr3) ?_)
    rintro _ w4 ⟨A14_0, c14_0, rfl, E3⟩
    refine ⟨_, rfl, ?_⟩
    replace H : Hp w w4 [.own A14_0 c14_0 3 1 (List.map encN r3.1), .blk b1 24 [.int .i64 a0.nodes, .int .i64 a0.from_, .int .i64 a0.to_, .slice A_a0_drains a0.drains.length c_a0_drains]] := H.append E3
    replace R0 := H.ext
    refine LW.pure rfl rfl (RV.move rfl) ?_
    refine LW.pure rfl rfl (RV.extract rfl rfl) ?_
    refine LW.pure rfl rfl (RV.extract rfl rfl) ?_
    refine LW.pure rfl rfl (RV.assign rfl) ?_
    refine LW.pure rfl rfl (RV.assign rfl) ?_
    refine LW.nil (hK5 _ _ ?_)
    refine CW.seq fun K6 hK6 => ?_
    refine CW.seq fun K7 hK7 => ?_
    refine CW.region ?_
    refine LW.pure rfl rfl (RV.move rfl) ?_
    refine LW.pure rfl rfl (RV.nei rfl rfl) ?_
    refine LW.nil (hK7 _ _ ?_)
    by_cases hp2 : r3.2 = 0
    ·
      replace F := ite_y hp2 F
      have hq2 := dec_t hp2
      refine CW.condF rfl (not_f hq2) ?_
      refine CW.skip (hK6 _ _ ?_)
      refine CW.seq fun K8 hK8 => ?_
      obtain ⟨r4, hr4, F⟩ := bnd_some F
      refine CW.region ?_
      refine LW.pure rfl rfl (RV.loadA [.int .i64 a0.nodes, .int .i64 a0.from_, .int .i64 a0.to_, .slice A_a0_drains a0.drains.length c_a0_drains] Tk24 rfl (H.blk 1 rfl).cells rfl rfl) ?_
      refine LW.pure rfl rfl (RV.move rfl) ?_
      refine LW.go rfl rfl (OW.call Tc53 rfl (drain_Split_ok (a0 := a0) (a1 := r3.1) (h_a0_drains.ext R0) (H.own 0 rfl).sl hr4) ?_)
      rintro _ w5 ⟨A16_0, c16_0, hs16_0, rfl, E4⟩
      refine ⟨_, rfl, ?_⟩
      replace H : Hp w w5 [.inv (tbxB A16_0 hs16_0) (TbxH A16_0 c16_0 79 2 encTrail (fun x => x.drains) 3 1 encN hs16_0 r4.1), .own A14_0 c14_0 3 1 (List.map encN r3.1), .blk b1 24 [.int .i64 a0.nodes, .int .i64 a0.from_, .int .i64 a0.to_, .slice A_a0_drains a0.drains.length c_a0_drains]] := H.append E4
      replace R0 := H.ext
      refine LW.pure rfl rfl (RV.move rfl) ?_
      refine LW.pure rfl rfl (RV.extract rfl rfl) ?_
      refine LW.pure rfl rfl (RV.extract rfl rfl) ?_
      refine LW.pure rfl rfl (RV.assign rfl) ?_
      refine LW.pure rfl rfl (RV.assign rfl) ?_
      refine LW.nil (hK8 _ _ ?_)
      refine CW.seq fun K9 hK9 => ?_
      obtain ⟨r5, hr5, F⟩ := bnd_some F
      refine CW.region ?_
      refine LW.pure rfl rfl (RV.loadA [.int .i64 a0.nodes, .int .i64 a0.from_, .int .i64 a0.to_, .slice A_a0_drains a0.drains.length c_a0_drains] Tk24 rfl (H.blk 2 rfl).cells rfl rfl) ?_
      refine LW.pure rfl rfl (RV.move rfl) ?_
      refine LW.go rfl rfl (OW.call Tc38 rfl (drain_Sum_ok (a0 := a0) (a1 := r4.1) (h_a0_drains.ext R0) (H.tbx 0 rfl).slT hr5) ?_)
      rintro _ w6 ⟨A18_0, c18_0, rfl, E5⟩
      refine ⟨_, rfl, ?_⟩
      replace H : Hp w w6 [.own A18_0 c18_0 3 1 (List.map encN r5.1), .inv (tbxB A16_0 hs16_0) (TbxH A16_0 c16_0 79 2 encTrail (fun x => x.drains) 3 1 encN hs16_0 r4.1), .own A14_0 c14_0 3 1 (List.map encN r3.1), .blk b1 24 [.int .i64 a0.nodes, .int .i64 a0.from_, .int .i64 a0.to_, .slice A_a0_drains a0.drains.length c_a0_drains]] := H.append E5
      replace R0 := H.ext
      refine LW.pure rfl rfl (RV.move rfl) ?_
      refine LW.pure rfl rfl (RV.extract rfl rfl) ?_
      refine LW.pure rfl rfl (RV.extract rfl rfl) ?_
      refine LW.pure rfl rfl (RV.assign rfl) ?_
      refine LW.pure rfl rfl (RV.assign rfl) ?_
      refine LW.nil (hK9 _ _ ?_)
      refine CW.seq fun K10 hK10 => ?_
      by_cases hp3 : r4.2 = 0
      ·
        replace F := ite_y hp3 F
        have hq3 := dec_t hp3
        by_cases hp4 : r5.2 = 0
        ·
          replace F := ite_y hp4 F
          have hq4 := dec_t hp4
          obtain ⟨r6, hr6, F⟩ := bnd_some F
          by_cases hp5 : r6 = true
          ·
            replace F := ite_y hp5 F
            have hq5 : r6 = true := hp5
            obtain ⟨r7, hr7, F⟩ := bnd_some F
            refine CW.region ?_
            refine LW.pure rfl rfl (RV.move rfl) ?_
            refine LW.pure rfl rfl (RV.eqi rfl rfl) ?_
            refine LW.pure rfl rfl (RV.move rfl) ?_
            refine LW.pureYB rfl rfl rfl rfl hq3 (RV.move rfl) ?_
            refine LW.pureYB rfl rfl rfl rfl hq3 (RV.eqi rfl rfl) ?_
            refine LW.pure rfl rfl (RV.pickTB rfl hq3 rfl) ?_
            refine LW.pure rfl rfl (RV.move rfl) ?_
            refine LW.pureYB rfl rfl rfl rfl hq4 (RV.move rfl) ?_
            refine LW.pureYB rfl rfl rfl rfl hq4 (RV.move rfl) ?_
            refine LW.yesB rfl rfl rfl rfl hq4 (OW.call Tc34 rfl (ref01_SameInts_ok (a0 := r5.1) (a1 := r3.1) (H.own 0 rfl).sl (H.own 2 rfl).sl hr6) ?_)
            rintro _ w7 ⟨rfl, E6⟩
            refine ⟨_, rfl, ?_⟩
            replace H := H.grow E6
            replace R0 := H.ext
            refine LW.pure rfl rfl (RV.pickTB rfl hq4 rfl) ?_
            refine LW.pure rfl rfl (RV.move rfl) ?_
            refine LW.yesB rfl rfl rfl rfl hq5 (OW.call Tc17 rfl (law02_known_ok hr7) ?_)
            rintro _ w8 ⟨rfl, E7⟩
            refine ⟨_, rfl, ?_⟩
            replace H := H.grow E7
            replace R0 := H.ext
            refine LW.pure rfl rfl (RV.pickTB rfl hq5 rfl) ?_
            refine LW.pure rfl rfl (RV.assign rfl) ?_
            refine LW.nil (hK10 _ _ ?_)
            refine CW.ret ?_
            obtain rfl := Option.some.inj F
            refine ⟨_, (ResOK.one rfl), ?_⟩
            refine ⟨(by first | rfl | simp), R0⟩
          ·
            replace F := ite_n hp5 F
            have hq5 : r6 = false := raw_f hp5
            refine CW.region ?_
            refine LW.pure rfl rfl (RV.move rfl) ?_
            refine LW.pure rfl rfl (RV.eqi rfl rfl) ?_
            refine LW.pure rfl rfl (RV.move rfl) ?_
            refine LW.pureYB rfl rfl rfl rfl hq3 (RV.move rfl) ?_
            refine LW.pureYB rfl rfl rfl rfl hq3 (RV.eqi rfl rfl) ?_
            refine LW.pure rfl rfl (RV.pickTB rfl hq3 rfl) ?_
            refine LW.pure rfl rfl (RV.move rfl) ?_
            refine LW.pureYB rfl rfl rfl rfl hq4 (RV.move rfl) ?_
            refine LW.pureYB rfl rfl rfl rfl hq4 (RV.move rfl) ?_
            refine LW.yesB rfl rfl rfl rfl hq4 (OW.call Tc34 rfl (ref01_SameInts_ok (a0 := r5.1) (a1 := r3.1) (H.own 0 rfl).sl (H.own 2 rfl).sl hr6) ?_)
            rintro _ w9 ⟨rfl, E8⟩
            refine ⟨_, rfl, ?_⟩
            replace H := H.grow E8
            replace R0 := H.ext
            refine LW.pure rfl rfl (RV.pickTB rfl hq4 rfl) ?_
            refine LW.pure rfl rfl (RV.move rfl) ?_
            refine LW.noB rfl rfl rfl rfl (ne_beq (v := false) hq5 rfl) ?_
            refine LW.pure rfl rfl (RV.pickFB rfl hq5 rfl) ?_
            refine LW.pure rfl rfl (RV.assign rfl) ?_
            refine LW.nil (hK10 _ _ ?_)
            refine CW.ret ?_
            obtain rfl := Option.some.inj F
            refine ⟨_, (ResOK.one rfl), ?_⟩
            refine ⟨(by first | rfl | simp), R0⟩
        ·
          replace F := ite_n hp4 F
          have hq4 := dec_f hp4
          refine CW.region ?_
          refine LW.pure rfl rfl (RV.move rfl) ?_
          refine LW.pure rfl rfl (RV.eqi rfl rfl) ?_
          refine LW.pure rfl rfl (RV.move rfl) ?_
          refine LW.pureYB rfl rfl rfl rfl hq3 (RV.move rfl) ?_
          refine LW.pureYB rfl rfl rfl rfl hq3 (RV.eqi rfl rfl) ?_
          refine LW.pure rfl rfl (RV.pickTB rfl hq3 rfl) ?_
          refine LW.pure rfl rfl (RV.move rfl) ?_
          refine LW.noB rfl rfl rfl rfl (ne_beq (v := false) hq4 rfl) ?_
          refine LW.noB rfl rfl rfl rfl (ne_beq (v := false) hq4 rfl) ?_
          refine LW.noB rfl rfl rfl rfl (ne_beq (v := false) hq4 rfl) ?_
          refine LW.pure rfl rfl (RV.pickFB rfl hq4 rfl) ?_
          refine LW.pure rfl rfl (RV.move rfl) ?_
          refine LW.noB rfl rfl rfl rfl (ne_beq (v := false) rfl rfl) ?_
          refine LW.pure rfl rfl (RV.pickFB rfl rfl rfl) ?_
          refine LW.pure rfl rfl (RV.assign rfl) ?_
          refine LW.nil (hK10 _ _ ?_)
          refine CW.ret ?_
          obtain rfl := Option.some.inj F
          refine ⟨_, (ResOK.one rfl), ?_⟩
          refine ⟨(by first | rfl | simp), R0⟩
      ·
        replace F := ite_n hp3 F
        have hq3 := dec_f hp3
        refine CW.region ?_
        refine LW.pure rfl rfl (RV.move rfl) ?_
        refine LW.pure rfl rfl (RV.eqi rfl rfl) ?_
        refine LW.pure rfl rfl (RV.move rfl) ?_
        refine LW.noB rfl rfl rfl rfl (ne_beq (v := false) hq3 rfl) ?_
        refine LW.noB rfl rfl rfl rfl (ne_beq (v := false) hq3 rfl) ?_
        refine LW.pure rfl rfl (RV.pickFB rfl hq3 rfl) ?_
        refine LW.pure rfl rfl (RV.move rfl) ?_
        refine LW.noB rfl rfl rfl rfl (ne_beq (v := false) rfl rfl) ?_
        refine LW.noB rfl rfl rfl rfl (ne_beq (v := false) rfl rfl) ?_
        refine LW.noB rfl rfl rfl rfl (ne_beq (v := false) rfl rfl) ?_
        refine LW.pure rfl rfl (RV.pickFB rfl rfl rfl) ?_
        refine LW.pure rfl rfl (RV.move rfl) ?_
        refine LW.noB rfl rfl rfl rfl (ne_beq (v := false) rfl rfl) ?_
        refine LW.pure rfl rfl (RV.pickFB rfl rfl rfl) ?_
        refine LW.pure rfl rfl (RV.assign rfl) ?_
        refine LW.nil (hK10 _ _ ?_)
        refine CW.ret ?_
        obtain rfl := Option.some.inj F
        refine ⟨_, (ResOK.one rfl), ?_⟩
        refine ⟨(by first | rfl | simp), R0⟩
    ·
      replace F := ite_n hp2 F
      have hq2 := dec_f hp2
      refine CW.condT rfl (not_t hq2) ?_
      refine CW.seq fun K11 hK11 => ?_
      obtain ⟨r8, hr8, F⟩ := bnd_some F
      refine CW.region ?_
      refine LW.go rfl rfl (OW.call Tc17 rfl (law02_known_ok hr8) ?_)
      rintro _ w10 ⟨rfl, E9⟩
      refine ⟨_, rfl, ?_⟩
      replace H := H.grow E9
      replace R0 := H.ext
      refine LW.pure rfl rfl (RV.assign rfl) ?_
      refine LW.nil (hK11 _ _ ?_)
      refine CW.ret ?_
      obtain rfl := Option.some.inj F
      refine ⟨_, (ResOK.one rfl), ?_⟩
      refine ⟨(by first | rfl | simp), R0⟩
end Go.D2

namespace Go.Tb
/-- A loop over 0 .. N - 1 with a state, that is left at the first i for which p does not hold. -/
theorem scan_loop {S R : Type} (N : Nat) (p : Nat → Bool) (g : Nat → S) (L : Nat → S → Int → Option R) (yes : Option R) (no : Nat → Option R)
    (step : ∀ n i : Nat, i < N → L (n + 1) (g i) (i : Int) = if p i = true then L n (g (i + 1)) ((i + 1 : Nat) : Int) else no i)
    (stop : ∀ n : Nat, L (n + 1) (g N) (N : Int) = yes) : ∀ (d n i : Nat), N = i + d → d < n → L n (g i) (i : Int) = match (List.range' i d).find? (fun j => !p j) with | none => yes | some j => no j
  | 0, n + 1, i, hd, hn => by
    have hi : i = N := by omega
    subst hi
    rw [stop n]; rfl
  | d + 1, n + 1, i, hd, hn => by
    rw [step n i (by omega), List.range'_succ, List.find?_cons]
    cases hp : p i
    · simp
    · simp only [if_true, Bool.not_true]
      exact scan_loop N p g L yes no step stop d n (i + 1) (by omega) (by omega)
theorem find_all {p : Nat → Bool} {i d : Nat} : (List.range' i d).find? (fun j => !p j) = none ↔ ∀ j, i ≤ j → j < i + d → p j = true := by
  rw [List.find?_eq_none]
  constructor
  · intro h j h1 h2
    have := h j (by rw [List.mem_range'_1]; omega)
    simpa using this
  · intro h x hx
    rw [List.mem_range'_1] at hx
    simp [h x hx.1 hx.2]
/-- A loop over 0 .. N - 1 with a state and no way out. -/
theorem for_loop {S R : Type} (N : Nat) (g : Nat → S) (L : Nat → S → Int → Option R) (yes : Option R)
    (step : ∀ n i : Nat, i < N → L (n + 1) (g i) (i : Int) = L n (g (i + 1)) ((i + 1 : Nat) : Int))
    (stop : ∀ n : Nat, L (n + 1) (g N) (N : Int) = yes) : ∀ (d n i : Nat), N = i + d → d < n → L n (g i) (i : Int) = yes
  | 0, n + 1, i, hd, hn => by
    have hi : i = N := by omega
    subst hi
    exact stop n
  | d + 1, n + 1, i, hd, hn => by
    rw [step n i (by omega)]
    exact for_loop N g L yes step stop d n (i + 1) (by omega) (by omega)
theorem for_loop0 {S R : Type} (N : Nat) (g : Nat → S) (L : Nat → S → Int → Option R) (yes : Option R)
    (step : ∀ n i : Nat, i < N → L (n + 1) (g i) (i : Int) = L n (g (i + 1)) ((i + 1 : Nat) : Int))
    (stop : ∀ n : Nat, L (n + 1) (g N) (N : Int) = yes) (hN : N ≤ 9223372036854775807) : L FU (g 0) 0 = yes :=
  for_loop N g L yes step stop N FU 0 (by omega) (by have := FU_pos; omega)
theorem scan_loop0 {S R : Type} (N : Nat) (p : Nat → Bool) (g : Nat → S) (L : Nat → S → Int → Option R) (yes no : Option R)
    (step : ∀ n i : Nat, i < N → L (n + 1) (g i) (i : Int) = if p i = true then L n (g (i + 1)) ((i + 1 : Nat) : Int) else no)
    (stop : ∀ n : Nat, L (n + 1) (g N) (N : Int) = yes) (hN : N ≤ 9223372036854775807) : L FU (g 0) 0 = if (∀ j, j < N → p j = true) then yes else no := by
  have h := scan_loop N p g L yes (fun _ => no) step stop N FU 0 (by omega) (by have := FU_pos; omega)
  refine Eq.trans h ?_
  cases hf : (List.range' 0 N).find? (fun j => !p j) with
  | none => rw [if_pos (fun j hj => find_all.1 hf j (by omega) (by omega))]
  | some j =>
    have h1 := List.find?_some hf
    have h2 := List.mem_of_find?_eq_some hf
    rw [List.mem_range'_1] at h2
    rw [if_neg]
    intro hall
    have := hall j (by omega)
    simp [this] at h1
/-- The same over the elements of a list. -/
theorem list_loop0 {α R : Type} (l : List α) (p : α → Bool) (L : Nat → Int → Option R) (yes no : Option R)
    (step : ∀ (n i : Nat) (x : α), l[i]? = some x → L (n + 1) (i : Int) = if p x = true then L n ((i + 1 : Nat) : Int) else no)
    (stop : ∀ n : Nat, L (n + 1) (l.length : Int) = yes) (hl : l.length ≤ 9223372036854775807) : L FU 0 = if l.all p = true then yes else no := by
  have h := scan_loop0 l.length (fun i => (l[i]?.map p).getD true) (fun _ => ()) (fun n _ i => L n i) yes no (fun n i hi => by
    have hx : l[i]? = some l[i] := by simp [hi]
    rw [step n i _ hx]; simp [hx]) stop hl
  refine Eq.trans h ?_
  by_cases ha : l.all p = true
  · rw [if_pos ha, if_pos]
    intro j hj
    have := List.all_eq_true.1 ha l[j] (List.getElem_mem hj)
    simp [hj, this]
  · rw [if_neg ha, if_neg]
    intro hc
    refine ha (List.all_eq_true.2 fun x hx => ?_)
    obtain ⟨j, hj⟩ := List.getElem?_of_mem hx
    have := hc j (lt_of_at hj)
    simpa [hj] using this
end Go.Tb

set_option linter.unusedVariables false
set_option linter.unusedSimpArgs false
namespace Go.D2
open Go.Tb
theorem known_eq : law02_known = some true := by decide +kernel
theorem ix0 {α β : Type} {l : List α} {k : α → Option β} {x : α} (h : l[0]? = some x) : ix l 0 k = k x := ix_nat (i := 0) h
theorem for0 {S R : Type} (N : Nat) (g : Nat → S) (L : Nat → S → Int → Option R) (yes : Option R) {s0 : S} (h0 : g 0 = s0)
    (step : ∀ n i : Nat, i < N → L (n + 1) (g i) (i : Int) = L n (g (i + 1)) ((i + 1 : Nat) : Int))
    (stop : ∀ n : Nat, L (n + 1) (g N) (N : Int) = yes) (hN : N ≤ 9223372036854775807) : L FU s0 0 = yes := by
  rw [← h0]; exact for_loop0 N g L yes step stop hN
def within (n lo hi : Int) : Bool := decide (lo ≤ n) && decide (n ≤ hi)
theorem within_iff {n lo hi : Int} : within n lo hi = true ↔ lo ≤ n ∧ n ≤ hi := by unfold within; simp
theorem from_eq (n lo hi : Int) : drain_from n lo hi = some (within n lo hi) := by
  unfold drain_from within
  by_cases h : lo ≤ n <;> simp [h]
def isNode (n : Net) (i : Int) : Bool := within i 0 (n.nodes - 1)
theorem isNode_eq {n : Net} (h : InR (n.nodes - 1)) (i : Int) : drain_isNode n i = some (isNode n i) := by
  unfold drain_isNode isNode
  rw [gd_pos h, bnd_eq (from_eq _ _ _)]
def okD (n : Net) (d : Drain) : Bool := isNode n d.from_ && isNode n d.to_ && !decide (d.from_ = d.to_) && within d.width 0 20
def okH (n : Net) : Bool := within n.nodes 2 8 && isNode n n.from_ && isNode n n.to_ && !decide (n.from_ = n.to_)
def validate (n : Net) : Int := if okH n = true then (if 16 < n.drains.length then 3 else if n.drains.all (okD n) = true then 0 else 1) else 1
theorem Validate_eq {n : Net} (hl : n.drains.length ≤ 1000) : drain_Validate n = some (validate n) := by
  unfold drain_Validate validate okH
  rw [bnd_eq (from_eq _ _ _)]
  cases h1 : within n.nodes 2 8
  · rw [if_neg (by simp)]; unfold drain_Validate_k3; rw [if_pos rfl, if_neg (by simp)]
  · have hn := within_iff.1 h1
    have hr : InR (n.nodes - 1) := by omega
    rw [if_pos rfl, bnd_eq (isNode_eq hr _)]
    cases h2 : isNode n n.from_
    · rw [if_neg (by simp)]; unfold drain_Validate_k3; rw [if_pos rfl, if_neg (by simp)]
    · rw [if_pos rfl, bnd_eq (isNode_eq hr _)]
      cases h3 : isNode n n.to_
      · rw [if_neg (by simp)]; unfold drain_Validate_k3; rw [if_pos rfl, if_neg (by simp)]
      · rw [if_pos rfl]
        unfold drain_Validate_k3
        by_cases h4 : n.from_ = n.to_
        · rw [if_pos (by simp [h4]), if_neg (show ¬ (true && true && true && !decide (n.from_ = n.to_)) = true by simp [h4])]
        · rw [if_neg (by simp [h4]), if_pos (show (true && true && true && !decide (n.from_ = n.to_)) = true by simp [h4])]
          by_cases h5 : 16 < n.drains.length
          · rw [if_pos (by omega), if_pos h5]
          · rw [if_neg (by omega), if_neg h5, list_loop0 n.drains (okD n) (drain_Validate_L1 n) (some 0) (some 1) (fun m i x hx => ?_) (fun m => ?_) (by omega)]
            · split <;> rfl
            · have := lt_of_at hx
              show drain_Validate_B1 n (drain_Validate_L1 n m) _ = _
              unfold drain_Validate_B1 okD
              rw [if_pos (by omega), ix_nat hx, bnd_eq (isNode_eq hr _)]
              unfold drain_Validate_k2
              cases isNode n x.from_
              · rw [if_neg (by simp), if_pos rfl, if_neg (by simp)]
              · rw [if_pos rfl, bnd_eq (isNode_eq hr _)]
                cases isNode n x.to_
                · rw [if_neg (by simp), if_pos rfl, if_neg (by simp)]
                · rw [if_pos rfl]
                  by_cases h6 : x.from_ = x.to_
                  · rw [if_pos h6, if_pos rfl, if_neg (by simp [h6])]
                  · rw [if_neg h6, bnd_eq (from_eq _ _ _)]
                    cases within x.width 0 20
                    · rw [if_pos (by rfl), if_neg (by simp)]
                    · rw [if_neg (by simp), gd_pos (by omega), if_pos (by simp [h6])]; rfl
            · show drain_Validate_B1 n (drain_Validate_L1 n m) _ = _
              unfold drain_Validate_B1
              rw [if_neg (by omega)]; rfl
/-- A net that is right, but for how wide its drains are. -/
structure Net0 (n : Net) : Prop where
  n2 : 2 ≤ n.nodes
  n8 : n.nodes ≤ 8
  s0 : 0 ≤ n.from_ ∧ n.from_ < n.nodes
  t0 : 0 ≤ n.to_ ∧ n.to_ < n.nodes
  ne : n.from_ ≠ n.to_
  len : n.drains.length ≤ 16
  dr : ∀ d ∈ n.drains, (0 ≤ d.from_ ∧ d.from_ < n.nodes) ∧ (0 ≤ d.to_ ∧ d.to_ < n.nodes) ∧ d.from_ ≠ d.to_ ∧ 0 ≤ d.width ∧ d.width ≤ 1000
structure NetOk (n : Net) : Prop extends Net0 n where
  w20 : ∀ d ∈ n.drains, d.width ≤ 20
theorem val0 {n : Net} : validate n = 0 ↔ NetOk n := by
  unfold validate
  constructor
  · intro h
    split at h
    · rename_i hh
      split at h
      · cases h
      · split at h
        · rename_i hl ha
          unfold okH isNode at hh
          simp only [Bool.and_eq_true, within_iff, Bool.not_eq_true', decide_eq_false_iff_not] at hh
          obtain ⟨⟨⟨h1, h2⟩, h3⟩, h4⟩ := hh
          have hd : ∀ d ∈ n.drains, (0 ≤ d.from_ ∧ d.from_ ≤ n.nodes - 1) ∧ (0 ≤ d.to_ ∧ d.to_ ≤ n.nodes - 1) ∧ d.from_ ≠ d.to_ ∧ 0 ≤ d.width ∧ d.width ≤ 20 := fun d hd => by
            have := List.all_eq_true.1 ha d hd
            unfold okD isNode at this
            simp only [Bool.and_eq_true, within_iff, Bool.not_eq_true', decide_eq_false_iff_not] at this
            obtain ⟨⟨⟨a1, a2⟩, a3⟩, a4⟩ := this
            exact ⟨a1, a2, a3, a4.1, a4.2⟩
          exact ⟨⟨h1.1, h1.2, by omega, by omega, h4, by omega, fun d hd' => by have := hd d hd'; exact ⟨by omega, by omega, this.2.2.1, by omega, by omega⟩⟩, fun d hd' => (hd d hd').2.2.2.2⟩
        · cases h
    · cases h
  · intro h
    rw [if_pos, if_neg (by have := h.len; omega), if_pos]
    · rw [List.all_eq_true]
      intro d hd
      have := h.dr d hd
      have h20 := h.w20 d hd
      unfold okD isNode
      simp only [Bool.and_eq_true, within_iff, Bool.not_eq_true', decide_eq_false_iff_not]
      exact ⟨⟨⟨by omega, by omega⟩, this.2.2.1⟩, by omega⟩
    · have h1 := h.n2; have h2 := h.n8; have h3 := h.s0; have h4 := h.t0
      unfold okH isNode
      simp only [Bool.and_eq_true, within_iff, Bool.not_eq_true', decide_eq_false_iff_not]
      exact ⟨⟨⟨by omega, by omega⟩, by omega⟩, h.ne⟩
end Go.D2

set_option linter.unusedVariables false
set_option linter.unusedSimpArgs false
namespace Go.D2
open Go.Tb
def Eds (l : List Left) : List Ed := l.map toEd
def Caps (l : List Left) : Prop := ∀ d ∈ l, 0 ≤ d.runs ∧ d.runs ≤ d.drain.width ∧ d.drain.width ≤ 1000
theorem eds_at {l : List Left} {i : Nat} {e : Ed} (h : (Eds l)[i]? = some e) : ∃ d, l[i]? = some d ∧ e = toEd d := by
  unfold Eds at h
  rw [List.getElem?_map] at h
  cases hd : l[i]? with
  | none => rw [hd] at h; cases h
  | some d => rw [hd] at h; cases h; exact ⟨d, rfl, rfl⟩
theorem caps_room {l : List Left} (h : Caps l) : RoomOk (Eds l) := fun e he => by
  obtain ⟨d, hd, rfl⟩ := List.mem_map.1 he
  have := h d hd
  show InR d.runs ∧ InR (d.drain.width - d.runs)
  omega
theorem left_room_eq {d : Left} {u : Int} (h : 0 ≤ d.runs ∧ d.runs ≤ d.drain.width ∧ d.drain.width ≤ 1000) : drain_left_room d u = some (other (toEd d) u, room (toEd d) u) := by
  unfold drain_left_room other room
  by_cases h1 : d.drain.from_ = u
  · have h2 : (toEd d).a = u := h1
    rw [if_pos h1, if_pos h2, if_pos h2]; exact gd_pos (by omega)
  · have h2 : ¬ (toEd d).a = u := h1
    rw [if_neg h1, if_neg h2, if_neg h2]; rfl
def ints (ks : List Nat) : List Int := ks.map (fun (q : Nat) => (q : Int))
theorem ints_at {pre suf : List Nat} {i : Nat} : (ints (pre ++ i :: suf))[pre.length]? = some (i : Int) := by
  unfold ints
  rw [List.getElem?_map, List.getElem?_append_right (Nat.le_refl _)]; simp
/-- The smallest room along a way. -/
def minRoom (E : List Ed) : Int → Int → List Nat → Int
  | _, m, [] => m
  | u, m, i :: r => match E[i]? with
    | some e => minRoom E (other e u) (if m < 0 ∨ room e u < m then room e u else m) r
    | none => m
theorem minRoom_spec {E : List Ed} : ∀ (ks : List Nat) (vis : List Int) (u v m : Int), SP E vis u ks v → (0 < m ∨ (m < 0 ∧ ks ≠ [])) → 0 < minRoom E u m ks ∧ (0 < m → minRoom E u m ks ≤ m) ∧ AllRoom E (minRoom E u m ks) u ks
  | [], vis, u, v, m, h, hm => by
    rcases hm with h1 | ⟨_, h1⟩
    · exact ⟨h1, fun _ => Int.le_refl _, trivial⟩
    · exact absurd rfl h1
  | i :: r, vis, u, v, m, h, hm => by
    obtain ⟨e, he, hu, hp, hn, hr⟩ := h
    have e1 : minRoom E u m (i :: r) = minRoom E (other e u) (if m < 0 ∨ room e u < m then room e u else m) r := by simp only [minRoom, he]
    rw [e1]
    have hm' : 0 < (if m < 0 ∨ room e u < m then room e u else m) := by
      split
      · exact hp
      · rename_i hc
        rcases hm with h1 | ⟨h1, h1'⟩
        · exact h1
        · exact absurd (.inl h1) hc
    obtain ⟨i1, i2, i3⟩ := minRoom_spec r (u :: vis) (other e u) v _ hr (.inl hm')
    have i2 := i2 hm'
    generalize minRoom E (other e u) (if m < 0 ∨ room e u < m then room e u else m) r = q at *
    refine ⟨i1, fun h0 => ?_, e, he, ?_, i3⟩
    · split at i2 <;> omega
    · split at i2
      · exact i2
      · rename_i hc; omega
theorem run_L2 {n : Net} {l : List Left} (hc : Caps l) (rec2 : List Left → Option (List Left)) {ks : List Nat} (hk : ks.length ≤ 1000) : ∀ (suf pre : List Nat) (vis : List Int) (u v m : Int) (k : Nat), ks = pre ++ suf → SP (Eds l) vis u suf v → suf.length < k →
    drain_run_L2 n l rec2 (ints ks) k u m (pre.length : Int) = drain_run_k2 n l rec2 (ints ks) (minRoom (Eds l) u m suf)
  | [], pre, vis, u, v, m, k + 1, hks, h, hlt => by
    show drain_run_B2 n l rec2 (ints ks) (drain_run_L2 n l rec2 (ints ks) k) u m _ = _
    unfold drain_run_B2
    rw [if_neg (by rw [hks]; simp [ints])]; rfl
  | i :: r, pre, vis, u, v, m, k + 1, hks, h, hlt => by
    have h0 := h
    obtain ⟨e, he, hu, hp, hn, hr⟩ := h
    obtain ⟨d, hd, rfl⟩ := eds_at he
    have hcd := hc d (List.mem_of_getElem? hd)
    have hpl : pre.length < 1000 := by rw [hks] at hk; simp at hk; omega
    have ih := run_L2 (n := n) hc rec2 hk r (pre ++ [i]) (u :: vis) (other (toEd d) u) v (if m < 0 ∨ room (toEd d) u < m then room (toEd d) u else m) k (by rw [hks]; simp) hr (by simp at hlt; omega)
    have e1 : minRoom (Eds l) u m (i :: r) = minRoom (Eds l) (other (toEd d) u) (if m < 0 ∨ room (toEd d) u < m then room (toEd d) u else m) r := by simp only [minRoom, he]
    have e2 : (((pre ++ [i]).length : Nat) : Int) = (pre.length : Int) + 1 := by simp
    rw [e1, ← ih, e2]
    show drain_run_B2 n l rec2 (ints ks) (drain_run_L2 n l rec2 (ints ks) k) u m _ = _
    unfold drain_run_B2
    have hi : (ints ks)[pre.length]? = some (i : Int) := by rw [hks]; exact ints_at
    rw [if_pos (by have := lt_of_at hi; omega), ix_nat hi, ix_nat hd, bnd_eq (left_room_eq hcd)]
    unfold drain_run_k4 drain_run_k3
    by_cases h1 : m < 0
    · rw [if_pos h1, if_pos rfl, gd_pos (by omega), if_pos (.inl h1)]
    · rw [if_neg h1]
      by_cases h2 : room (toEd d) u < m
      · rw [if_pos (by simpa using h2), gd_pos (by omega), if_pos (.inr h2)]
      · rw [if_neg (by simpa using h2), gd_pos (by omega), if_neg (by omega)]
def moreL (m : Int) (d : Left) (u : Int) : Left := if d.drain.from_ = u then ⟨d.drain, d.runs + m⟩ else ⟨d.drain, d.runs - m⟩
theorem moreL_ed (m : Int) (d : Left) (u : Int) : toEd (moreL m d u) = more m (toEd d) u := by
  unfold moreL more
  by_cases h : d.drain.from_ = u
  · have h2 : (toEd d).a = u := h
    rw [if_pos h, if_pos h2]; rfl
  · have h2 : ¬ (toEd d).a = u := h
    rw [if_neg h, if_neg h2]; rfl
def augL (m : Int) : List Left → Int → List Nat → List Left
  | l, _, [] => l
  | l, u, i :: r => match l[i]? with
    | some d => augL m (l.set i (moreL m d u)) (other (toEd d) u) r
    | none => l
theorem eds_set {l : List Left} {i : Nat} {m : Int} {d : Left} {u : Int} : Eds (l.set i (moreL m d u)) = (Eds l).set i (more m (toEd d) u) := by
  unfold Eds
  rw [List.map_set, moreL_ed]
theorem augL_ed {m : Int} : ∀ (ks : List Nat) (l : List Left) (u : Int), Eds (augL m l u ks) = aug m (Eds l) u ks
  | [], l, u => rfl
  | i :: r, l, u => by
    cases hd : l[i]? with
    | none =>
      have he : (Eds l)[i]? = none := by unfold Eds; rw [List.getElem?_map, hd]; rfl
      simp only [augL, aug, hd, he]
    | some d =>
      have he : (Eds l)[i]? = some (toEd d) := by unfold Eds; rw [List.getElem?_map, hd]; rfl
      simp only [augL, aug, hd, he]
      rw [augL_ed r, eds_set]
theorem augL_drains {m : Int} : ∀ (ks : List Nat) (l : List Left) (u : Int), (augL m l u ks).map Left.drain = l.map Left.drain
  | [], l, u => rfl
  | i :: r, l, u => by
    cases hd : l[i]? with
    | none => simp only [augL, hd]
    | some d =>
      simp only [augL, hd]
      rw [augL_drains r, List.map_set]
      have : (moreL m d u).drain = d.drain := by unfold moreL; split <;> rfl
      rw [this]
      apply List.ext_getElem?
      intro j
      rw [List.getElem?_set]
      by_cases h : i = j
      · subst h
        have := lt_of_at hd
        rw [if_pos rfl, if_pos (by simpa using this), List.getElem?_map, hd]; rfl
      · rw [if_neg h]
theorem caps_set {l : List Left} {i : Nat} {d d' : Left} (hc : Caps l) (h : 0 ≤ d'.runs ∧ d'.runs ≤ d'.drain.width ∧ d'.drain.width ≤ 1000) : Caps (l.set i d') := fun x hx => by
  rcases List.mem_or_eq_of_mem_set hx with h1 | rfl
  · exact hc x h1
  · exact h
theorem run_L1 (rec2 : List Left → Option (List Left)) {ks : List Nat} (hk : ks.length ≤ 1000) {m : Int} (hm : 0 ≤ m ∧ m ≤ 1000) : ∀ (suf pre : List Nat) (vis : List Int) (u v : Int) (l : List Left) (k : Nat), ks = pre ++ suf → Caps l → SP (Eds l) vis u suf v → AllRoom (Eds l) m u suf → suf.length < k →
    drain_run_L1 rec2 (ints ks) m k u (pre.length : Int) l = rec2 (augL m l u suf)
  | [], pre, vis, u, v, l, k + 1, hks, hc, h, ha, hlt => by
    show drain_run_B1 rec2 (ints ks) m (drain_run_L1 rec2 (ints ks) m k) u _ l = _
    unfold drain_run_B1
    rw [if_neg (by rw [hks]; simp [ints])]; rfl
  | i :: r, pre, vis, u, v, l, k + 1, hks, hc, h, ha, hlt => by
    have honce := sp_once h
    obtain ⟨e, he, hu, hp, hn, hr⟩ := h
    obtain ⟨e0, he0, hmr, har⟩ := ha
    rw [he] at he0; cases he0
    obtain ⟨d, hd, rfl⟩ := eds_at he
    have hcd := hc d (List.mem_of_getElem? hd)
    have hpl : pre.length < 1000 := by rw [hks] at hk; simp at hk; omega
    have hcong : ∀ j ∈ r, (Eds (l.set i (moreL m d u)))[j]? = (Eds l)[j]? := fun j hj => by
      rw [eds_set, List.getElem?_set_ne (fun h : i = j => honce (by rw [h]; exact hj))]
    have hcm : 0 ≤ (moreL m d u).runs ∧ (moreL m d u).runs ≤ (moreL m d u).drain.width ∧ (moreL m d u).drain.width ≤ 1000 := by
      unfold room at hmr
      unfold moreL
      by_cases h1 : d.drain.from_ = u
      · have h2 : (toEd d).a = u := h1
        rw [if_pos h2] at hmr
        rw [if_pos h1]
        have : m ≤ d.drain.width - d.runs := hmr
        simp only; omega
      · have h2 : ¬ (toEd d).a = u := h1
        rw [if_neg h2] at hmr
        rw [if_neg h1]
        have : m ≤ d.runs := hmr
        simp only; omega
    have ih := run_L1 rec2 hk hm r (pre ++ [i]) (u :: vis) (other (toEd d) u) v (l.set i (moreL m d u)) k (by rw [hks]; simp) (caps_set (d := d) hc hcm) (sp_congr r _ _ v hcong hr) (allRoom_congr r _ hcong har) (by simp at hlt; omega)
    have e1 : augL m l u (i :: r) = augL m (l.set i (moreL m d u)) (other (toEd d) u) r := by simp only [augL, hd]
    have e2 : (((pre ++ [i]).length : Nat) : Int) = (pre.length : Int) + 1 := by simp
    rw [e1, ← ih, e2]
    show drain_run_B1 rec2 (ints ks) m (drain_run_L1 rec2 (ints ks) m k) u _ l = _
    unfold drain_run_B1
    have hi : (ints ks)[pre.length]? = some (i : Int) := by rw [hks]; exact ints_at
    rw [if_pos (by have := lt_of_at hi; omega), ix_nat hi, ix_nat hd, bnd_eq (left_room_eq hcd), ix_nat hd]
    unfold drain_run_k1 moreL
    by_cases h1 : d.drain.from_ = u
    · rw [if_pos h1, ix_nat hd, gd_pos (by omega), ix_nat hd, gd_pos (by omega), if_pos h1]; rfl
    · rw [if_neg h1, ix_nat hd, gd_pos (by omega), ix_nat hd, gd_pos (by omega), if_neg h1]; rfl
/-- What is known of the program's drains. -/
structure FlowL (n : Net) (l : List Left) : Prop where
  drains : l.map Left.drain = n.drains
  flow : Flow n.nodes.toNat n.from_ n.to_ (Eds l)
  caps : Caps l
theorem flowL_ne {n : Net} {l : List Left} (hn : Net0 n) (h : FlowL n l) : ∀ e ∈ Eds l, e.a ≠ e.b := fun e he => by
  obtain ⟨d, hd, rfl⟩ := List.mem_map.1 he
  have : d.drain ∈ n.drains := by rw [← h.drains]; exact List.mem_map_of_mem hd
  exact (hn.dr _ this).2.2.1
theorem sp_len {E : List Ed} : ∀ (ks : List Nat) (vis : List Int) (u v : Int), SP E vis u ks v → (∀ i ∈ ks, i < E.length) ∧ ks.Nodup
  | [], _, _, _, _ => ⟨by simp, List.nodup_nil⟩
  | i :: r, vis, u, v, h => by
    have h1 := sp_once h
    obtain ⟨e, he, _, _, _, hr⟩ := h
    have ⟨i1, i2⟩ := sp_len r _ _ _ hr
    exact ⟨fun j hj => by
      rcases List.mem_cons.1 hj with rfl | hj
      · exact lt_at he
      · exact i1 j hj, List.nodup_cons.2 ⟨h1, i2⟩⟩
theorem nodup_len : ∀ (n : Nat) (ks : List Nat), (∀ i ∈ ks, i < n) → ks.Nodup → ks.length ≤ n
  | 0, [], _, _ => Nat.le_refl _
  | 0, i :: r, h, _ => absurd (h i (List.mem_cons_self ..)) (by omega)
  | n + 1, ks, h, hd => by
    have h1 : (ks.erase n).length ≤ n := nodup_len n (ks.erase n) (fun i hi => by
      have h2 := h i (List.mem_of_mem_erase hi)
      have h3 : i ≠ n := fun e => by rw [e] at hi; exact (List.Nodup.mem_erase_iff hd).1 hi |>.1 rfl
      omega) (hd.erase n)
    have := List.length_erase_le (a := n) (l := ks)
    by_cases hm : n ∈ ks
    · have := List.length_erase_of_mem hm; omega
    · rw [List.erase_of_not_mem hm] at h1; omega
/-- The search in the program's drains. -/
theorem search_eq {n : Net} {l : List Left} (hn : Net0 n) (h : FlowL n l) {s t : Int} (hs : 0 ≤ s ∧ s < n.nodes) (hst : s ≠ t) :
    (∃ ks : List Nat, ks ≠ [] ∧ ks.length ≤ 1000 ∧ drain_search l s t = some (ints ks) ∧ SP (Eds l) [] s ks t) ∨ (drain_search l s t = some [] ∧ ∃ S : Int → Bool, S s = true ∧ S t = false ∧ Closed S (Eds l) ∧ ∀ v, S v = true → Reach (Eds l) s v) := by
  have h8 := hn.n8
  have h2 := hn.n2
  have hlen : (Eds l).length ≤ 16 := by
    have := congrArg List.length h.drains
    have h3 := hn.len
    unfold Eds; simp at this ⊢; omega
  rcases search_spec (K := FU) h.flow.dom (caps_room h.caps) (by omega) (show 0 ≤ s ∧ s < ((n.nodes.toNat : Nat) : Int) by omega) hst (flowL_ne hn h) (by have := FU_pos; omega) with ⟨ks, k1, k2, k3⟩ | ⟨S, k1, k2, k3, k4, k5⟩
  · refine .inl ⟨ks, k1, ?_, ?_, k3⟩
    · have ⟨q1, q2⟩ := sp_len ks [] s t k3
      have := nodup_len _ ks q1 q2
      omega
    · unfold drain_search
      have k2' : dfs (l.map toEd) t FU s [] [] = some (.inr (ints ks)) := k2
      rw [gd_pos hst, k2']
      exact gd_pos (by unfold ints; simpa using k1)
  · refine .inr ⟨?_, sees S, k2, k3, k4, k5⟩
    unfold drain_search
    have k1' : dfs (l.map toEd) t FU s [] [] = some (.inl S) := k1
    rw [gd_pos hst, k1']
def Maxed (n : Net) (l : List Left) : Prop := FlowL n l ∧ ∃ S : Int → Bool, S n.from_ = true ∧ S n.to_ = false ∧ Closed S (Eds l) ∧ ∀ v, S v = true → Reach (Eds l) n.from_ v
theorem run_L3 {n : Net} (hn : Net0 n) : ∀ (q : Nat) (l : List Left) (k : Nat), FlowL n l → cutW (fun v => decide (v = n.from_)) (Eds l) - out (Eds l) n.from_ ≤ q → q < k → ∃ l', drain_run_L3 n k l = some l' ∧ Maxed n l' := by
  intro q
  induction q with
  | zero =>
    intro l k h hq hk
    obtain ⟨k, rfl⟩ : ∃ k', k = k' + 1 := ⟨k - 1, by omega⟩
    rcases search_eq hn h (s := n.from_) (t := n.to_) hn.s0 hn.ne with ⟨ks, k1, k2, k3, k4⟩ | ⟨k1, S, k2⟩
    · exfalso
      obtain ⟨m1, _, m3⟩ := minRoom_spec ks [] n.from_ n.to_ (-1) k4 (.inr ⟨by omega, k1⟩)
      obtain ⟨f1, f2, f3⟩ := aug_flow h.flow (Int.le_of_lt m1) hn.ne k4 m3
      have hw := weak f1 (show 0 ≤ n.from_ ∧ n.from_ < ((n.nodes.toNat : Nat) : Int) by have := hn.s0; omega) (S := fun v => decide (v = n.from_)) (by simp) (by have := hn.ne; simp; omega)
      rw [f2, alike_cut _ f3] at hw
      omega
    · refine ⟨l, ?_, h, S, k2⟩
      show drain_run_B3 n (drain_run_L3 n k) l = _
      unfold drain_run_B3
      rw [bnd_eq k1, if_pos rfl]
  | succ q ih =>
    intro l k h hq hk
    obtain ⟨k, rfl⟩ : ∃ k', k = k' + 1 := ⟨k - 1, by omega⟩
    rcases search_eq hn h (s := n.from_) (t := n.to_) hn.s0 hn.ne with ⟨ks, k1, k2, k3, k4⟩ | ⟨k1, S, k2⟩
    · obtain ⟨m1, _, m3⟩ := minRoom_spec ks [] n.from_ n.to_ (-1) k4 (.inr ⟨by omega, k1⟩)
      obtain ⟨f1, f2, f3⟩ := aug_flow h.flow (Int.le_of_lt m1) hn.ne k4 m3
      have hm1000 : minRoom (Eds l) n.from_ (-1) ks ≤ 1000 := by
        cases ks with
        | nil => exact absurd rfl k1
        | cons i r =>
          obtain ⟨e, he, hmr, _⟩ := m3
          obtain ⟨d, hd, rfl⟩ := eds_at he
          have := h.caps d (List.mem_of_getElem? hd)
          have : room (toEd d) n.from_ ≤ 1000 := by
            unfold room; split
            · show d.drain.width - d.runs ≤ 1000; omega
            · show d.runs ≤ 1000; omega
          omega
      have hcaps : Caps (augL (minRoom (Eds l) n.from_ (-1) ks) l n.from_ ks) := fun d hd => by
        have he : toEd d ∈ aug (minRoom (Eds l) n.from_ (-1) ks) (Eds l) n.from_ ks := by rw [← augL_ed]; exact List.mem_map_of_mem hd
        have hc := f1.cap _ he
        have hdm : d.drain ∈ n.drains := by rw [← h.drains, ← augL_drains (m := minRoom (Eds l) n.from_ (-1) ks) ks l n.from_]; exact List.mem_map_of_mem hd
        have := hn.dr _ hdm
        exact ⟨hc.1, hc.2, this.2.2.2.2⟩
      have hf' : FlowL n (augL (minRoom (Eds l) n.from_ (-1) ks) l n.from_ ks) := ⟨by rw [augL_drains]; exact h.drains, by rw [augL_ed]; exact f1, hcaps⟩
      obtain ⟨l', l1, l2⟩ := ih (augL (minRoom (Eds l) n.from_ (-1) ks) l n.from_ ks) k hf' (by rw [augL_ed, f2, alike_cut _ f3]; omega) (by omega)
      refine ⟨l', ?_, l2⟩
      rw [← l1]
      show drain_run_B3 n (drain_run_L3 n k) l = _
      unfold drain_run_B3
      rw [bnd_eq k3, if_neg (by unfold ints; simpa using k1)]
      have e1 := run_L2 (n := n) h.caps (drain_run_L3 n k) k2 ks [] [] n.from_ n.to_ (-1) FU rfl k4 (by have := FU_pos; omega)
      have e2 := run_L1 (drain_run_L3 n k) k2 (m := minRoom (Eds l) n.from_ (-1) ks) ⟨by omega, hm1000⟩ ks [] [] n.from_ n.to_ l FU rfl h.caps k4 m3 (by have := FU_pos; omega)
      refine Eq.trans e1 ?_
      unfold drain_run_k2
      exact e2
    · refine ⟨l, ?_, h, S, k2⟩
      show drain_run_B3 n (drain_run_L3 n k) l = _
      unfold drain_run_B3
      rw [bnd_eq k1, if_pos rfl]
def start (n : Net) : List Left := n.drains.map fun d => ⟨d, 0⟩
theorem out_zero (v : Int) : ∀ l : List Drain, out (Eds (l.map fun d => ⟨d, 0⟩)) v = 0
  | [] => rfl
  | d :: r => by
    have := out_zero v r
    unfold Eds at this ⊢
    simp only [List.map_cons, out, this]
    show ((if d.from_ = v then (0 : Int) else 0) - (if d.to_ = v then 0 else 0)) + 0 = 0
    split <;> split <;> rfl
theorem start_flow {n : Net} (hn : Net0 n) : FlowL n (start n) := by
  have h2 := hn.n2
  refine ⟨by unfold start; rw [List.map_map]; exact List.map_id _, ⟨fun e he => ?_, fun e he => ?_, fun v _ _ _ _ => out_zero v _⟩, fun d hd => ?_⟩
  · obtain ⟨x, hx, rfl⟩ := List.mem_map.1 he
    obtain ⟨d, hd, rfl⟩ := List.mem_map.1 hx
    have := hn.dr d hd
    refine ⟨⟨this.1.1, ?_⟩, this.2.1.1, ?_⟩
    · show d.from_ < _; omega
    · show d.to_ < _; omega
  · obtain ⟨x, hx, rfl⟩ := List.mem_map.1 he
    obtain ⟨d, hd, rfl⟩ := List.mem_map.1 hx
    have := hn.dr d hd
    exact ⟨Int.le_refl _, this.2.2.2.1⟩
  · obtain ⟨x, hx, rfl⟩ := List.mem_map.1 hd
    have := hn.dr x hx
    exact ⟨Int.le_refl _, this.2.2.2.1, this.2.2.2.2⟩
theorem cut_bnd (S : Int → Bool) : ∀ (l : List Left), (∀ d ∈ l, 0 ≤ d.drain.width ∧ d.drain.width ≤ 1000) → 0 ≤ cutW S (Eds l) ∧ cutW S (Eds l) ≤ 1000 * (l.length : Int)
  | [], _ => ⟨Int.le_refl _, Int.le_refl _⟩
  | d :: r, h => by
    have ih := cut_bnd S r (fun x hx => h x (List.mem_cons_of_mem _ hx))
    have := h d (List.mem_cons_self ..)
    have e : cutW S (Eds (d :: r)) = (if S d.drain.from_ = true ∧ S d.drain.to_ = false then d.drain.width else 0) + cutW S (Eds r) := rfl
    rw [e, List.length_cons]
    split <;> omega
theorem run_eq {n : Net} (hn : Net0 n) : ∃ l, drain_run n = some l ∧ Maxed n l := by
  have hlen := hn.len
  have hf := start_flow hn
  have hb := cut_bnd (fun v => decide (v = n.from_)) (start n) (fun d hd => by have := hf.caps d hd; omega)
  have hsl : (start n).length = n.drains.length := by unfold start; simp
  obtain ⟨l, l1, l2⟩ := run_L3 hn 16000 (start n) FU hf (by unfold start; rw [out_zero]; have := hb.2; unfold start at this; simp only [List.length_map] at this; omega) (by have := FU_pos; omega)
  refine ⟨l, ?_, l2⟩
  unfold drain_run
  refine Eq.trans (for0 n.drains.length (fun i => (start n).take i) (fun k s i => drain_run_L4 n k i s) (some l) rfl (fun k i hi => ?_) (fun k => ?_) (by omega)) rfl
  · have hx : n.drains[i]? = some n.drains[i] := by simp [hi]
    have hs : (start n)[i]? = some ⟨n.drains[i], 0⟩ := by unfold start; rw [List.getElem?_map, hx]; rfl
    show drain_run_B4 n (drain_run_L4 n k) _ _ = _
    unfold drain_run_B4
    rw [if_pos (by omega), ix_nat hx, gd_pos (by simp; omega), gd_pos (by omega), List.take_add_one, hs]; rfl
  · show drain_run_B4 n (drain_run_L4 n k) _ _ = _
    unfold drain_run_B4
    rw [if_neg (by omega)]
    unfold drain_run_k5
    rw [List.take_of_length_le (by omega)]; exact l1
end Go.D2

set_option linter.unusedVariables false
set_option linter.unusedSimpArgs false
namespace Go.D2
open Go.Tb
def En (n : Net) (fl : List Int) : List Ed := List.zipWith (fun d f => (⟨d.from_, d.to_, d.width, f⟩ : Ed)) n.drains fl
theorem en_at {n : Net} {fl : List Int} {i : Nat} {d : Drain} {f : Int} (h1 : n.drains[i]? = some d) (h2 : fl[i]? = some f) : (En n fl)[i]? = some ⟨d.from_, d.to_, d.width, f⟩ := by
  unfold En
  rw [List.getElem?_zipWith, h1, h2]
theorem en_len {n : Net} {fl : List Int} (h : fl.length = n.drains.length) : (En n fl).length = n.drains.length := by unfold En; simp; omega
theorem eds_en : ∀ (l : List Left), Eds l = List.zipWith (fun d f => (⟨d.from_, d.to_, d.width, f⟩ : Ed)) (l.map Left.drain) (l.map Left.runs)
  | [] => rfl
  | d :: r => by
    have := eds_en r
    unfold Eds at this ⊢
    simp only [List.map_cons, List.zipWith_cons_cons, this]; rfl
theorem flowL_en {n : Net} {l : List Left} (h : l.map Left.drain = n.drains) : Eds l = En n (l.map Left.runs) := by
  rw [eds_en, h]; rfl
theorem flowOf_eq {l : List Left} (hl : l.length ≤ 1000) : drain_flowOf l = some (l.map Left.runs) := by
  unfold drain_flowOf
  refine Eq.trans (for0 l.length (fun i => (l.map Left.runs).take i) (fun n s i => drain_flowOf_L1 l n i s) (some (l.map Left.runs)) rfl (fun n i hi => ?_) (fun n => ?_) (by omega)) rfl
  · have hx : l[i]? = some l[i] := by simp [hi]
    have hs : (l.map Left.runs)[i]? = some l[i].runs := by rw [List.getElem?_map, hx]; rfl
    show drain_flowOf_B1 l (drain_flowOf_L1 l n) _ _ = _
    unfold drain_flowOf_B1
    rw [if_pos (by omega), ix_nat hx, gd_pos (by simp; omega), gd_pos (by omega), List.take_add_one, hs]; rfl
  · show drain_flowOf_B1 l (drain_flowOf_L1 l n) _ _ = _
    unfold drain_flowOf_B1
    rw [if_neg (by omega)]
    unfold drain_flowOf_k1
    rw [List.take_of_length_le (by simp)]
theorem out_take {e : Ed} (v : Int) : ∀ {E : List Ed} {i : Nat}, E[i]? = some e → out (E.take (i + 1)) v = out (E.take i) v + con1 e v
  | [], i, h => by simp at h
  | x :: r, 0, h => by simp at h; subst h; simp [out, con1]
  | x :: r, i + 1, h => by
    have := out_take (e := e) v (E := r) (i := i) (by simpa using h)
    simp only [List.take_succ_cons, out_cons, this]; omega
theorem out_bnd {M : Int} (hM : 0 ≤ M) (v : Int) : ∀ E : List Ed, (∀ e ∈ E, -M ≤ e.f ∧ e.f ≤ M) → -(2 * M) * (E.length : Int) ≤ out E v ∧ out E v ≤ 2 * M * (E.length : Int)
  | [], _ => by simp [out]
  | e :: r, h => by
    have ih := out_bnd hM v r (fun x hx => h x (List.mem_cons_of_mem _ hx))
    have he := h e (List.mem_cons_self ..)
    have e1 : ((List.length (e :: r) : Nat) : Int) = (r.length : Int) + 1 := by simp
    rw [out_cons, e1, Int.mul_add, Int.mul_add]
    have : -(2 * M) ≤ con1 e v ∧ con1 e v ≤ 2 * M := by
      unfold con1
      split <;> split <;> omega
    omega
def FBnd (fl : List Int) : Prop := ∀ x ∈ fl, -1000000 ≤ x ∧ x ≤ 1000000
theorem en_bnd {n : Net} {fl : List Int} (h : FBnd fl) : ∀ e ∈ En n fl, -1000000 ≤ e.f ∧ e.f ≤ 1000000 := fun e he => by
  obtain ⟨i, hi⟩ := List.getElem?_of_mem he
  unfold En at hi
  rw [List.getElem?_zipWith] at hi
  cases h1 : n.drains[i]? with
  | none => rw [h1] at hi; cases hi
  | some d =>
    cases h2 : fl[i]? with
    | none => rw [h1, h2] at hi; cases hi
    | some f =>
      rw [h1, h2] at hi; cases hi
      exact h f (List.mem_of_getElem? h2)
theorem part_bnd {n : Net} {fl : List Int} (h : FBnd fl) (hl : n.drains.length ≤ 1000) (v : Int) (i : Nat) : -2000000000 ≤ out ((En n fl).take i) v ∧ out ((En n fl).take i) v ≤ 2000000000 := by
  have := out_bnd (M := 1000000) (by omega) v ((En n fl).take i) (fun e he => en_bnd h e (List.mem_of_mem_take he))
  have h2 : ((En n fl).take i).length ≤ 1000 := by
    rw [List.length_take]
    have : (En n fl).length ≤ n.drains.length := by unfold En; simp; omega
    omega
  omega
theorem value_eq {n : Net} {fl : List Int} (hf : fl.length = n.drains.length) (hl : n.drains.length ≤ 1000) (hb : FBnd fl) (v : Int) : drain_value n fl v = some (out (En n fl) v) := by
  have hE := en_len hf
  unfold drain_value
  refine Eq.trans (for0 n.drains.length (fun i => out ((En n fl).take i) v) (fun k s i => drain_value_L1 n fl v k s i) (some (out (En n fl) v)) rfl (fun k i hi => ?_) (fun k => ?_) (by omega)) rfl
  · have hx : n.drains[i]? = some n.drains[i] := by simp [hi]
    have hy : fl[i]? = some (fl[i]'(by omega)) := List.getElem?_eq_getElem _
    have he := out_take v (en_at hx hy)
    have b1 := part_bnd hb hl v i
    have b2 := hb _ (List.mem_of_getElem? hy)
    show drain_value_B1 n fl v (drain_value_L1 n fl v k) _ _ = _
    unfold drain_value_B1 drain_value_k3 drain_value_k2
    rw [if_pos (by omega), ix_nat hx, he]
    unfold con1
    simp only
    by_cases h1 : n.drains[i].from_ = v
    · rw [if_pos h1, ix_nat hy, gd_pos (by omega), if_pos h1]
      by_cases h2 : n.drains[i].to_ = v
      · rw [if_pos h2, ix_nat hy, gd_pos (by omega), gd_pos (by omega), if_pos h2]
        congr 1; omega
      · rw [if_neg h2, gd_pos (by omega), if_neg h2]
        congr 1; omega
    · rw [if_neg h1, if_neg h1]
      by_cases h2 : n.drains[i].to_ = v
      · rw [if_pos h2, ix_nat hy, gd_pos (by omega), gd_pos (by omega), if_pos h2]
        congr 1; omega
      · rw [if_neg h2, gd_pos (by omega), if_neg h2]
        congr 1; omega
  · show drain_value_B1 n fl v (drain_value_L1 n fl v k) _ _ = _
    unfold drain_value_B1
    rw [if_neg (by omega)]
    unfold drain_value_k1
    rw [List.take_of_length_le (by omega)]
def inS (m : Nat) (v : Int) : Bool := m.testBit v.toNat
theorem set_of : ∀ (k : Nat) (S : Nat → Bool), ∃ m, m < 2 ^ k ∧ ∀ v, v < k → m.testBit v = S v
  | 0, S => ⟨0, by decide, fun v hv => by omega⟩
  | k + 1, S => by
    obtain ⟨m, h1, h2⟩ := set_of k (fun v => S (v + 1))
    refine ⟨2 * m + (S 0).toNat, ?_, fun v hv => ?_⟩
    · rw [Nat.pow_succ]
      have : (S 0).toNat ≤ 1 := Bool.toNat_le _
      omega
    · cases v with
      | zero =>
        rw [Nat.testBit_zero]
        cases S 0 <;> simp
      | succ v =>
        rw [Nat.testBit_succ]
        have : (2 * m + (S 0).toNat) / 2 = m := by
          have : (S 0).toNat ≤ 1 := Bool.toNat_le _
          omega
        rw [this]; exact h2 v (by omega)
def cutD (S : Int → Bool) : List Drain → Int
  | [] => 0
  | d :: r => (if S d.from_ = true ∧ S d.to_ = false then d.width else 0) + cutD S r
theorem cutW_eds (S : Int → Bool) : ∀ l : List Left, cutW S (Eds l) = cutD S (l.map Left.drain)
  | [] => rfl
  | d :: r => by
    have := cutW_eds S r
    have e : cutW S (Eds (d :: r)) = (if S d.drain.from_ = true ∧ S d.drain.to_ = false then d.drain.width else 0) + cutW S (Eds r) := rfl
    rw [e, this]; rfl
theorem cutD_congr {S T : Int → Bool} : ∀ l : List Drain, (∀ d ∈ l, S d.from_ = T d.from_ ∧ S d.to_ = T d.to_) → cutD S l = cutD T l
  | [], _ => rfl
  | d :: r, h => by
    have := h d (List.mem_cons_self ..)
    simp only [cutD, this.1, this.2, cutD_congr r (fun x hx => h x (List.mem_cons_of_mem _ hx))]
theorem cutD_bnd (S : Int → Bool) : ∀ l : List Drain, (∀ d ∈ l, 0 ≤ d.width ∧ d.width ≤ 1000) → 0 ≤ cutD S l ∧ cutD S l ≤ 1000 * (l.length : Int)
  | [], _ => ⟨Int.le_refl _, Int.le_refl _⟩
  | d :: r, h => by
    have ih := cutD_bnd S r (fun x hx => h x (List.mem_cons_of_mem _ hx))
    have := h d (List.mem_cons_self ..)
    simp only [cutD, List.length_cons]
    split <;> omega
def cutB (n : Net) (m : Nat) : Bool := inS m n.from_ && !inS m n.to_
def bestC (n : Net) : Nat → Int
  | 0 => -1
  | i + 1 => if cutB n i = true then (if bestC n i < 0 ∨ cutD (inS i) n.drains < bestC n i then cutD (inS i) n.drains else bestC n i) else bestC n i
theorem bestC_spec {n : Net} (hn : Net0 n) : ∀ i, ((∀ j, j < i → cutB n j = false) ∧ bestC n i = -1) ∨ (0 ≤ bestC n i ∧ (∀ j, j < i → cutB n j = true → bestC n i ≤ cutD (inS j) n.drains) ∧ ∃ j, j < i ∧ cutB n j = true ∧ cutD (inS j) n.drains = bestC n i)
  | 0 => .inl ⟨fun j hj => by omega, rfl⟩
  | i + 1 => by
    have ih := bestC_spec hn i
    have hb := (cutD_bnd (inS i) n.drains (fun d hd => by have := hn.dr d hd; omega)).1
    simp only [bestC]
    by_cases hc : cutB n i = true
    · rw [if_pos hc]
      refine .inr ?_
      rcases ih with ⟨h1, h2⟩ | ⟨h1, h2, j, h3, h4, h5⟩
      · rw [if_pos (.inl (by omega))]
        refine ⟨hb, fun j hj hcj => ?_, i, by omega, hc, rfl⟩
        by_cases hji : j = i
        · subst hji; exact Int.le_refl _
        · rw [h1 j (by omega)] at hcj; cases hcj
      · by_cases hlt : cutD (inS i) n.drains < bestC n i
        · rw [if_pos (.inr hlt)]
          refine ⟨hb, fun j hj hcj => ?_, i, by omega, hc, rfl⟩
          by_cases hji : j = i
          · subst hji; exact Int.le_refl _
          · have := h2 j (by omega) hcj; omega
        · rw [if_neg (by omega)]
          refine ⟨h1, fun j hj hcj => ?_, j, by omega, h4, h5⟩
          by_cases hji : j = i
          · subst hji; omega
          · exact h2 j (by omega) hcj
    · rw [if_neg hc]
      rcases ih with ⟨h1, h2⟩ | ⟨h1, h2, j, h3, h4, h5⟩
      · refine .inl ⟨fun j hj => ?_, h2⟩
        by_cases hji : j = i
        · subst hji; simpa using hc
        · exact h1 j (by omega)
      · refine .inr ⟨h1, fun j hj hcj => ?_, j, by omega, h4, h5⟩
        by_cases hji : j = i
        · subst hji; exact absurd hcj hc
        · exact h2 j (by omega) hcj
def mostN (n : Net) : Int := bestC n (2 ^ n.nodes.toNat)
/-- A set as a number, and its width. -/
theorem cut_num {n : Net} (hn : Net0 n) (S : Int → Bool) : ∃ m, m < 2 ^ n.nodes.toNat ∧ (∀ v : Int, 0 ≤ v → v < n.nodes → inS m v = S v) ∧ cutD (inS m) n.drains = cutD S n.drains := by
  obtain ⟨m, h1, h2⟩ := set_of n.nodes.toNat (fun v => S (v : Int))
  have key : ∀ v : Int, 0 ≤ v → v < n.nodes → inS m v = S v := fun v v0 v1 => by
    unfold inS
    rw [h2 v.toNat (by omega), show ((v.toNat : Nat) : Int) = v by omega]
  exact ⟨m, h1, key, cutD_congr _ fun d hd => by have := hn.dr d hd; exact ⟨key _ this.1.1 this.1.2, key _ this.2.1.1 this.2.1.2⟩⟩
theorem most_le {n : Net} (hn : Net0 n) {S : Int → Bool} (h1 : S n.from_ = true) (h2 : S n.to_ = false) : mostN n ≤ cutD S n.drains := by
  obtain ⟨m, m1, m2, m3⟩ := cut_num hn S
  have hc : cutB n m = true := by
    unfold cutB
    rw [m2 _ hn.s0.1 hn.s0.2, m2 _ hn.t0.1 hn.t0.2, h1, h2]; rfl
  rcases bestC_spec hn (2 ^ n.nodes.toNat) with ⟨h3, _⟩ | ⟨_, h3, _⟩
  · rw [h3 m m1] at hc; cases hc
  · have := h3 m m1 hc
    rw [m3] at this; exact this
theorem most_at {n : Net} (hn : Net0 n) : ∃ S : Int → Bool, S n.from_ = true ∧ S n.to_ = false ∧ cutD S n.drains = mostN n := by
  obtain ⟨m, m1, m2, m3⟩ := cut_num hn (fun v => decide (v = n.from_))
  have hne := hn.ne
  have hc : cutB n m = true := by
    unfold cutB
    rw [m2 _ hn.s0.1 hn.s0.2, m2 _ hn.t0.1 hn.t0.2]; simp; omega
  rcases bestC_spec hn (2 ^ n.nodes.toNat) with ⟨h3, _⟩ | ⟨_, _, j, j1, j2, j3⟩
  · rw [h3 m m1] at hc; cases hc
  · unfold cutB at j2
    simp only [Bool.and_eq_true, Bool.not_eq_true'] at j2
    exact ⟨inS j, j2.1, j2.2, j3⟩
theorem maxed_val {n : Net} (hn : Net0 n) {l : List Left} (h : Maxed n l) : out (Eds l) n.from_ = mostN n := by
  obtain ⟨hf, S, s1, s2, s3, _⟩ := h
  have hs : 0 ≤ n.from_ ∧ n.from_ < ((n.nodes.toNat : Nat) : Int) := by have := hn.s0; omega
  have h1 : out (Eds l) n.from_ = cutW S (Eds l) := (tight_iff hf.flow hs s1 s2).2 ((closed_tight hf.flow.cap).1 s3)
  rw [cutW_eds, hf.drains] at h1
  have h2 := most_le hn s1 s2
  obtain ⟨T, t1, t2, t3⟩ := most_at hn
  have h3 := weak hf.flow hs t1 t2
  rw [cutW_eds, hf.drains, t3] at h3
  omega
theorem maxed_len {n : Net} {l : List Left} (h : Maxed n l) : l.length = n.drains.length := by
  have := congrArg List.length h.1.drains
  simpa using this
end Go.D2
