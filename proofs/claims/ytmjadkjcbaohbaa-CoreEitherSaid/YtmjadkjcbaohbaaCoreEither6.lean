/- Lemmas and walks that the proof of this claim uses: D3m6, D3m7D, D3m7, D3m8D. -/
import Derived.Test.YtmjadkjcbaohbaaCoreEither5
import Derived.Test.YtmjadkjcbaohbaaProg
import Derived.KernelRfl
set_option linter.unusedVariables false
set_option linter.unusedSimpArgs false
namespace Go.D3
open Go.Tb Go.Proofs Go.RowKit Go.Core

theorem Tc40 : callable Try.prog 40 = true := by kernel_rfl
theorem Tc41 : callable Try.prog 41 = true := by kernel_rfl
theorem Tc42 : callable Try.prog 42 = true := by kernel_rfl
theorem Tc73 : callable Try.prog 73 = true := by kernel_rfl

set_option maxRecDepth 20000 in
set_option maxHeartbeats 1000000 in
theorem ref03_CheckClash_ok {a0 : Core} {a1 : List Int} {A_a0_bounds : Option Addr} {c_a0_bounds : Nat} {A_a1 : Option Addr} {c_a1 : Nat} {w : World} {res : Int} (h_a0_bounds : Sl w A_a0_bounds c_a0_bounds 3 (a0.bounds.map encBound)) (h_a1 : Sl w A_a1 c_a1 1 (a1.map encN)) (F : ref03_CheckClash a0 a1 = some res) : Calls Try.prog 41 #[.agg #[.int .i64 a0.layers, .slice A_a0_bounds a0.bounds.length c_a0_bounds], .slice A_a1 a1.length c_a1] w (Rt w (.int .i64 res)) := by
  refine calls_of_cw (args := [.agg #[.int .i64 a0.layers, .slice A_a0_bounds a0.bounds.length c_a0_bounds], .slice A_a1 a1.length c_a1]) Try.func41 rfl rfl rfl rfl ?_
  have H := Hp.start w
  have R0 := H.ext
  unfold ref03_CheckClash at F
  refine CW.seq fun K1 hK1 => ?_
  refine CW.region ?_
  refine LW.go rfl rfl (OW.box rfl fun b1 w1 N1 => ?_)
  replace H := H.new N1 N1.blk
  replace R0 := H.ext
  refine LW.pure rfl rfl (RV.assign rfl) ?_
  refine LW.nil (hK1 _ _ ?_)
  refine CW.seq fun K2 hK2 => ?_
  refine CW.seq fun K3 hK3 => ?_
  obtain ⟨r2, hr2, F⟩ := bnd_some F
  refine CW.region ?_
  refine LW.pure rfl rfl (RV.loadA [.int .i64 a0.layers, .slice A_a0_bounds a0.bounds.length c_a0_bounds] Tk24 rfl (H.blk 0 rfl).cells rfl rfl) ?_
  refine LW.go rfl rfl (OW.call Tc37 rfl (ref03_Validate_ok (a0 := a0) (h_a0_bounds.ext R0) hr2) ?_)
  rintro _ w2 ⟨rfl, E1⟩
  refine ⟨_, rfl, ?_⟩
  replace H := H.grow E1
  replace R0 := H.ext
  refine LW.pure rfl rfl (RV.assign rfl) ?_
  refine LW.nil (hK3 _ _ ?_)
  refine CW.seq fun K4 hK4 => ?_
  refine CW.region ?_
  refine LW.pure rfl rfl (RV.move rfl) ?_
  refine LW.pure rfl rfl (RV.nei rfl rfl) ?_
  refine LW.nil (hK4 _ _ ?_)
  by_cases hp1 : r2 = 0
  ·
    replace F := ite_y hp1 F
    have hq1 := dec_t hp1
    refine CW.condF rfl (not_f hq1) ?_
    refine CW.skip (hK2 _ _ ?_)
    refine CW.seq fun K5 hK5 => ?_
    refine CW.seq fun K6 hK6 => ?_
    refine CW.region ?_
    refine LW.pure rfl rfl (RV.move rfl) ?_
    refine LW.pure rfl rfl (RV.len Ts43 rfl) ?_
    refine LW.pure rfl rfl (RV.gtr rfl rfl) ?_
    refine LW.nil (hK6 _ _ ?_)
    by_cases hp2 : (20 : Int) < ((a1.length : Int))
    ·
      replace F := ite_y hp2 F
      have hq2 := dec_t hp2
      refine CW.condT rfl hq2 ?_
      refine CW.seq fun K7 hK7 => ?_
      refine CW.region ?_
      refine LW.pure rfl rfl (RV.assign rfl) ?_
      refine LW.nil (hK7 _ _ ?_)
      refine CW.ret ?_
      obtain rfl := Option.some.inj F
      refine ⟨_, (ResOK.one rfl), ?_⟩
      refine ⟨(by first | rfl | simp), R0⟩
    ·
      replace F := ite_n hp2 F
      have hq2 := dec_f hp2
      refine CW.condF rfl hq2 ?_
      refine CW.skip (hK5 _ _ ?_)
      refine CW.seqJ (fun ρ wl1 => (ref03_CheckClash_k3 a0 a1 = some res ∧ ρ = [(1, .slice A_a1 a1.length c_a1), (2, .pointer (some (⟨b1, 0, none⟩))), (4, .int .i64 0)] ∧ Hp w wl1 [.blk b1 24 [.int .i64 a0.layers, .slice A_a0_bounds a0.bounds.length c_a0_bounds]])) ?_ ?_
      ·
        rintro _ wl1 ⟨F, rfl, H⟩
        have R0 := H.ext
        unfold ref03_CheckClash_k3 at F
        refine CW.seq fun K8 hK8 => ?_
        refine CW.region ?_
        refine LW.pure rfl rfl (RV.assign rfl) ?_
        refine LW.nil (hK8 _ _ ?_)
        refine CW.seqJ (fun ρ wl2 => (∃ (t7_1 : Int), ref03_CheckClash_k2 a1 t7_1 = some res ∧ ρ = [(1, .slice A_a1 a1.length c_a1), (4, .int .i64 0), (7, .int .i64 t7_1)] ∧ Hp w wl2 [])) ?_ ?_
        ·
          rintro _ wl2 ⟨t7_1, F, rfl, H⟩
          have R0 := H.ext
          unfold ref03_CheckClash_k2 at F
          refine CW.seq fun K9 hK9 => ?_
          refine CW.seqJ (fun ρ wl3 => (∃ (t79_1 : Bool), ref03_CheckClash_k1 t79_1 = some res ∧ ρ = [(4, .int .i64 0), (79, .bool t79_1)] ∧ Hp w wl3 [])) ?_ ?_
          ·
            rintro _ wl3 ⟨t79_1, F, rfl, H⟩
            have R0 := H.ext
            unfold ref03_CheckClash_k1 at F
            by_cases hp3 : t79_1 = true
            ·
              replace F := ite_y hp3 F
              have hq3 : t79_1 = true := hp3
              refine CW.condT rfl hq3 ?_
              refine CW.seq fun K10 hK10 => ?_
              refine CW.region ?_
              refine LW.pure rfl rfl (RV.assign rfl) ?_
              refine LW.nil (hK10 _ _ ?_)
              refine CW.ret ?_
              obtain rfl := Option.some.inj F
              refine ⟨_, (ResOK.one rfl), ?_⟩
              refine ⟨(by first | rfl | simp), R0⟩
            ·
              replace F := ite_n hp3 F
              have hq3 : t79_1 = false := raw_f hp3
              refine CW.condF rfl hq3 ?_
              refine CW.skip (hK9 _ _ ?_)
              refine CW.seq fun K11 hK11 => ?_
              refine CW.region ?_
              refine LW.pure rfl rfl (RV.assign rfl) ?_
              refine LW.nil (hK11 _ _ ?_)
              refine CW.ret ?_
              obtain rfl := Option.some.inj F
              refine ⟨_, (ResOK.one rfl), ?_⟩
              refine ⟨(by first | rfl | simp), R0⟩
          ·
            intro K12 hK12 jK132
            by_cases hp4 : ((a1.length : Int)) = 0
            ·
              replace F := ite_y hp4 F
              have hq4 := dec_t hp4
              refine CW.region ?_
              refine LW.pure rfl rfl (RV.move rfl) ?_
              refine LW.pure rfl rfl (RV.len Ts43 rfl) ?_
              refine LW.pure rfl rfl (RV.eqi rfl rfl) ?_
              refine LW.pure rfl rfl (RV.move rfl) ?_
              refine LW.noB rfl rfl rfl rfl (ne_beq (v := true) hq4 rfl) ?_
              refine LW.noB rfl rfl rfl rfl (ne_beq (v := true) hq4 rfl) ?_
              refine LW.pure rfl rfl (RV.pickTB rfl hq4 rfl) ?_
              refine LW.nil (jK132 _ _ ⟨_, ?_, ⟨true, F, rfl, H⟩⟩)
              exact ⟨rfl, rfl, trivial⟩
            ·
              replace F := ite_n hp4 F
              have hq4 := dec_f hp4
              refine CW.region ?_
              refine LW.pure rfl rfl (RV.move rfl) ?_
              refine LW.pure rfl rfl (RV.len Ts43 rfl) ?_
              refine LW.pure rfl rfl (RV.eqi rfl rfl) ?_
              refine LW.pure rfl rfl (RV.move rfl) ?_
              refine LW.pureYB rfl rfl rfl rfl hq4 (RV.move rfl) ?_
              refine LW.pureYB rfl rfl rfl rfl hq4 (RV.geq rfl rfl) ?_
              refine LW.pure rfl rfl (RV.pickFB rfl hq4 rfl) ?_
              refine LW.nil (jK132 _ _ ⟨_, ?_, ⟨(decide ((0 : Int) ≤ t7_1)), F, rfl, H⟩⟩)
              exact ⟨rfl, rfl, trivial⟩
        ·
          intro K13 hK13 jK133
          refine CW.seq fun K14 hK14 => ?_
          refine CW.region ?_
          refine LW.pure rfl rfl (RV.assign rfl) ?_
          refine LW.nil (hK14 _ _ ?_)
          refine CW.block ?_
          refine CW.loop (fun meas ρ wl4 => ∃ (t7_2 : Int) (t8_1 : Int), ref03_CheckClash_L1 a0 a1 meas t7_2 t8_1 = some res ∧ ρ = [(1, .slice A_a1 a1.length c_a1), (2, .pointer (some (⟨b1, 0, none⟩))), (4, .int .i64 0), (7, .int .i64 t7_2), (8, .int .i64 t8_1)] ∧ Hp w wl4 [.blk b1 24 [.int .i64 a0.layers, .slice A_a0_bounds a0.bounds.length c_a0_bounds]]) FU ⟨_, ?_, ((0 : Int)), ((0 : Int)), F, rfl, H⟩ ?_
          · exact ⟨rfl, rfl, rfl, rfl, rfl, trivial⟩
          rintro mk1 _ wl4 ⟨t7_2, t8_1, F, rfl, H⟩
          have R0 := H.ext
          replace F := ref03_CheckClash_L1_s F
          obtain ⟨mk1, rfl, F⟩ := F
          generalize hrec1 : ref03_CheckClash_L1 a0 a1 mk1 = rec1 at F
          unfold ref03_CheckClash_B1 at F
          refine CW.seq fun K15 hK15 => ?_
          refine CW.seq fun K16 hK16 => ?_
          refine CW.region ?_
          refine LW.pure rfl rfl (RV.move rfl) ?_
          refine LW.pure rfl rfl (RV.move rfl) ?_
          refine LW.pure rfl rfl (RV.len Ts43 rfl) ?_
          refine LW.pure rfl rfl (RV.lss rfl rfl) ?_
          refine LW.nil (hK16 _ _ ?_)
          by_cases hp5 : t8_1 < ((a1.length : Int))
          ·
            replace F := ite_y hp5 F
            have hq5 := dec_t hp5
            refine CW.condT rfl hq5 ?_
            refine CW.skip (hK15 _ _ ?_)
            refine CW.seq fun K17 hK17 => ?_
            refine CW.block ?_
            refine CW.seq fun K18 hK18 => ?_
            refine CW.seq fun K19 hK19 => ?_
            obtain ⟨x1, hbx1, hx1, F⟩ := ix_some F
            obtain ⟨x2, hbx2, hx2, F⟩ := ix_some F
            obtain ⟨hg1, F⟩ := gd_some F
            obtain ⟨hg2, F⟩ := gd_some F
            obtain ⟨x3, hbx3, hx3, F⟩ := ix_some F
            obtain ⟨x4, hbx4, hx4, F⟩ := ix_some F
            refine CW.draw [] (fun _ => True) (.cons 0 1 (.cons 1 1 (.cons 2 1 (.cons 3 1 (.cons 4 1 (.cons 5 1 (.cons 6 1 (.cons 7 1 (.cons 8 1 (.cons 9 1 (.cons 10 1 (.cons 11 1 (.cons 12 1 (.cons 13 1 (.cons 14 1 (.cons 15 1 (.cons 16 1 (.cons 17 1 (.cons 18 1 (.cons 19 1 (.cons 20 1 (.cons 21 1 (.cons 22 1 .nil))))))))))))))))))))))) mixed (by kernel_rfl) fun w3 E2 => ?_
            replace H := H.grow E2
            replace R0 := H.ext
            refine DW.fix rfl rfl rfl (fun _ EQ => RV.fieldAddr Tf24_1 rfl) ?_
            refine DW.fix rfl rfl rfl (fun _ EQ => RV.load1 Tk22 rfl (((H.grow EQ).blk 0 rfl).cells.off 1) rfl) ?_
            refine DW.fix rfl rfl rfl (fun _ EQ => RV.move rfl) ?_
            refine DW.fix rfl rfl rfl (fun _ EQ => RV.move rfl) ?_
            refine DW.fix rfl rfl rfl (fun _ EQ => RV.indexAddr Ts43 rfl rfl hbx1 (h_a1.addr_ hx1)) ?_
            refine DW.fix rfl rfl rfl (fun _ EQ => RV.load1 Tk3 rfl ((h_a1.at_ hx1).ext (R0.trans EQ)) rfl) ?_
            refine DW.fix rfl rfl rfl (fun _ EQ => RV.indexAddr Ts22 rfl rfl hbx2 (h_a0_bounds.addr_ hx2)) ?_
            refine DW.fix rfl rfl rfl (fun _ EQ => RV.fieldAddr Tf26_1 rfl) ?_
            refine DW.fix rfl rfl rfl (fun _ EQ => RV.load1 Tk3 rfl (((h_a0_bounds.at_ hx2).ext (R0.trans EQ)).off 1) rfl) ?_
            refine DW.fix rfl rfl rfl (fun _ EQ => RV.fieldAddr Tf24_1 rfl) ?_
            refine DW.fix rfl rfl rfl (fun _ EQ => RV.load1 Tk22 rfl (((H.grow EQ).blk 0 rfl).cells.off 1) rfl) ?_
            refine DW.fix rfl rfl rfl (fun _ EQ => RV.move rfl) ?_
            refine DW.fix rfl rfl rfl (fun _ EQ => RV.move rfl) ?_
            refine DW.fix rfl rfl rfl (fun _ EQ => RV.add rfl rfl hg1) ?_
            refine DW.fix rfl rfl rfl (fun _ EQ => RV.move rfl) ?_
            refine DW.fix rfl rfl rfl (fun _ EQ => RV.len Ts43 rfl) ?_
            refine DW.fix rfl rfl rfl (fun _ EQ => RV.rem rfl rfl hg2) ?_
            refine DW.fix rfl rfl rfl (fun _ EQ => RV.indexAddr Ts43 rfl rfl hbx3 (h_a1.addr_ hx3)) ?_
            refine DW.fix rfl rfl rfl (fun _ EQ => RV.load1 Tk3 rfl ((h_a1.at_ hx3).ext (R0.trans EQ)) rfl) ?_
            refine DW.fix rfl rfl rfl (fun _ EQ => RV.indexAddr Ts22 rfl rfl hbx4 (h_a0_bounds.addr_ hx4)) ?_
            refine DW.fix rfl rfl rfl (fun _ EQ => RV.fieldAddr Tf26_0 rfl) ?_
            refine DW.fix rfl rfl rfl (fun _ EQ => RV.load1 Tk3 rfl (((h_a0_bounds.at_ hx4).ext (R0.trans EQ)).off 0) rfl) ?_
            refine DW.fix rfl rfl rfl (fun _ EQ => RV.nei rfl rfl) ?_
            refine DW.nil (hK19 _ _ ?_)
            by_cases hp6 : x2.b = x4.a
            ·
              replace F := ite_y hp6 F
              have hq6 := dec_t hp6
              refine CW.condF rfl (not_f hq6) ?_
              refine CW.skip (hK18 _ _ ?_)
              obtain ⟨x5, hbx5, hx5, F⟩ := ix_some F
              obtain ⟨x6, hbx6, hx6, F⟩ := ix_some F
              obtain ⟨hg3, F⟩ := gd_some F
              refine CW.draw [] (fun _ => True) (.cons 0 1 (.cons 1 1 (.cons 2 1 (.cons 3 1 (.cons 4 1 (.cons 5 1 (.cons 6 1 (.cons 7 1 (.cons 8 1 (.cons 9 1 (.cons 10 1 (.cons 11 1 .nil)))))))))))) mixed (by kernel_rfl) fun w4 E3 => ?_
              replace H := H.grow E3
              replace R0 := H.ext
              refine DW.fix rfl rfl rfl (fun _ EQ => RV.move rfl) ?_
              refine DW.fix rfl rfl rfl (fun _ EQ => RV.fieldAddr Tf24_1 rfl) ?_
              refine DW.fix rfl rfl rfl (fun _ EQ => RV.load1 Tk22 rfl (((H.grow EQ).blk 0 rfl).cells.off 1) rfl) ?_
              refine DW.fix rfl rfl rfl (fun _ EQ => RV.move rfl) ?_
              refine DW.fix rfl rfl rfl (fun _ EQ => RV.move rfl) ?_
              refine DW.fix rfl rfl rfl (fun _ EQ => RV.indexAddr Ts43 rfl rfl hbx5 (h_a1.addr_ hx5)) ?_
              refine DW.fix rfl rfl rfl (fun _ EQ => RV.load1 Tk3 rfl ((h_a1.at_ hx5).ext (R0.trans EQ)) rfl) ?_
              refine DW.fix rfl rfl rfl (fun _ EQ => RV.indexAddr Ts22 rfl rfl hbx6 (h_a0_bounds.addr_ hx6)) ?_
              refine DW.fix rfl rfl rfl (fun _ EQ => RV.fieldAddr Tf26_2 rfl) ?_
              refine DW.fix rfl rfl rfl (fun _ EQ => RV.load1 Tk3 rfl (((h_a0_bounds.at_ hx6).ext (R0.trans EQ)).off 2) rfl) ?_
              refine DW.fix rfl rfl rfl (fun _ EQ => RV.add rfl rfl hg3) ?_
              refine DW.fix rfl rfl rfl (fun _ EQ => RV.assign rfl) ?_
              refine DW.nil (hK17 _ _ ?_)
              obtain ⟨hg4, F⟩ := gd_some F
              refine CW.region ?_
              refine LW.pure rfl rfl (RV.move rfl) ?_
              refine LW.pure rfl rfl (RV.add rfl rfl hg4) ?_
              refine LW.pure rfl rfl (RV.assign rfl) ?_
              refine LW.nil ?_
              subst hrec1
              refine ⟨mk1, Nat.lt_succ_self _, _, ?_, (t7_2 + x6.most), (t8_1 + 1), F, rfl, H⟩
              exact ⟨rfl, rfl, rfl, rfl, rfl, trivial⟩
            ·
              replace F := ite_n hp6 F
              have hq6 := dec_f hp6
              refine CW.condT rfl (not_t hq6) ?_
              refine CW.seq fun K20 hK20 => ?_
              refine CW.region ?_
              refine LW.pure rfl rfl (RV.assign rfl) ?_
              refine LW.nil (hK20 _ _ ?_)
              refine CW.ret ?_
              obtain rfl := Option.some.inj F
              refine ⟨_, (ResOK.one rfl), ?_⟩
              refine ⟨(by first | rfl | simp), R0⟩
          ·
            replace F := ite_n hp5 F
            have hq5 := dec_f hp5
            refine CW.condF rfl hq5 ?_
            replace H := H.pick (L' := []) [] (by decide) rfl
            replace R0 := H.ext
            refine CW.exit (jK133 _ _ ⟨_, ?_, ⟨t7_2, F, rfl, H⟩⟩)
            exact ⟨rfl, rfl, rfl, trivial⟩
      ·
        intro K21 hK21 jK153
        refine CW.seq fun K22 hK22 => ?_
        refine CW.region ?_
        refine LW.pure rfl rfl (RV.assign rfl) ?_
        refine LW.nil (hK22 _ _ ?_)
        refine CW.block ?_
        refine CW.loop (fun meas ρ wl5 => ∃ (t6_1 : Int), ref03_CheckClash_L2 a0 a1 meas t6_1 = some res ∧ ρ = [(1, .slice A_a1 a1.length c_a1), (2, .pointer (some (⟨b1, 0, none⟩))), (4, .int .i64 0), (6, .int .i64 t6_1)] ∧ Hp w wl5 [.blk b1 24 [.int .i64 a0.layers, .slice A_a0_bounds a0.bounds.length c_a0_bounds]]) FU ⟨_, ?_, ((0 : Int)), F, rfl, H⟩ ?_
        · exact ⟨rfl, rfl, rfl, rfl, trivial⟩
        rintro mk2 _ wl5 ⟨t6_1, F, rfl, H⟩
        have R0 := H.ext
        replace F := ref03_CheckClash_L2_s F
        obtain ⟨mk2, rfl, F⟩ := F
        generalize hrec2 : ref03_CheckClash_L2 a0 a1 mk2 = rec2 at F
        unfold ref03_CheckClash_B2 at F
        refine CW.seq fun K23 hK23 => ?_
        refine CW.seq fun K24 hK24 => ?_
        refine CW.region ?_
        refine LW.pure rfl rfl (RV.move rfl) ?_
        refine LW.pure rfl rfl (RV.move rfl) ?_
        refine LW.pure rfl rfl (RV.len Ts43 rfl) ?_
        refine LW.pure rfl rfl (RV.lss rfl rfl) ?_
        refine LW.nil (hK24 _ _ ?_)
        by_cases hp7 : t6_1 < ((a1.length : Int))
        ·
          replace F := ite_y hp7 F
          have hq7 := dec_t hp7
          refine CW.condT rfl hq7 ?_
          refine CW.skip (hK23 _ _ ?_)
          refine CW.seq fun K25 hK25 => ?_
          refine CW.block ?_
          refine CW.seq fun K26 hK26 => ?_
          obtain ⟨x7, hbx7, hx7, F⟩ := ix_some F
          obtain ⟨hg5, F⟩ := gd_some F
          obtain ⟨r1, hr1, F⟩ := bnd_some F
          refine CW.draw [] (fun _ => True) (.cons 0 1 (.cons 1 1 (.cons 2 1 (.cons 3 1 (.cons 4 1 (.cons 5 1 (.cons 6 1 (.cons 7 1 (.cons 8 0 (.cons 9 1 .nil)))))))))) mixed (by kernel_rfl) fun w5 E4 => ?_
          replace H := H.grow E4
          replace R0 := H.ext
          refine DW.fix rfl rfl rfl (fun _ EQ => RV.move rfl) ?_
          refine DW.fix rfl rfl rfl (fun _ EQ => RV.move rfl) ?_
          refine DW.fix rfl rfl rfl (fun _ EQ => RV.indexAddr Ts43 rfl rfl hbx7 (h_a1.addr_ hx7)) ?_
          refine DW.fix rfl rfl rfl (fun _ EQ => RV.load1 Tk3 rfl ((h_a1.at_ hx7).ext (R0.trans EQ)) rfl) ?_
          refine DW.fix rfl rfl rfl (fun _ EQ => RV.fieldAddr Tf24_1 rfl) ?_
          refine DW.fix rfl rfl rfl (fun _ EQ => RV.load1 Tk22 rfl (((H.grow EQ).blk 0 rfl).cells.off 1) rfl) ?_
          refine DW.fix rfl rfl rfl (fun _ EQ => RV.len Ts22 rfl) ?_
          refine DW.fix rfl rfl rfl (fun _ EQ => RV.sub rfl rfl hg5) ?_
          refine DW.sole rfl rfl rfl (OW.call Tc62 rfl (ref03_within_ok (a0 := x7) (a1 := (0 : Int)) (a2 := ((a0.bounds.length : Int)) - 1) hr1) ?_)
          rintro _ w6 ⟨rfl, E5⟩
          refine ⟨_, rfl, fun _ => E5, ModX.ext E5, ?_⟩
          replace H := H.grow E5
          replace R0 := H.ext
          refine DW.fix rfl rfl rfl (fun _ EQ => RV.not rfl) ?_
          refine DW.nil (hK26 _ _ ?_)
          by_cases hp8 : r1 = true
          ·
            replace F := ite_y hp8 F
            have hq8 : r1 = true := hp8
            refine CW.condF rfl (not_f hq8) ?_
            refine CW.skip (hK25 _ _ ?_)
            obtain ⟨hg6, F⟩ := gd_some F
            refine CW.region ?_
            refine LW.pure rfl rfl (RV.move rfl) ?_
            refine LW.pure rfl rfl (RV.add rfl rfl hg6) ?_
            refine LW.pure rfl rfl (RV.assign rfl) ?_
            refine LW.nil ?_
            subst hrec2
            refine ⟨mk2, Nat.lt_succ_self _, _, ?_, (t6_1 + 1), F, rfl, H⟩
            exact ⟨rfl, rfl, rfl, rfl, trivial⟩
          ·
            replace F := ite_n hp8 F
            have hq8 : r1 = false := raw_f hp8
            refine CW.condT rfl (not_t hq8) ?_
            refine CW.seq fun K27 hK27 => ?_
            refine CW.region ?_
            refine LW.pure rfl rfl (RV.assign rfl) ?_
            refine LW.nil (hK27 _ _ ?_)
            refine CW.ret ?_
            obtain rfl := Option.some.inj F
            refine ⟨_, (ResOK.one rfl), ?_⟩
            refine ⟨(by first | rfl | simp), R0⟩
        ·
          replace F := ite_n hp7 F
          have hq7 := dec_f hp7
          refine CW.condF rfl hq7 ?_
          refine CW.exit (jK153 _ _ ⟨_, ?_, ⟨F, rfl, H⟩⟩)
          exact ⟨rfl, rfl, rfl, trivial⟩
  ·
    replace F := ite_n hp1 F
    have hq1 := dec_f hp1
    refine CW.condT rfl (not_t hq1) ?_
    refine CW.seq fun K28 hK28 => ?_
    refine CW.region ?_
    refine LW.pure rfl rfl (RV.move rfl) ?_
    refine LW.pure rfl rfl (RV.assign rfl) ?_
    refine LW.nil (hK28 _ _ ?_)
    refine CW.ret ?_
    obtain rfl := Option.some.inj F
    refine ⟨_, (ResOK.one rfl), ?_⟩
    refine ⟨(by first | rfl | simp), R0⟩

set_option maxRecDepth 20000 in
set_option maxHeartbeats 1000000 in
theorem slices_Reverse_int_ok {a0 : List Int} {A_a0 : Option Addr} {c_a0 : Nat} {w1 : World} {R : List Ck} {w : World} {res : (List Int)} (H : Hp w1 w ([.own A_a0 c_a0 3 1 (List.map encN a0)] ++ R)) (F : slices_Reverse_int a0 = some res) : Calls Try.prog 73 #[.slice A_a0 a0.length c_a0] w (fun e w' => e = .returned (.tuple #[]) ∧ res.length = a0.length ∧ Hp w1 w' ([.own A_a0 c_a0 3 1 (List.map encN res)] ++ R)) := by
  refine calls_of_cw (args := [.slice A_a0 a0.length c_a0]) Try.func73 rfl rfl rfl rfl ?_
  have R0 := H.ext
  unfold slices_Reverse_int at F
  refine CW.seq fun K1 hK1 => ?_
  obtain ⟨hg1, F⟩ := gd_some F
  refine CW.region ?_
  refine LW.pure rfl rfl (RV.move rfl) ?_
  refine LW.pure rfl rfl (RV.len Ts43 rfl) ?_
  refine LW.pure rfl rfl (RV.sub rfl rfl hg1) ?_
  refine LW.pure rfl rfl (RV.assign rfl) ?_
  refine LW.pure rfl rfl (RV.assign rfl) ?_
  refine LW.nil (hK1 _ _ ?_)
  refine CW.block ?_
  refine CW.loop (fun meas ρ wl1 => ∃ (t2_1 : Int) (t3_1 : Int) (l1 : List Int), slices_Reverse_int_L1 meas t2_1 t3_1 l1 = some res ∧ ρ = [(0, .slice A_a0 l1.length c_a0), (2, .int .i64 t2_1), (3, .int .i64 t3_1)] ∧ Hp w1 wl1 ([.own A_a0 c_a0 3 1 (List.map encN l1)] ++ R) ∧ l1.length = a0.length) FU ⟨_, ?_, ((0 : Int)), (((a0.length : Int)) - 1), a0, F, rfl, H, (show a0.length = a0.length by first | rfl | assumption | (simp; done) | (simp; assumption) | (simp; omega))⟩ ?_
  · exact ⟨(look_slice rfl (by first | rfl | (simp; done) | (simp; omega))), rfl, rfl, trivial⟩
  rintro mk1 _ wl1 ⟨t2_1, t3_1, l1, F, rfl, H, hl1⟩
  have R0 := H.ext
  replace F := slices_Reverse_int_L1_s F
  obtain ⟨mk1, rfl, F⟩ := F
  generalize hrec1 : slices_Reverse_int_L1 mk1 = rec1 at F
  unfold slices_Reverse_int_B1 at F
  refine CW.seq fun K2 hK2 => ?_
  refine CW.seq fun K3 hK3 => ?_
  refine CW.region ?_
  refine LW.pure rfl rfl (RV.move rfl) ?_
  refine LW.pure rfl rfl (RV.move rfl) ?_
  refine LW.pure rfl rfl (RV.lss rfl rfl) ?_
  refine LW.nil (hK3 _ _ ?_)
  by_cases hp1 : t2_1 < t3_1
  ·
    replace F := ite_y hp1 F
    have hq1 := dec_t hp1
    refine CW.condT rfl hq1 ?_
    refine CW.skip (hK2 _ _ ?_)
    refine CW.seq fun K4 hK4 => ?_
    refine CW.block ?_
    obtain ⟨x1, hbx1, hx1, F⟩ := ix_some F
    obtain ⟨x2, hbx2, hx2, F⟩ := ix_some F
    obtain ⟨x3, hbx3, hx3, F⟩ := ix_some F
    obtain ⟨x4, hbx4, hx4, F⟩ := ix_some F
    refine CW.draw [13, 15] (fun _ => True) (.cons 0 1 (.cons 1 1 (.cons 4 1 (.cons 5 1 (.cons 6 1 (.cons 7 1 (.cons 2 2 (.cons 3 2 (.cons 8 2 (.cons 9 2 (.cons 10 2 (.cons 11 1 (.cons 12 1 (.cons 13 0 (.cons 14 2 (.cons 15 0 .nil)))))))))))))))) mixed (by kernel_rfl) fun w2 E1 => ?_
    replace H := H.grow E1
    replace R0 := H.ext
    refine DW.fix rfl rfl rfl (fun _ EQ => RV.move rfl) ?_
    refine DW.fix rfl rfl rfl (fun _ EQ => RV.move rfl) ?_
    refine DW.fix rfl rfl rfl (fun _ EQ => RV.move rfl) ?_
    refine DW.fix rfl rfl rfl (fun _ EQ => RV.move rfl) ?_
    refine DW.fix rfl rfl rfl (fun _ EQ => RV.indexAddr Ts43 rfl rfl hbx1 ((H.own 0 rfl).sl.addr_ hx1)) ?_
    refine DW.fix rfl rfl rfl (fun _ EQ => RV.load1 Tk3 rfl (((H.grow EQ).own 0 rfl).sl.at_ hx1) rfl) ?_
    refine DW.thru rfl rfl rfl (fun _ EQ => RV.move rfl) ?_
    refine DW.thru rfl rfl rfl (fun _ EQ => RV.move rfl) ?_
    refine DW.thru rfl rfl rfl (fun _ EQ => RV.move rfl) ?_
    refine DW.thru rfl rfl rfl (fun _ EQ => RV.move rfl) ?_
    refine DW.thru rfl rfl rfl (fun _ EQ => RV.indexAddr Ts43 rfl rfl hbx2 ((H.own 0 rfl).sl.addr_ hx2)) ?_
    refine DW.fix rfl rfl rfl (fun _ EQ => RV.load1 Tk3 rfl (((H.grow EQ).own 0 rfl).sl.at_ hx2) rfl) ?_
    refine DW.fix rfl rfl rfl (fun _ EQ => RV.indexAddr Ts43 rfl rfl hbx3 ((H.own 0 rfl).sl.addr_ hx3)) ?_
    refine DW.sole rfl rfl rfl (OW.storeO (enc := encN) (vs := [.int .i64 x1]) 0 (x1) Tk3 rfl rfl (H.own 0 rfl) (fun _ => rfl) rfl hx3 rfl rfl (by decide) rfl rfl fun w3 M1 O1 => ?_)
    refine ⟨fun h => absurd h (by decide), M1.modx (fun _ _ => trivial), ?_⟩
    replace H : Hp w1 w3 ([.own A_a0 c_a0 3 1 (List.map encN ((l1.set (Int.toNat t2_1) x1)))] ++ R) := H.mod 0 rfl M1 O1 (.inl rfl)
    replace R0 := H.ext
    refine DW.thru rfl rfl rfl (fun _ EQ => RV.indexAddr Ts43 rfl rfl (by first | exact hbx4 | (simp at hbx4 ⊢; omega)) ((H.own 0 rfl).sl.addr_ hx4)) ?_
    refine DW.sole rfl rfl rfl (OW.storeO (enc := encN) (vs := [.int .i64 x2]) 0 (x2) Tk3 rfl rfl (H.own 0 rfl) (fun _ => rfl) rfl hx4 rfl rfl (by decide) rfl rfl fun w4 M2 O2 => ?_)
    refine ⟨fun h => absurd h (by decide), M2.modx (fun _ _ => trivial), ?_⟩
    replace H : Hp w1 w4 ([.own A_a0 c_a0 3 1 (List.map encN ((((l1.set (Int.toNat t2_1) x1)).set (Int.toNat t3_1) x2)))] ++ R) := H.mod 0 rfl M2 O2 (.inl rfl)
    replace R0 := H.ext
    refine DW.nil (hK4 _ _ ?_)
    obtain ⟨hg2, F⟩ := gd_some F
    obtain ⟨hg3, F⟩ := gd_some F
    refine CW.region ?_
    refine LW.pure rfl rfl (RV.move rfl) ?_
    refine LW.pure rfl rfl (RV.add rfl rfl hg2) ?_
    refine LW.pure rfl rfl (RV.move rfl) ?_
    refine LW.pure rfl rfl (RV.sub rfl rfl hg3) ?_
    refine LW.pure rfl rfl (RV.assign rfl) ?_
    refine LW.pure rfl rfl (RV.assign rfl) ?_
    refine LW.nil ?_
    subst hrec1
    refine ⟨mk1, Nat.lt_succ_self _, _, ?_, (t2_1 + 1), (t3_1 - 1), ((((l1.set (Int.toNat t2_1) x1)).set (Int.toNat t3_1) x2)), F, rfl, H, (show ((((l1.set (Int.toNat t2_1) x1)).set (Int.toNat t3_1) x2)).length = a0.length by first | rfl | assumption | (simp; done) | (simp; assumption) | (simp; omega))⟩
    exact ⟨(look_slice rfl (by first | rfl | (simp; done) | (simp; omega))), rfl, rfl, trivial⟩
  ·
    replace F := ite_n hp1 F
    have hq1 := dec_f hp1
    refine CW.condF rfl hq1 ?_
    refine CW.exit ?_
    obtain rfl := Option.some.inj F
    refine ⟨_, ResOK.none_, ?_⟩
    exact ⟨(by first | rfl | (simp; done) | (simp; omega)), (by first | rfl | assumption | (simp; done) | (simp; assumption) | (simp; omega)), H⟩

set_option maxRecDepth 20000 in
set_option maxHeartbeats 1000000 in
theorem core_Clash_ok {a0 : Core} {A_a0_bounds : Option Addr} {c_a0_bounds : Nat} {w : World} {res : (List Int) × Bool × Int} (h_a0_bounds : Sl w A_a0_bounds c_a0_bounds 3 (a0.bounds.map encBound)) (F : core_Clash a0 = some res) : Calls Try.prog 42 #[.agg #[.int .i64 a0.layers, .slice A_a0_bounds a0.bounds.length c_a0_bounds]] w (fun e w' => ∃ (A1 : Option Addr) (c1 : Nat), e = .returned (.tuple #[.slice A1 res.1.length c1, .bool res.2.1, .int .i64 res.2.2]) ∧ Hp w w' [.own A1 c1 3 1 (List.map encN res.1)]) := by
  refine calls_of_cw (args := [.agg #[.int .i64 a0.layers, .slice A_a0_bounds a0.bounds.length c_a0_bounds]]) Try.func42 rfl rfl rfl rfl ?_
  have H := Hp.start w
  have R0 := H.ext
  unfold core_Clash at F
  refine CW.seq fun K1 hK1 => ?_
  refine CW.region ?_
  refine LW.go rfl rfl (OW.box rfl fun b1 w1 N1 => ?_)
  replace H := H.new N1 N1.blk
  replace R0 := H.ext
  refine LW.pure rfl rfl (RV.assign rfl) ?_
  refine LW.pure rfl rfl (RV.assign rfl) ?_
  refine LW.pure rfl rfl (RV.assign rfl) ?_
  refine LW.nil (hK1 _ _ ?_)
  refine CW.seq fun K2 hK2 => ?_
  refine CW.seq fun K3 hK3 => ?_
  obtain ⟨r3, hr3, F⟩ := bnd_some F
  refine CW.region ?_
  refine LW.pure rfl rfl (RV.loadA [.int .i64 a0.layers, .slice A_a0_bounds a0.bounds.length c_a0_bounds] Tk24 rfl (H.blk 0 rfl).cells rfl rfl) ?_
  refine LW.go rfl rfl (OW.call Tc36 rfl (core_Validate_ok (a0 := a0) (h_a0_bounds.ext R0) hr3) ?_)
  rintro _ w2 ⟨rfl, E1⟩
  refine ⟨_, rfl, ?_⟩
  replace H := H.grow E1
  replace R0 := H.ext
  refine LW.pure rfl rfl (RV.assign rfl) ?_
  refine LW.nil (hK3 _ _ ?_)
  refine CW.seq fun K4 hK4 => ?_
  refine CW.region ?_
  refine LW.pure rfl rfl (RV.move rfl) ?_
  refine LW.pure rfl rfl (RV.nei rfl rfl) ?_
  refine LW.nil (hK4 _ _ ?_)
  by_cases hp1 : r3 = 0
  ·
    replace F := ite_y hp1 F
    have hq1 := dec_t hp1
    refine CW.condF rfl (not_f hq1) ?_
    refine CW.skip (hK2 _ _ ?_)
    refine CW.seq fun K5 hK5 => ?_
    obtain ⟨r2, hr2, F⟩ := bnd_some F
    refine CW.region ?_
    refine LW.pure rfl rfl (RV.loadA [.int .i64 a0.layers, .slice A_a0_bounds a0.bounds.length c_a0_bounds] Tk24 rfl (H.blk 0 rfl).cells rfl rfl) ?_
    refine LW.go rfl rfl (OW.call Tc72 rfl (core_relax_ok (a0 := a0) (h_a0_bounds.ext R0) hr2) ?_)
    rintro _ w3 ⟨A7_0, c7_0, A7_1, c7_1, rfl, E2⟩
    refine ⟨_, rfl, ?_⟩
    replace H : Hp w w3 [.own A7_0 c7_0 3 1 (List.map encN r2.1), .own A7_1 c7_1 3 1 (List.map encN r2.2.1), .blk b1 24 [.int .i64 a0.layers, .slice A_a0_bounds a0.bounds.length c_a0_bounds]] := H.append E2
    replace R0 := H.ext
    refine LW.pure rfl rfl (RV.move rfl) ?_
    refine LW.pure rfl rfl (RV.extract rfl rfl) ?_
    refine LW.pure rfl rfl (RV.extract rfl rfl) ?_
    refine LW.pure rfl rfl (RV.extract rfl rfl) ?_
    refine LW.pure rfl rfl (RV.assign rfl) ?_
    refine LW.pure rfl rfl (RV.assign rfl) ?_
    refine LW.pure rfl rfl (RV.assign rfl) ?_
    refine LW.nil (hK5 _ _ ?_)
    refine CW.seq fun K6 hK6 => ?_
    refine CW.seq fun K7 hK7 => ?_
    refine CW.region ?_
    refine LW.pure rfl rfl (RV.move rfl) ?_
    refine LW.pure rfl rfl (RV.lss rfl rfl) ?_
    refine LW.nil (hK7 _ _ ?_)
    by_cases hp2 : r2.2.2 < 0
    ·
      replace F := ite_y hp2 F
      have hq2 := dec_t hp2
      refine CW.condT rfl hq2 ?_
      refine CW.seq fun K8 hK8 => ?_
      refine CW.region ?_
      refine LW.pure rfl rfl (RV.assign rfl) ?_
      refine LW.pure rfl rfl (RV.assign rfl) ?_
      refine LW.pure rfl rfl (RV.assign rfl) ?_
      refine LW.nil (hK8 _ _ ?_)
      refine CW.ret ?_
      obtain rfl := Option.some.inj F
      refine ⟨_, (ResOK.three rfl rfl rfl), ?_⟩
      replace H := H.nilOwn 3 1
      replace R0 := H.ext
      replace H := H.pick (L' := [.own none 0 3 1 (List.map encN (([] : List Int)))]) [0] (by decide) rfl
      replace R0 := H.ext
      exact ⟨none, 0, (by first | rfl | (simp; done) | (simp; omega)), H⟩
    ·
      replace F := ite_n hp2 F
      have hq2 := dec_f hp2
      refine CW.condF rfl hq2 ?_
      refine CW.skip (hK6 _ _ ?_)
      refine CW.seqJ (fun ρ wl1 => (∃ (t8_2 : Int), core_Clash_k3 a0 r2 t8_2 = some res ∧ ρ = [(1, .pointer (some (⟨b1, 0, none⟩))), (2, .slice none 0 0), (3, .bool false), (4, .int .i64 0), (7, .slice A7_1 r2.2.1.length c7_1), (8, .int .i64 t8_2)] ∧ Hp w wl1 [.own A7_1 c7_1 3 1 (List.map encN r2.2.1), .blk b1 24 [.int .i64 a0.layers, .slice A_a0_bounds a0.bounds.length c_a0_bounds]])) ?_ ?_
      ·
        rintro _ wl1 ⟨t8_2, F, rfl, H⟩
        have R0 := H.ext
        unfold core_Clash_k3 at F
        refine CW.seq fun K9 hK9 => ?_
        refine CW.region ?_
        refine LW.pure rfl rfl (RV.assign rfl) ?_
        refine LW.nil (hK9 _ _ ?_)
        refine CW.seqJ (fun ρ wl2 => (∃ (l1 : List Int) (Al1 : Option Addr) (cl1 : Nat), core_Clash_k1 l1 = some res ∧ ρ = [(2, .slice none 0 0), (3, .bool false), (4, .int .i64 0), (9, .slice Al1 l1.length cl1)] ∧ Hp w wl2 [.own Al1 cl1 3 1 (List.map encN l1)])) ?_ ?_
        ·
          rintro _ wl2 ⟨l1, Al1, cl1, F, rfl, H⟩
          have R0 := H.ext
          unfold core_Clash_k1 at F
          refine CW.seq fun K10 hK10 => ?_
          obtain ⟨r1, hr1, F⟩ := bnd_some F
          refine CW.region ?_
          refine LW.pure rfl rfl (RV.move rfl) ?_
          replace H := H.pick (L' := [.own Al1 cl1 3 1 (List.map encN l1)]) [0] (by decide) rfl
          replace R0 := H.ext
          refine LW.go rfl rfl (OW.call Tc73 rfl (slices_Reverse_int_ok (a0 := l1) (R := []) H hr1) ?_)
          rintro _ w4 ⟨rfl, hlm9_a0, Hq1⟩
          refine ⟨_, rfl, ?_⟩
          replace H : Hp w w4 [.own Al1 cl1 3 1 (List.map encN r1)] := Hq1
          replace R0 := H.ext
          refine LW.nil (hK10 _ _ ?_)
          refine CW.seq fun K11 hK11 => ?_
          refine CW.region ?_
          refine LW.pure rfl rfl (RV.move rfl) ?_
          refine LW.pure rfl rfl (RV.assign rfl) ?_
          refine LW.pure rfl rfl (RV.assign rfl) ?_
          refine LW.pure rfl rfl (RV.assign rfl) ?_
          refine LW.nil (hK11 _ _ ?_)
          refine CW.ret ?_
          obtain rfl := Option.some.inj F
          refine ⟨_, (ResOK.three rfl rfl rfl), ?_⟩
          exact ⟨Al1, cl1, (by first | rfl | (simp; done) | (simp; omega)), H⟩
        ·
          intro K12 hK12 jK86
          refine CW.seq fun K13 hK13 => ?_
          refine CW.region ?_
          refine LW.pure rfl rfl (RV.move rfl) ?_
          refine LW.pure rfl rfl (RV.assign rfl) ?_
          refine LW.nil (hK13 _ _ ?_)
          refine CW.block ?_
          replace H := H.nilOwn 3 1
          replace R0 := H.ext
          replace H := H.pick (L' := [.own A7_1 c7_1 3 1 (List.map encN r2.2.1), .own none 0 3 1 (List.map encN (([] : List Int))), .blk b1 24 [.int .i64 a0.layers, .slice A_a0_bounds a0.bounds.length c_a0_bounds]]) [1, 0, 2] (by decide) rfl
          replace R0 := H.ext
          refine CW.loop (fun meas ρ wl3 => ∃ (t8_1 : Int) (l2 : List Int) (Al2 : Option Addr) (cl2 : Nat), core_Clash_L1 a0 r2 t8_2 meas t8_1 l2 = some res ∧ ρ = [(1, .pointer (some (⟨b1, 0, none⟩))), (2, .slice none 0 0), (3, .bool false), (4, .int .i64 0), (7, .slice A7_1 r2.2.1.length c7_1), (8, .int .i64 t8_1), (9, .slice Al2 l2.length cl2), (10, .int .i64 t8_2)] ∧ Hp w wl3 [.own A7_1 c7_1 3 1 (List.map encN r2.2.1), .own Al2 cl2 3 1 (List.map encN l2), .blk b1 24 [.int .i64 a0.layers, .slice A_a0_bounds a0.bounds.length c_a0_bounds]]) FU ⟨_, ?_, t8_2, (([] : List Int)), none, 0, F, rfl, H⟩ ?_
          · exact ⟨rfl, rfl, rfl, rfl, (look_slice rfl (by first | rfl | (simp; done) | (simp; omega))), rfl, (look_slice rfl (by first | rfl | (simp; done) | (simp; omega))), rfl, trivial⟩
          rintro mk1 _ wl3 ⟨t8_1, l2, Al2, cl2, F, rfl, H⟩
          have R0 := H.ext
          replace F := core_Clash_L1_s F
          obtain ⟨mk1, rfl, F⟩ := F
          generalize hrec1 : core_Clash_L1 a0 r2 t8_2 mk1 = rec1 at F
          unfold core_Clash_B1 at F
          refine CW.seq fun K14 hK14 => ?_
          refine CW.seqJ (fun ρ wl4 => (∃ (t46_1 : Bool), core_Clash_k2 a0 r2 t8_1 l2 rec1 t46_1 = some res ∧ ρ = [(1, .pointer (some (⟨b1, 0, none⟩))), (2, .slice none 0 0), (3, .bool false), (4, .int .i64 0), (7, .slice A7_1 r2.2.1.length c7_1), (8, .int .i64 t8_1), (9, .slice Al2 l2.length cl2), (10, .int .i64 t8_2), (46, .bool t46_1)] ∧ Hp w wl4 [.own A7_1 c7_1 3 1 (List.map encN r2.2.1), .own Al2 cl2 3 1 (List.map encN l2), .blk b1 24 [.int .i64 a0.layers, .slice A_a0_bounds a0.bounds.length c_a0_bounds]])) ?_ ?_
          ·
            rintro _ wl4 ⟨t46_1, F, rfl, H⟩
            have R0 := H.ext
            unfold core_Clash_k2 at F
            by_cases hp3 : t46_1 = true
            ·
              replace F := ite_y hp3 F
              have hq3 : t46_1 = true := hp3
              refine CW.condT rfl hq3 ?_
              refine CW.skip (hK14 _ _ ?_)
              refine CW.seq fun K15 hK15 => ?_
              refine CW.block ?_
              obtain ⟨x1, hbx1, hx1, F⟩ := ix_some F
              obtain ⟨hg1, F⟩ := gd_some F
              refine CW.region ?_
              refine LW.pure rfl rfl (RV.move rfl) ?_
              refine LW.pure rfl rfl (RV.move rfl) ?_
              refine LW.pure rfl rfl (RV.move rfl) ?_
              refine LW.pure rfl rfl (RV.indexAddr Ts43 rfl rfl hbx1 ((H.own 0 rfl).sl.addr_ hx1)) ?_
              refine LW.pure rfl rfl (RV.load1 Tk3 rfl ((H.own 0 rfl).sl.at_ hx1) rfl) ?_
              refine LW.go rfl rfl (OW.buildSlice (e := 3) (vs := [.int .i64 x1]) (cs := [.int .i64 x1]) rfl (fun _ => by kernel_rfl) fun b2 w5 N2 => ?_)
              replace H := H.made' (k := 1) (t := 3) (enc := encN) (l := ([x1] : List Int)) N2 N2.blk (fun _ => rfl) rfl (by first | decide | omega | (simp; done) | (simp; omega))
              replace R0 := H.ext
              refine LW.go rfl rfl (OW.appendG (enc := encN) (l := l2) (xs := ([x1] : List Int)) Ts43 rfl (look_slice rfl (by first | rfl | (simp; done) | (simp; omega))) (H.own 2 rfl) (H.own 0 rfl).sl (fun _ => rfl) rfl rfl hg1 (by decide) fun A2 c2 w6 O1 M1 D1 => ?_)
              replace H : Hp w w6 [.own (some ⟨b2, 0, none⟩) ((([x1] : List Int)).length) 3 1 (List.map encN (([x1] : List Int))), .own A7_1 c7_1 3 1 (List.map encN r2.2.1), .own A2 c2 3 1 (List.map encN ((l2 ++ ([x1] : List Int)))), .blk b1 24 [.int .i64 a0.layers, .slice A_a0_bounds a0.bounds.length c_a0_bounds]] := H.mod 2 rfl M1 O1 D1
              replace R0 := H.ext
              refine LW.pure rfl rfl (RV.assign rfl) ?_
              refine LW.nil (hK15 _ _ ?_)
              obtain ⟨x2, hbx2, hx2, F⟩ := ix_some F
              obtain ⟨x3, hbx3, hx3, F⟩ := ix_some F
              refine CW.draw [] (fun _ => True) (.cons 0 1 (.cons 1 1 (.cons 2 1 (.cons 3 1 (.cons 4 1 (.cons 5 1 (.cons 6 1 (.cons 7 1 (.cons 8 1 (.cons 9 1 .nil)))))))))) mixed (by kernel_rfl) fun w7 E3 => ?_
              replace H := H.grow E3
              replace R0 := H.ext
              refine DW.fix rfl rfl rfl (fun _ EQ => RV.fieldAddr Tf24_1 rfl) ?_
              refine DW.fix rfl rfl rfl (fun _ EQ => RV.load1 Tk22 rfl (((H.grow EQ).blk 3 rfl).cells.off 1) rfl) ?_
              refine DW.fix rfl rfl rfl (fun _ EQ => RV.move rfl) ?_
              refine DW.fix rfl rfl rfl (fun _ EQ => RV.move rfl) ?_
              refine DW.fix rfl rfl rfl (fun _ EQ => RV.indexAddr Ts43 rfl rfl hbx2 ((H.own 1 rfl).sl.addr_ hx2)) ?_
              refine DW.fix rfl rfl rfl (fun _ EQ => RV.load1 Tk3 rfl (((H.grow EQ).own 1 rfl).sl.at_ hx2) rfl) ?_
              refine DW.fix rfl rfl rfl (fun _ EQ => RV.indexAddr Ts22 rfl rfl hbx3 (h_a0_bounds.addr_ hx3)) ?_
              refine DW.fix rfl rfl rfl (fun _ EQ => RV.fieldAddr Tf26_0 rfl) ?_
              refine DW.fix rfl rfl rfl (fun _ EQ => RV.load1 Tk3 rfl (((h_a0_bounds.at_ hx3).ext (R0.trans EQ)).off 0) rfl) ?_
              refine DW.fix rfl rfl rfl (fun _ EQ => RV.assign rfl) ?_
              refine DW.nil ?_
              replace H := H.pick (L' := [.own A7_1 c7_1 3 1 (List.map encN r2.2.1), .own A2 c2 3 1 (List.map encN ((l2 ++ ([x1] : List Int)))), .blk b1 24 [.int .i64 a0.layers, .slice A_a0_bounds a0.bounds.length c_a0_bounds]]) [1, 2, 3] (by decide) rfl
              replace R0 := H.ext
              subst hrec1
              refine ⟨mk1, Nat.lt_succ_self _, _, ?_, x3.a, ((l2 ++ ([x1] : List Int))), A2, c2, F, rfl, H⟩
              exact ⟨rfl, rfl, rfl, rfl, (look_slice rfl (by first | rfl | (simp; done) | (simp; omega))), rfl, (look_slice rfl (by first | rfl | (simp; done) | (simp; omega))), rfl, trivial⟩
            ·
              replace F := ite_n hp3 F
              have hq3 : t46_1 = false := raw_f hp3
              refine CW.condF rfl hq3 ?_
              replace H := H.pick (L' := [.own Al2 cl2 3 1 (List.map encN l2)]) [1] (by decide) rfl
              replace R0 := H.ext
              refine CW.exit (jK86 _ _ ⟨_, ?_, ⟨l2, Al2, cl2, F, rfl, H⟩⟩)
              exact ⟨rfl, rfl, rfl, (look_slice rfl (by first | rfl | (simp; done) | (simp; omega))), trivial⟩
          ·
            intro K16 hK16 jK96
            by_cases hp4 : ((l2.length : Int)) = 0
            ·
              replace F := ite_y hp4 F
              have hq4 := dec_t hp4
              refine CW.region ?_
              refine LW.pure rfl rfl (RV.move rfl) ?_
              refine LW.pure rfl rfl (RV.len Ts43 rfl) ?_
              refine LW.pure rfl rfl (RV.eqi rfl rfl) ?_
              refine LW.pure rfl rfl (RV.move rfl) ?_
              refine LW.noB rfl rfl rfl rfl (ne_beq (v := true) hq4 rfl) ?_
              refine LW.noB rfl rfl rfl rfl (ne_beq (v := true) hq4 rfl) ?_
              refine LW.noB rfl rfl rfl rfl (ne_beq (v := true) hq4 rfl) ?_
              refine LW.pure rfl rfl (RV.pickTB rfl hq4 rfl) ?_
              refine LW.nil (jK96 _ _ ⟨_, ?_, ⟨true, F, rfl, H⟩⟩)
              exact ⟨rfl, rfl, rfl, rfl, (look_slice rfl (by first | rfl | (simp; done) | (simp; omega))), rfl, (look_slice rfl (by first | rfl | (simp; done) | (simp; omega))), rfl, rfl, trivial⟩
            ·
              replace F := ite_n hp4 F
              have hq4 := dec_f hp4
              refine CW.region ?_
              refine LW.pure rfl rfl (RV.move rfl) ?_
              refine LW.pure rfl rfl (RV.len Ts43 rfl) ?_
              refine LW.pure rfl rfl (RV.eqi rfl rfl) ?_
              refine LW.pure rfl rfl (RV.move rfl) ?_
              refine LW.pureYB rfl rfl rfl rfl hq4 (RV.move rfl) ?_
              refine LW.pureYB rfl rfl rfl rfl hq4 (RV.move rfl) ?_
              refine LW.pureYB rfl rfl rfl rfl hq4 (RV.nei rfl rfl) ?_
              refine LW.pure rfl rfl (RV.pickFB rfl hq4 rfl) ?_
              refine LW.nil (jK96 _ _ ⟨_, ?_, ⟨(!(decide (t8_1 = t8_2))), F, rfl, H⟩⟩)
              exact ⟨rfl, rfl, rfl, rfl, (look_slice rfl (by first | rfl | (simp; done) | (simp; omega))), rfl, (look_slice rfl (by first | rfl | (simp; done) | (simp; omega))), rfl, rfl, trivial⟩
      ·
        intro K17 hK17 jK97
        refine CW.seq fun K18 hK18 => ?_
        refine CW.region ?_
        refine LW.pure rfl rfl (RV.fieldAddr Tf24_0 rfl) ?_
        refine LW.pure rfl rfl (RV.load1 Tk3 rfl ((H.blk 2 rfl).cells.off 0) rfl) ?_
        refine LW.pure rfl rfl (RV.move rfl) ?_
        refine LW.nil (hK18 _ _ ?_)
        refine CW.block ?_
        replace H := H.pick (L' := [.own A7_1 c7_1 3 1 (List.map encN r2.2.1), .blk b1 24 [.int .i64 a0.layers, .slice A_a0_bounds a0.bounds.length c_a0_bounds]]) [1, 2] (by decide) rfl
        replace R0 := H.ext
        refine CW.loop (fun meas ρ wl5 => ∃ (t8_3 : Int) (t26_1 : Int), core_Clash_L2 a0 r2 meas t8_3 t26_1 = some res ∧ ρ = [(1, .pointer (some (⟨b1, 0, none⟩))), (2, .slice none 0 0), (3, .bool false), (4, .int .i64 0), (7, .slice A7_1 r2.2.1.length c7_1), (8, .int .i64 t8_3), (25, .int .i64 a0.layers), (26, .int .i64 t26_1)] ∧ Hp w wl5 [.own A7_1 c7_1 3 1 (List.map encN r2.2.1), .blk b1 24 [.int .i64 a0.layers, .slice A_a0_bounds a0.bounds.length c_a0_bounds]]) FU ⟨_, ?_, r2.2.2, ((0 : Int)), F, rfl, H⟩ ?_
        · exact ⟨rfl, rfl, rfl, rfl, (look_slice rfl (by first | rfl | (simp; done) | (simp; omega))), rfl, rfl, rfl, trivial⟩
        rintro mk2 _ wl5 ⟨t8_3, t26_1, F, rfl, H⟩
        have R0 := H.ext
        replace F := core_Clash_L2_s F
        obtain ⟨mk2, rfl, F⟩ := F
        generalize hrec2 : core_Clash_L2 a0 r2 mk2 = rec2 at F
        unfold core_Clash_B2 at F
        refine CW.seq fun K19 hK19 => ?_
        refine CW.region ?_
        refine LW.pure rfl rfl (RV.lss rfl rfl) ?_
        refine LW.nil (hK19 _ _ ?_)
        refine CW.seq fun K20 hK20 => ?_
        by_cases hp5 : t26_1 < a0.layers
        ·
          replace F := ite_y hp5 F
          have hq5 := dec_t hp5
          refine CW.condT rfl hq5 ?_
          refine CW.skip (hK20 _ _ ?_)
          refine CW.seq fun K21 hK21 => ?_
          refine CW.block ?_
          obtain ⟨x4, hbx4, hx4, F⟩ := ix_some F
          obtain ⟨x5, hbx5, hx5, F⟩ := ix_some F
          refine CW.draw [] (fun _ => True) (.cons 0 1 (.cons 1 1 (.cons 2 1 (.cons 3 1 (.cons 4 1 (.cons 5 1 (.cons 6 1 (.cons 7 1 (.cons 8 1 (.cons 9 1 .nil)))))))))) mixed (by kernel_rfl) fun w8 E4 => ?_
          replace H := H.grow E4
          replace R0 := H.ext
          refine DW.fix rfl rfl rfl (fun _ EQ => RV.fieldAddr Tf24_1 rfl) ?_
          refine DW.fix rfl rfl rfl (fun _ EQ => RV.load1 Tk22 rfl (((H.grow EQ).blk 1 rfl).cells.off 1) rfl) ?_
          refine DW.fix rfl rfl rfl (fun _ EQ => RV.move rfl) ?_
          refine DW.fix rfl rfl rfl (fun _ EQ => RV.move rfl) ?_
          refine DW.fix rfl rfl rfl (fun _ EQ => RV.indexAddr Ts43 rfl rfl hbx4 ((H.own 0 rfl).sl.addr_ hx4)) ?_
          refine DW.fix rfl rfl rfl (fun _ EQ => RV.load1 Tk3 rfl (((H.grow EQ).own 0 rfl).sl.at_ hx4) rfl) ?_
          refine DW.fix rfl rfl rfl (fun _ EQ => RV.indexAddr Ts22 rfl rfl hbx5 (h_a0_bounds.addr_ hx5)) ?_
          refine DW.fix rfl rfl rfl (fun _ EQ => RV.fieldAddr Tf26_0 rfl) ?_
          refine DW.fix rfl rfl rfl (fun _ EQ => RV.load1 Tk3 rfl (((h_a0_bounds.at_ hx5).ext (R0.trans EQ)).off 0) rfl) ?_
          refine DW.fix rfl rfl rfl (fun _ EQ => RV.assign rfl) ?_
          refine DW.nil (hK21 _ _ ?_)
          obtain ⟨hg2, F⟩ := gd_some F
          refine CW.region ?_
          refine LW.pure rfl rfl (RV.add rfl rfl hg2) ?_
          refine LW.pure rfl rfl (RV.move rfl) ?_
          refine LW.nil ?_
          subst hrec2
          refine ⟨mk2, Nat.lt_succ_self _, _, ?_, x5.a, (t26_1 + 1), F, rfl, H⟩
          exact ⟨rfl, rfl, rfl, rfl, (look_slice rfl (by first | rfl | (simp; done) | (simp; omega))), rfl, rfl, rfl, trivial⟩
        ·
          replace F := ite_n hp5 F
          have hq5 := dec_f hp5
          refine CW.condF rfl hq5 ?_
          refine CW.exit (jK97 _ _ ⟨_, ?_, ⟨t8_3, F, rfl, H⟩⟩)
          exact ⟨rfl, rfl, rfl, rfl, (look_slice rfl (by first | rfl | (simp; done) | (simp; omega))), rfl, trivial⟩
  ·
    replace F := ite_n hp1 F
    have hq1 := dec_f hp1
    refine CW.condT rfl (not_t hq1) ?_
    refine CW.seq fun K22 hK22 => ?_
    refine CW.region ?_
    refine LW.pure rfl rfl (RV.move rfl) ?_
    refine LW.pure rfl rfl (RV.assign rfl) ?_
    refine LW.pure rfl rfl (RV.assign rfl) ?_
    refine LW.pure rfl rfl (RV.assign rfl) ?_
    refine LW.nil (hK22 _ _ ?_)
    refine CW.ret ?_
    obtain rfl := Option.some.inj F
    refine ⟨_, (ResOK.three rfl rfl rfl), ?_⟩
    replace H := H.nilOwn 3 1
    replace R0 := H.ext
    replace H := H.pick (L' := [.own none 0 3 1 (List.map encN (([] : List Int)))]) [0] (by decide) rfl
    replace R0 := H.ext
    exact ⟨none, 0, (by first | rfl | (simp; done) | (simp; omega)), H⟩

set_option maxRecDepth 20000 in
set_option maxHeartbeats 1000000 in
theorem law03_CoreClashes_ok {a0 : Core} {a1 : List Int} {A_a0_bounds : Option Addr} {c_a0_bounds : Nat} {A_a1 : Option Addr} {c_a1 : Nat} {w : World} {res : Bool} (h_a0_bounds : Sl w A_a0_bounds c_a0_bounds 3 (a0.bounds.map encBound)) (h_a1 : Sl w A_a1 c_a1 1 (a1.map encN)) (F : law03_CoreClashes a0 a1 = some res) : Calls Try.prog 9 #[.agg #[.int .i64 a0.layers, .slice A_a0_bounds a0.bounds.length c_a0_bounds], .slice A_a1 a1.length c_a1] w (Rt w (.bool res)) := by
  refine calls_of_cw (args := [.agg #[.int .i64 a0.layers, .slice A_a0_bounds a0.bounds.length c_a0_bounds], .slice A_a1 a1.length c_a1]) Try.func9 rfl rfl rfl rfl ?_
  have H := Hp.start w
  have R0 := H.ext
  unfold law03_CoreClashes at F
  refine CW.seq fun K1 hK1 => ?_
  refine CW.region ?_
  refine LW.go rfl rfl (OW.box rfl fun b1 w1 N1 => ?_)
  replace H := H.new N1 N1.blk
  replace R0 := H.ext
  refine LW.pure rfl rfl (RV.assign rfl) ?_
  refine LW.nil (hK1 _ _ ?_)
  refine CW.seq fun K2 hK2 => ?_
  refine CW.seqJ (fun ρ wl1 => (∃ (t16_1 : Bool), law03_CoreClashes_k2 a0 a1 t16_1 = some res ∧ ρ = [(1, .slice A_a1 a1.length c_a1), (2, .pointer (some (⟨b1, 0, none⟩))), (4, .bool false), (16, .bool t16_1)] ∧ Hp w wl1 [.blk b1 24 [.int .i64 a0.layers, .slice A_a0_bounds a0.bounds.length c_a0_bounds]])) ?_ ?_
  ·
    rintro _ wl1 ⟨t16_1, F, rfl, H⟩
    have R0 := H.ext
    unfold law03_CoreClashes_k2 at F
    by_cases hp1 : t16_1 = true
    ·
      replace F := ite_y hp1 F
      have hq1 : t16_1 = true := hp1
      refine CW.condT rfl hq1 ?_
      refine CW.seq fun K3 hK3 => ?_
      obtain ⟨r5, hr5, F⟩ := bnd_some F
      refine CW.region ?_
      refine LW.go rfl rfl (OW.call Tc18 rfl (law03_known_ok hr5) ?_)
      rintro _ w2 ⟨rfl, E1⟩
      refine ⟨_, rfl, ?_⟩
      replace H := H.grow E1
      replace R0 := H.ext
      refine LW.pure rfl rfl (RV.assign rfl) ?_
      refine LW.nil (hK3 _ _ ?_)
      refine CW.ret ?_
      obtain rfl := Option.some.inj F
      refine ⟨_, (ResOK.one rfl), ?_⟩
      refine ⟨(by first | rfl | simp), R0⟩
    ·
      replace F := ite_n hp1 F
      have hq1 : t16_1 = false := raw_f hp1
      refine CW.condF rfl hq1 ?_
      refine CW.skip (hK2 _ _ ?_)
      refine CW.seq fun K4 hK4 => ?_
      refine CW.seq fun K5 hK5 => ?_
      obtain ⟨r6, hr6, F⟩ := bnd_some F
      obtain ⟨r7, hr7, F⟩ := bnd_some F
      refine CW.draw [] (fun _ => True) (.cons 0 1 (.cons 1 1 (.cons 3 1 (.cons 4 1 (.cons 2 0 (.cons 5 0 (.cons 6 1 .nil))))))) mixed (by kernel_rfl) fun w3 E2 => ?_
      replace H := H.grow E2
      replace R0 := H.ext
      refine DW.fix rfl rfl rfl (fun _ EQ => RV.loadA [.int .i64 a0.layers, .slice A_a0_bounds a0.bounds.length c_a0_bounds] Tk24 rfl ((H.grow EQ).blk 0 rfl).cells rfl rfl) ?_
      refine DW.fix rfl rfl rfl (fun _ EQ => RV.move rfl) ?_
      refine DW.fix rfl rfl rfl (fun _ EQ => RV.loadA [.int .i64 a0.layers, .slice A_a0_bounds a0.bounds.length c_a0_bounds] Tk24 rfl ((H.grow EQ).blk 0 rfl).cells rfl rfl) ?_
      refine DW.fix rfl rfl rfl (fun _ EQ => RV.move rfl) ?_
      refine DW.sole rfl rfl rfl (OW.call Tc40 rfl (core_CheckClash_ok (a0 := a0) (a1 := a1) (h_a0_bounds.ext R0) (h_a1.ext R0) hr6) ?_)
      rintro _ w4 ⟨rfl, E3⟩
      refine ⟨_, rfl, fun _ => E3, ModX.ext E3, ?_⟩
      replace H := H.grow E3
      replace R0 := H.ext
      refine DW.sole rfl rfl rfl (OW.call Tc41 rfl (ref03_CheckClash_ok (a0 := a0) (a1 := a1) (h_a0_bounds.ext R0) (h_a1.ext R0) hr7) ?_)
      rintro _ w5 ⟨rfl, E4⟩
      refine ⟨_, rfl, fun _ => E4, ModX.ext E4, ?_⟩
      replace H := H.grow E4
      replace R0 := H.ext
      refine DW.fix rfl rfl rfl (fun _ EQ => RV.nei rfl rfl) ?_
      refine DW.nil (hK5 _ _ ?_)
      by_cases hp2 : r6 = r7
      ·
        replace F := ite_y hp2 F
        have hq2 := dec_t hp2
        refine CW.condF rfl (not_f hq2) ?_
        refine CW.skip (hK4 _ _ ?_)
        refine CW.seq fun K6 hK6 => ?_
        obtain ⟨r1, hr1, F⟩ := bnd_some F
        refine CW.region ?_
        refine LW.pure rfl rfl (RV.loadA [.int .i64 a0.layers, .slice A_a0_bounds a0.bounds.length c_a0_bounds] Tk24 rfl (H.blk 0 rfl).cells rfl rfl) ?_
        refine LW.go rfl rfl (OW.call Tc42 rfl (core_Clash_ok (a0 := a0) (h_a0_bounds.ext R0) hr1) ?_)
        rintro _ w6 ⟨A19_0, c19_0, rfl, E5⟩
        refine ⟨_, rfl, ?_⟩
        replace H : Hp w w6 [.own A19_0 c19_0 3 1 (List.map encN r1.1), .blk b1 24 [.int .i64 a0.layers, .slice A_a0_bounds a0.bounds.length c_a0_bounds]] := H.append E5
        replace R0 := H.ext
        refine LW.pure rfl rfl (RV.move rfl) ?_
        refine LW.pure rfl rfl (RV.extract rfl rfl) ?_
        refine LW.pure rfl rfl (RV.extract rfl rfl) ?_
        refine LW.pure rfl rfl (RV.extract rfl rfl) ?_
        refine LW.pure rfl rfl (RV.assign rfl) ?_
        refine LW.pure rfl rfl (RV.assign rfl) ?_
        refine LW.pure rfl rfl (RV.assign rfl) ?_
        refine LW.nil (hK6 _ _ ?_)
        refine CW.seq fun K7 hK7 => ?_
        obtain ⟨r8, hr8, F⟩ := bnd_some F
        refine CW.region ?_
        refine LW.pure rfl rfl (RV.loadA [.int .i64 a0.layers, .slice A_a0_bounds a0.bounds.length c_a0_bounds] Tk24 rfl (H.blk 1 rfl).cells rfl rfl) ?_
        refine LW.go rfl rfl (OW.call Tc35 rfl (ref03_IsPossible_ok (a0 := a0) (h_a0_bounds.ext R0) hr8) ?_)
        rintro _ w7 ⟨rfl, E6⟩
        refine ⟨_, rfl, ?_⟩
        replace H := H.grow E6
        replace R0 := H.ext
        refine LW.pure rfl rfl (RV.move rfl) ?_
        refine LW.pure rfl rfl (RV.extract rfl rfl) ?_
        refine LW.pure rfl rfl (RV.extract rfl rfl) ?_
        refine LW.pure rfl rfl (RV.assign rfl) ?_
        refine LW.pure rfl rfl (RV.assign rfl) ?_
        refine LW.nil (hK7 _ _ ?_)
        refine CW.seq fun K8 hK8 => ?_
        refine CW.seqJ (fun ρ wl2 => (∃ (t54_1 : Bool), law03_CoreClashes_k1 a0 r1 t54_1 = some res ∧ ρ = [(2, .pointer (some (⟨b1, 0, none⟩))), (4, .bool false), (5, .slice A19_0 r1.1.length c19_0), (6, .bool r1.2.1), (54, .bool t54_1)] ∧ Hp w wl2 [.own A19_0 c19_0 3 1 (List.map encN r1.1), .blk b1 24 [.int .i64 a0.layers, .slice A_a0_bounds a0.bounds.length c_a0_bounds]])) ?_ ?_
        ·
          rintro _ wl2 ⟨t54_1, F, rfl, H⟩
          have R0 := H.ext
          unfold law03_CoreClashes_k1 at F
          by_cases hp3 : t54_1 = true
          ·
            replace F := ite_y hp3 F
            have hq3 : t54_1 = true := hp3
            refine CW.condT rfl hq3 ?_
            refine CW.seq fun K9 hK9 => ?_
            refine CW.region ?_
            refine LW.pure rfl rfl (RV.assign rfl) ?_
            refine LW.nil (hK9 _ _ ?_)
            refine CW.ret ?_
            obtain rfl := Option.some.inj F
            refine ⟨_, (ResOK.one rfl), ?_⟩
            refine ⟨(by first | rfl | simp), R0⟩
          ·
            replace F := ite_n hp3 F
            have hq3 : t54_1 = false := raw_f hp3
            refine CW.condF rfl hq3 ?_
            refine CW.skip (hK8 _ _ ?_)
            refine CW.seq fun K10 hK10 => ?_
            by_cases hp4 : r1.2.1 = true
            ·
              replace F := ite_y hp4 F
              have hq4 : r1.2.1 = true := hp4
              obtain ⟨r2, hr2, F⟩ := bnd_some F
              by_cases hp5 : r2 = 0
              ·
                replace F := ite_y hp5 F
                have hq5 := dec_t hp5
                obtain ⟨r3, hr3, F⟩ := bnd_some F
                refine CW.region ?_
                refine LW.pure rfl rfl (RV.move rfl) ?_
                refine LW.pure rfl rfl (RV.not rfl) ?_
                refine LW.pure rfl rfl (RV.move rfl) ?_
                refine LW.pureYB rfl rfl rfl rfl (not_f hq4) (RV.loadA [.int .i64 a0.layers, .slice A_a0_bounds a0.bounds.length c_a0_bounds] Tk24 rfl (H.blk 1 rfl).cells rfl rfl) ?_
                refine LW.pureYB rfl rfl rfl rfl (not_f hq4) (RV.move rfl) ?_
                refine LW.yesB rfl rfl rfl rfl (not_f hq4) (OW.call Tc41 rfl (ref03_CheckClash_ok (a0 := a0) (a1 := r1.1) (h_a0_bounds.ext R0) (H.own 0 rfl).sl hr2) ?_)
                rintro _ w8 ⟨rfl, E7⟩
                refine ⟨_, rfl, ?_⟩
                replace H := H.grow E7
                replace R0 := H.ext
                refine LW.pureYB rfl rfl rfl rfl (not_f hq4) (RV.eqi rfl rfl) ?_
                refine LW.pure rfl rfl (RV.pickFB rfl (not_f hq4) rfl) ?_
                refine LW.pure rfl rfl (RV.move rfl) ?_
                refine LW.pureYB rfl rfl rfl rfl hq5 (RV.move rfl) ?_
                refine LW.pureYB rfl rfl rfl rfl hq5 (RV.move rfl) ?_
                refine LW.noB rfl rfl rfl rfl (ne_beq (v := true) hq4 rfl) ?_
                refine LW.noB rfl rfl rfl rfl (ne_beq (v := true) hq4 rfl) ?_
                refine LW.noB rfl rfl rfl rfl (ne_beq (v := true) hq4 rfl) ?_
                refine LW.pureYB rfl rfl rfl rfl hq5 (RV.pickTB rfl hq4 rfl) ?_
                refine LW.pure rfl rfl (RV.pickTB rfl hq5 rfl) ?_
                refine LW.pure rfl rfl (RV.move rfl) ?_
                refine LW.yesB rfl rfl rfl rfl rfl (OW.call Tc18 rfl (law03_known_ok hr3) ?_)
                rintro _ w9 ⟨rfl, E8⟩
                refine ⟨_, rfl, ?_⟩
                replace H := H.grow E8
                replace R0 := H.ext
                refine LW.pure rfl rfl (RV.pickTB rfl rfl rfl) ?_
                refine LW.pure rfl rfl (RV.assign rfl) ?_
                refine LW.nil (hK10 _ _ ?_)
                refine CW.ret ?_
                obtain rfl := Option.some.inj F
                refine ⟨_, (ResOK.one rfl), ?_⟩
                refine ⟨(by first | rfl | simp), R0⟩
              ·
                replace F := ite_n hp5 F
                have hq5 := dec_f hp5
                refine CW.region ?_
                refine LW.pure rfl rfl (RV.move rfl) ?_
                refine LW.pure rfl rfl (RV.not rfl) ?_
                refine LW.pure rfl rfl (RV.move rfl) ?_
                refine LW.pureYB rfl rfl rfl rfl (not_f hq4) (RV.loadA [.int .i64 a0.layers, .slice A_a0_bounds a0.bounds.length c_a0_bounds] Tk24 rfl (H.blk 1 rfl).cells rfl rfl) ?_
                refine LW.pureYB rfl rfl rfl rfl (not_f hq4) (RV.move rfl) ?_
                refine LW.yesB rfl rfl rfl rfl (not_f hq4) (OW.call Tc41 rfl (ref03_CheckClash_ok (a0 := a0) (a1 := r1.1) (h_a0_bounds.ext R0) (H.own 0 rfl).sl hr2) ?_)
                rintro _ w10 ⟨rfl, E9⟩
                refine ⟨_, rfl, ?_⟩
                replace H := H.grow E9
                replace R0 := H.ext
                refine LW.pureYB rfl rfl rfl rfl (not_f hq4) (RV.eqi rfl rfl) ?_
                refine LW.pure rfl rfl (RV.pickFB rfl (not_f hq4) rfl) ?_
                refine LW.pure rfl rfl (RV.move rfl) ?_
                refine LW.noB rfl rfl rfl rfl (ne_beq (v := false) hq5 rfl) ?_
                refine LW.noB rfl rfl rfl rfl (ne_beq (v := false) hq5 rfl) ?_
                refine LW.noU rfl rfl rfl rfl ?_
                refine LW.noU rfl rfl rfl rfl ?_
                refine LW.noU rfl rfl rfl rfl ?_
                refine LW.noB rfl rfl rfl rfl (ne_beq (v := false) hq5 rfl) ?_
                refine LW.pure rfl rfl (RV.pickFB rfl hq5 rfl) ?_
                refine LW.pure rfl rfl (RV.move rfl) ?_
                refine LW.noB rfl rfl rfl rfl (ne_beq (v := false) rfl rfl) ?_
                refine LW.pure rfl rfl (RV.pickFB rfl rfl rfl) ?_
                refine LW.pure rfl rfl (RV.assign rfl) ?_
                refine LW.nil (hK10 _ _ ?_)
                refine CW.ret ?_
                obtain rfl := Option.some.inj F
                refine ⟨_, (ResOK.one rfl), ?_⟩
                refine ⟨(by first | rfl | simp), R0⟩
            ·
              replace F := ite_n hp4 F
              have hq4 : r1.2.1 = false := raw_f hp4
              by_cases hp6 : ((r1.1.length : Int)) = 0
              ·
                replace F := ite_y hp6 F
                have hq6 := dec_t hp6
                obtain ⟨r4, hr4, F⟩ := bnd_some F
                refine CW.region ?_
                refine LW.pure rfl rfl (RV.move rfl) ?_
                refine LW.pure rfl rfl (RV.not rfl) ?_
                refine LW.pure rfl rfl (RV.move rfl) ?_
                refine LW.noB rfl rfl rfl rfl (ne_beq (v := true) (not_t hq4) rfl) ?_
                refine LW.noB rfl rfl rfl rfl (ne_beq (v := true) (not_t hq4) rfl) ?_
                refine LW.noB rfl rfl rfl rfl (ne_beq (v := true) (not_t hq4) rfl) ?_
                refine LW.noB rfl rfl rfl rfl (ne_beq (v := true) (not_t hq4) rfl) ?_
                refine LW.pure rfl rfl (RV.pickTB rfl (not_t hq4) rfl) ?_
                refine LW.pure rfl rfl (RV.move rfl) ?_
                refine LW.pureYB rfl rfl rfl rfl rfl (RV.move rfl) ?_
                refine LW.pureYB rfl rfl rfl rfl rfl (RV.move rfl) ?_
                refine LW.pureYB rfl rfl rfl rfl hq4 (RV.move rfl) ?_
                refine LW.pureYB rfl rfl rfl rfl hq4 (RV.len Ts43 rfl) ?_
                refine LW.pureYB rfl rfl rfl rfl hq4 (RV.eqi rfl rfl) ?_
                refine LW.pureYB rfl rfl rfl rfl rfl (RV.pickFB rfl hq4 rfl) ?_
                refine LW.pure rfl rfl (RV.pickTB rfl rfl rfl) ?_
                refine LW.pure rfl rfl (RV.move rfl) ?_
                refine LW.yesB rfl rfl rfl rfl hq6 (OW.call Tc18 rfl (law03_known_ok hr4) ?_)
                rintro _ w11 ⟨rfl, E10⟩
                refine ⟨_, rfl, ?_⟩
                replace H := H.grow E10
                replace R0 := H.ext
                refine LW.pure rfl rfl (RV.pickTB rfl hq6 rfl) ?_
                refine LW.pure rfl rfl (RV.assign rfl) ?_
                refine LW.nil (hK10 _ _ ?_)
                refine CW.ret ?_
                obtain rfl := Option.some.inj F
                refine ⟨_, (ResOK.one rfl), ?_⟩
                refine ⟨(by first | rfl | simp), R0⟩
              ·
                replace F := ite_n hp6 F
                have hq6 := dec_f hp6
                refine CW.region ?_
                refine LW.pure rfl rfl (RV.move rfl) ?_
                refine LW.pure rfl rfl (RV.not rfl) ?_
                refine LW.pure rfl rfl (RV.move rfl) ?_
                refine LW.noB rfl rfl rfl rfl (ne_beq (v := true) (not_t hq4) rfl) ?_
                refine LW.noB rfl rfl rfl rfl (ne_beq (v := true) (not_t hq4) rfl) ?_
                refine LW.noB rfl rfl rfl rfl (ne_beq (v := true) (not_t hq4) rfl) ?_
                refine LW.noB rfl rfl rfl rfl (ne_beq (v := true) (not_t hq4) rfl) ?_
                refine LW.pure rfl rfl (RV.pickTB rfl (not_t hq4) rfl) ?_
                refine LW.pure rfl rfl (RV.move rfl) ?_
                refine LW.pureYB rfl rfl rfl rfl rfl (RV.move rfl) ?_
                refine LW.pureYB rfl rfl rfl rfl rfl (RV.move rfl) ?_
                refine LW.pureYB rfl rfl rfl rfl hq4 (RV.move rfl) ?_
                refine LW.pureYB rfl rfl rfl rfl hq4 (RV.len Ts43 rfl) ?_
                refine LW.pureYB rfl rfl rfl rfl hq4 (RV.eqi rfl rfl) ?_
                refine LW.pureYB rfl rfl rfl rfl rfl (RV.pickFB rfl hq4 rfl) ?_
                refine LW.pure rfl rfl (RV.pickTB rfl rfl rfl) ?_
                refine LW.pure rfl rfl (RV.move rfl) ?_
                refine LW.noB rfl rfl rfl rfl (ne_beq (v := false) hq6 rfl) ?_
                refine LW.pure rfl rfl (RV.pickFB rfl hq6 rfl) ?_
                refine LW.pure rfl rfl (RV.assign rfl) ?_
                refine LW.nil (hK10 _ _ ?_)
                refine CW.ret ?_
                obtain rfl := Option.some.inj F
                refine ⟨_, (ResOK.one rfl), ?_⟩
                refine ⟨(by first | rfl | simp), R0⟩
        ·
          intro K11 hK11 jK24
          by_cases hp7 : r1.2.2 = r8.2
          ·
            replace F := ite_y hp7 F
            have hq7 := dec_t hp7
            by_cases hp8 : r8.2 = 0
            ·
              replace F := ite_y hp8 F
              have hq8 := dec_t hp8
              by_cases hp9 : (r1.2.1 == r8.1) = true
              ·
                replace F := ite_y hp9 F
                have hq9 : (r1.2.1 == r8.1) = true := hp9
                refine CW.region ?_
                refine LW.pure rfl rfl (RV.move rfl) ?_
                refine LW.pure rfl rfl (RV.move rfl) ?_
                refine LW.pure rfl rfl (RV.nei rfl rfl) ?_
                refine LW.pure rfl rfl (RV.move rfl) ?_
                refine LW.pureYB rfl rfl rfl rfl (not_f hq7) (RV.move rfl) ?_
                refine LW.pureYB rfl rfl rfl rfl (not_f hq7) (RV.eqi rfl rfl) ?_
                refine LW.pureYB rfl rfl rfl rfl (not_f hq7) (RV.move rfl) ?_
                refine LW.pureYB rfl rfl rfl rfl hq8 (RV.move rfl) ?_
                refine LW.pureYB rfl rfl rfl rfl hq8 (RV.move rfl) ?_
                refine LW.pureYB rfl rfl rfl rfl hq8 (RV.eqb Tb4 rfl rfl) ?_
                refine LW.pureYB rfl rfl rfl rfl (not_f hq7) (RV.pickTB rfl hq8 rfl) ?_
                refine LW.pure rfl rfl (RV.pickFB rfl (not_f hq7) rfl) ?_
                refine LW.pure rfl rfl (RV.move rfl) ?_
                refine LW.noB rfl rfl rfl rfl (ne_beq (v := true) hq9 rfl) ?_
                refine LW.noB rfl rfl rfl rfl (ne_beq (v := true) hq9 rfl) ?_
                refine LW.noB rfl rfl rfl rfl (ne_beq (v := true) hq9 rfl) ?_
                refine LW.noU rfl rfl rfl rfl ?_
                refine LW.noB rfl rfl rfl rfl (ne_beq (v := true) hq9 rfl) ?_
                refine LW.pure rfl rfl (RV.pickTB rfl hq9 rfl) ?_
                refine LW.nil (jK24 _ _ ⟨_, ?_, ⟨true, F, rfl, H⟩⟩)
                exact ⟨rfl, rfl, (look_slice rfl (by first | rfl | (simp; done) | (simp; omega))), rfl, rfl, trivial⟩
              ·
                replace F := ite_n hp9 F
                have hq9 : (r1.2.1 == r8.1) = false := raw_f hp9
                refine CW.region ?_
                refine LW.pure rfl rfl (RV.move rfl) ?_
                refine LW.pure rfl rfl (RV.move rfl) ?_
                refine LW.pure rfl rfl (RV.nei rfl rfl) ?_
                refine LW.pure rfl rfl (RV.move rfl) ?_
                refine LW.pureYB rfl rfl rfl rfl (not_f hq7) (RV.move rfl) ?_
                refine LW.pureYB rfl rfl rfl rfl (not_f hq7) (RV.eqi rfl rfl) ?_
                refine LW.pureYB rfl rfl rfl rfl (not_f hq7) (RV.move rfl) ?_
                refine LW.pureYB rfl rfl rfl rfl hq8 (RV.move rfl) ?_
                refine LW.pureYB rfl rfl rfl rfl hq8 (RV.move rfl) ?_
                refine LW.pureYB rfl rfl rfl rfl hq8 (RV.eqb Tb4 rfl rfl) ?_
                refine LW.pureYB rfl rfl rfl rfl (not_f hq7) (RV.pickTB rfl hq8 rfl) ?_
                refine LW.pure rfl rfl (RV.pickFB rfl (not_f hq7) rfl) ?_
                refine LW.pure rfl rfl (RV.move rfl) ?_
                refine LW.pureYB rfl rfl rfl rfl hq9 (RV.move rfl) ?_
                refine LW.pureYB rfl rfl rfl rfl hq9 (RV.nei rfl rfl) ?_
                refine LW.pureYB rfl rfl rfl rfl hq9 (RV.move rfl) ?_
                refine LW.noB rfl rfl rfl rfl (ne_beq (v := false) (not_f hq8) rfl) ?_
                refine LW.pureYB rfl rfl rfl rfl hq9 (RV.pickFB rfl (not_f hq8) rfl) ?_
                refine LW.pure rfl rfl (RV.pickFB rfl hq9 rfl) ?_
                refine LW.nil (jK24 _ _ ⟨_, ?_, ⟨false, F, rfl, H⟩⟩)
                exact ⟨rfl, rfl, (look_slice rfl (by first | rfl | (simp; done) | (simp; omega))), rfl, rfl, trivial⟩
            ·
              replace F := ite_n hp8 F
              have hq8 := dec_f hp8
              refine CW.region ?_
              refine LW.pure rfl rfl (RV.move rfl) ?_
              refine LW.pure rfl rfl (RV.move rfl) ?_
              refine LW.pure rfl rfl (RV.nei rfl rfl) ?_
              refine LW.pure rfl rfl (RV.move rfl) ?_
              refine LW.pureYB rfl rfl rfl rfl (not_f hq7) (RV.move rfl) ?_
              refine LW.pureYB rfl rfl rfl rfl (not_f hq7) (RV.eqi rfl rfl) ?_
              refine LW.pureYB rfl rfl rfl rfl (not_f hq7) (RV.move rfl) ?_
              refine LW.noB rfl rfl rfl rfl (ne_beq (v := false) hq8 rfl) ?_
              refine LW.noB rfl rfl rfl rfl (ne_beq (v := false) hq8 rfl) ?_
              refine LW.noB rfl rfl rfl rfl (ne_beq (v := false) hq8 rfl) ?_
              refine LW.pureYB rfl rfl rfl rfl (not_f hq7) (RV.pickFB rfl hq8 rfl) ?_
              refine LW.pure rfl rfl (RV.pickFB rfl (not_f hq7) rfl) ?_
              refine LW.pure rfl rfl (RV.move rfl) ?_
              refine LW.pureYB rfl rfl rfl rfl rfl (RV.move rfl) ?_
              refine LW.pureYB rfl rfl rfl rfl rfl (RV.nei rfl rfl) ?_
              refine LW.pureYB rfl rfl rfl rfl rfl (RV.move rfl) ?_
              refine LW.pureYB rfl rfl rfl rfl (not_t hq8) (RV.move rfl) ?_
              refine LW.pureYB rfl rfl rfl rfl rfl (RV.pickTB rfl (not_t hq8) rfl) ?_
              refine LW.pure rfl rfl (RV.pickFB rfl rfl rfl) ?_
              refine LW.nil (jK24 _ _ ⟨_, ?_, ⟨r1.2.1, F, rfl, H⟩⟩)
              exact ⟨rfl, rfl, (look_slice rfl (by first | rfl | (simp; done) | (simp; omega))), rfl, rfl, trivial⟩
          ·
            replace F := ite_n hp7 F
            have hq7 := dec_f hp7
            refine CW.region ?_
            refine LW.pure rfl rfl (RV.move rfl) ?_
            refine LW.pure rfl rfl (RV.move rfl) ?_
            refine LW.pure rfl rfl (RV.nei rfl rfl) ?_
            refine LW.pure rfl rfl (RV.move rfl) ?_
            refine LW.noB rfl rfl rfl rfl (ne_beq (v := true) (not_t hq7) rfl) ?_
            refine LW.noB rfl rfl rfl rfl (ne_beq (v := true) (not_t hq7) rfl) ?_
            refine LW.noB rfl rfl rfl rfl (ne_beq (v := true) (not_t hq7) rfl) ?_
            refine LW.noU rfl rfl rfl rfl ?_
            refine LW.noU rfl rfl rfl rfl ?_
            refine LW.noU rfl rfl rfl rfl ?_
            refine LW.noB rfl rfl rfl rfl (ne_beq (v := true) (not_t hq7) rfl) ?_
            refine LW.pure rfl rfl (RV.pickTB rfl (not_t hq7) rfl) ?_
            refine LW.pure rfl rfl (RV.move rfl) ?_
            refine LW.noB rfl rfl rfl rfl (ne_beq (v := true) rfl rfl) ?_
            refine LW.noB rfl rfl rfl rfl (ne_beq (v := true) rfl rfl) ?_
            refine LW.noB rfl rfl rfl rfl (ne_beq (v := true) rfl rfl) ?_
            refine LW.noU rfl rfl rfl rfl ?_
            refine LW.noB rfl rfl rfl rfl (ne_beq (v := true) rfl rfl) ?_
            refine LW.pure rfl rfl (RV.pickTB rfl rfl rfl) ?_
            refine LW.nil (jK24 _ _ ⟨_, ?_, ⟨true, F, rfl, H⟩⟩)
            exact ⟨rfl, rfl, (look_slice rfl (by first | rfl | (simp; done) | (simp; omega))), rfl, rfl, trivial⟩
      ·
        replace F := ite_n hp2 F
        have hq2 := dec_f hp2
        refine CW.condT rfl (not_t hq2) ?_
        refine CW.seq fun K12 hK12 => ?_
        refine CW.region ?_
        refine LW.pure rfl rfl (RV.assign rfl) ?_
        refine LW.nil (hK12 _ _ ?_)
        refine CW.ret ?_
        obtain rfl := Option.some.inj F
        refine ⟨_, (ResOK.one rfl), ?_⟩
        refine ⟨(by first | rfl | simp), R0⟩
  ·
    intro K13 hK13 jK26
    obtain ⟨r9, hr9, F⟩ := bnd_some F
    by_cases hp10 : r9 = true
    ·
      replace F := ite_y hp10 F
      have hq10 : r9 = true := hp10
      refine CW.region ?_
      refine LW.pure rfl rfl (RV.loadA [.int .i64 a0.layers, .slice A_a0_bounds a0.bounds.length c_a0_bounds] Tk24 rfl (H.blk 0 rfl).cells rfl rfl) ?_
      refine LW.go rfl rfl (OW.call Tc17 rfl (law03_Long_ok (a0 := a0) (h_a0_bounds.ext R0) hr9) ?_)
      rintro _ w12 ⟨rfl, E11⟩
      refine ⟨_, rfl, ?_⟩
      replace H := H.grow E11
      replace R0 := H.ext
      refine LW.pure rfl rfl (RV.move rfl) ?_
      refine LW.noB rfl rfl rfl rfl (ne_beq (v := true) hq10 rfl) ?_
      refine LW.noB rfl rfl rfl rfl (ne_beq (v := true) hq10 rfl) ?_
      refine LW.noB rfl rfl rfl rfl (ne_beq (v := true) hq10 rfl) ?_
      refine LW.pure rfl rfl (RV.pickTB rfl hq10 rfl) ?_
      refine LW.nil (jK26 _ _ ⟨_, ?_, ⟨true, F, rfl, H⟩⟩)
      exact ⟨rfl, rfl, rfl, rfl, trivial⟩
    ·
      replace F := ite_n hp10 F
      have hq10 : r9 = false := raw_f hp10
      refine CW.region ?_
      refine LW.pure rfl rfl (RV.loadA [.int .i64 a0.layers, .slice A_a0_bounds a0.bounds.length c_a0_bounds] Tk24 rfl (H.blk 0 rfl).cells rfl rfl) ?_
      refine LW.go rfl rfl (OW.call Tc17 rfl (law03_Long_ok (a0 := a0) (h_a0_bounds.ext R0) hr9) ?_)
      rintro _ w13 ⟨rfl, E12⟩
      refine ⟨_, rfl, ?_⟩
      replace H := H.grow E12
      replace R0 := H.ext
      refine LW.pure rfl rfl (RV.move rfl) ?_
      refine LW.pureYB rfl rfl rfl rfl hq10 (RV.move rfl) ?_
      refine LW.pureYB rfl rfl rfl rfl hq10 (RV.len Ts43 rfl) ?_
      refine LW.pureYB rfl rfl rfl rfl hq10 (RV.gtr rfl rfl) ?_
      refine LW.pure rfl rfl (RV.pickFB rfl hq10 rfl) ?_
      refine LW.nil (jK26 _ _ ⟨_, ?_, ⟨(decide ((100 : Int) < ((a1.length : Int)))), F, rfl, H⟩⟩)
      exact ⟨rfl, rfl, rfl, rfl, trivial⟩

end Go.D3

set_option linter.unusedVariables false
namespace Go.D3
open Go.Tb Go.Core




def core_Turn_k1 (a0 : Core) (l1 : List Bound) : Option (Core × Int) :=
  some ((⟨a0.layers, l1⟩ : Core), (0 : Int))
def core_Turn_B1 (a0 : Core) (rec1 : Int → (List Bound) → Option (Core × Int)) (t20_1 : Int) (l2 : List Bound) : Option (Core × Int) :=
  if t20_1 < ((a0.bounds.length : Int)) then
    ix a0.bounds t20_1 fun x1 =>
    gd (l2.length + (([(⟨x1.b, x1.a, x1.most⟩ : Bound)] : List Bound)).length ≤ 1000000) <|
    gd (InR (t20_1 + 1)) <|
    rec1 ((t20_1 + 1)) (((l2 ++ ([(⟨x1.b, x1.a, x1.most⟩ : Bound)] : List Bound))))
  else
    core_Turn_k1 a0 l2
def core_Turn_L1 (a0 : Core) : Nat → Int → (List Bound) → Option (Core × Int)
  | 0, _, _ => none
  | n_ + 1, t20_1, l2 => core_Turn_B1 a0 (core_Turn_L1 a0 n_) t20_1 l2
theorem core_Turn_L1_s {a0 : Core} {m_ : Nat} {t20_1 : Int} {l2 : List Bound} {res : Core × Int} (h : core_Turn_L1 a0 m_ t20_1 l2 = some res) : ∃ k, m_ = k + 1 ∧ core_Turn_B1 a0 (core_Turn_L1 a0 k) t20_1 l2 = some res := by
  cases m_ with
  | zero => cases h
  | succ k => exact ⟨k, rfl, h⟩
def core_Turn (a0 : Core) : Option (Core × Int) :=
  bnd (core_Validate a0) fun r1 =>
  if r1 = 0 then
    core_Turn_L1 a0 FU (((0 : Int))) ((([] : List Bound)))
  else
    some ((⟨0, []⟩ : Core), r1)
def ref03_Copy (a0 : Core) : Option Core :=
  gd ((([] : List Bound)).length + a0.bounds.length ≤ 1000000) <|
  some ((⟨a0.layers, (([] : List Bound) ++ a0.bounds)⟩ : Core))
def ref03_Turn_k1 (r1 : Core) (l1 : List Bound) : Option (Core × Int) :=
  some ((⟨r1.layers, l1⟩ : Core), (0 : Int))
def ref03_Turn_B1 (a0 : Core) (r1 : Core) (rec1 : Int → (List Bound) → Option (Core × Int)) (t6_1 : Int) (l2 : List Bound) : Option (Core × Int) :=
  if t6_1 < ((l2.length : Int)) then
    ix a0.bounds t6_1 fun x1 =>
    ix a0.bounds t6_1 fun x2 =>
    ix l2 t6_1 fun x3 =>
    ix ((l2.set (Int.toNat t6_1) ((⟨x1.b, x3.b, x3.most⟩ : Bound)))) t6_1 fun x4 =>
    gd (InR (t6_1 + 1)) <|
    rec1 ((t6_1 + 1)) (((((l2.set (Int.toNat t6_1) ((⟨x1.b, x3.b, x3.most⟩ : Bound)))).set (Int.toNat t6_1) ((⟨x4.a, x2.a, x4.most⟩ : Bound)))))
  else
    ref03_Turn_k1 r1 l2
def ref03_Turn_L1 (a0 : Core) (r1 : Core) : Nat → Int → (List Bound) → Option (Core × Int)
  | 0, _, _ => none
  | n_ + 1, t6_1, l2 => ref03_Turn_B1 a0 r1 (ref03_Turn_L1 a0 r1 n_) t6_1 l2
theorem ref03_Turn_L1_s {a0 : Core} {r1 : Core} {m_ : Nat} {t6_1 : Int} {l2 : List Bound} {res : Core × Int} (h : ref03_Turn_L1 a0 r1 m_ t6_1 l2 = some res) : ∃ k, m_ = k + 1 ∧ ref03_Turn_B1 a0 r1 (ref03_Turn_L1 a0 r1 k) t6_1 l2 = some res := by
  cases m_ with
  | zero => cases h
  | succ k => exact ⟨k, rfl, h⟩
def ref03_Turn (a0 : Core) : Option (Core × Int) :=
  bnd (ref03_Validate a0) fun r2 =>
  if r2 = 0 then
    bnd (ref03_Copy a0) fun r1 =>
    ref03_Turn_L1 a0 r1 FU (((0 : Int))) r1.bounds
  else
    some ((⟨0, []⟩ : Core), r2)
def ref03_SameBounds_k1 : Option Bool :=
  some true
def ref03_SameBounds_B1 (a0 : List Bound) (a1 : List Bound) (rec1 : Int → Option Bool) (t5_1 : Int) : Option Bool :=
  if t5_1 < ((a0.length : Int)) then
    ix a0 t5_1 fun x1 =>
    ix a1 t5_1 fun x2 =>
    if ((x1.a == x2.a) && (x1.b == x2.b) && (x1.most == x2.most)) = true then
      gd (InR (t5_1 + 1)) <|
      rec1 ((t5_1 + 1))
    else
      some false
  else
    ref03_SameBounds_k1
def ref03_SameBounds_L1 (a0 : List Bound) (a1 : List Bound) : Nat → Int → Option Bool
  | 0, _ => none
  | n_ + 1, t5_1 => ref03_SameBounds_B1 a0 a1 (ref03_SameBounds_L1 a0 a1 n_) t5_1
theorem ref03_SameBounds_L1_s {a0 : List Bound} {a1 : List Bound} {m_ : Nat} {t5_1 : Int} {res : Bool} (h : ref03_SameBounds_L1 a0 a1 m_ t5_1 = some res) : ∃ k, m_ = k + 1 ∧ ref03_SameBounds_B1 a0 a1 (ref03_SameBounds_L1 a0 a1 k) t5_1 = some res := by
  cases m_ with
  | zero => cases h
  | succ k => exact ⟨k, rfl, h⟩
def ref03_SameBounds (a0 : List Bound) (a1 : List Bound) : Option Bool :=
  if ((a0.length : Int)) = ((a1.length : Int)) then
    ref03_SameBounds_L1 a0 a1 FU (((0 : Int)))
  else
    some false
def ref03_Equal (a0 : Core) (a1 : Core) : Option Bool :=
  if a0.layers = a1.layers then
    bnd (ref03_SameBounds a0.bounds a1.bounds) fun r1 =>
    some r1
  else
    some false
def law03_CoreTurns_k1 (a0 : Core) (r1 : Core × Int) (r2 : Int) (l1 : List Int) : Option Bool :=
  bnd (core_Turn r1.1) fun r3 =>
  bnd (core_CheckDates r1.1 l1) fun r4 =>
  if r4 = r2 then
    if r3.2 = 0 then
      bnd (ref03_Equal r3.1 a0) fun r5 =>
      if r5 = true then
        bnd (law03_known) fun r6 =>
        some r6
      else
        some false
    else
      some false
  else
    some false
def law03_CoreTurns_B1 (a0 : Core) (a1 : List Int) (r1 : Core × Int) (r2 : Int) (rec1 : Int → (List Int) → Option Bool) (t11_1 : Int) (l2 : List Int) : Option Bool :=
  if t11_1 < ((a1.length : Int)) then
    ix a1 t11_1 fun x1 =>
    gd (InR (-x1)) <|
    gd (l2.length + (([-x1] : List Int)).length ≤ 1000000) <|
    gd (InR (t11_1 + 1)) <|
    rec1 ((t11_1 + 1)) (((l2 ++ ([-x1] : List Int))))
  else
    law03_CoreTurns_k1 a0 r1 r2 l2
def law03_CoreTurns_L1 (a0 : Core) (a1 : List Int) (r1 : Core × Int) (r2 : Int) : Nat → Int → (List Int) → Option Bool
  | 0, _, _ => none
  | n_ + 1, t11_1, l2 => law03_CoreTurns_B1 a0 a1 r1 r2 (law03_CoreTurns_L1 a0 a1 r1 r2 n_) t11_1 l2
theorem law03_CoreTurns_L1_s {a0 : Core} {a1 : List Int} {r1 : Core × Int} {r2 : Int} {m_ : Nat} {t11_1 : Int} {l2 : List Int} {res : Bool} (h : law03_CoreTurns_L1 a0 a1 r1 r2 m_ t11_1 l2 = some res) : ∃ k, m_ = k + 1 ∧ law03_CoreTurns_B1 a0 a1 r1 r2 (law03_CoreTurns_L1 a0 a1 r1 r2 k) t11_1 l2 = some res := by
  cases m_ with
  | zero => cases h
  | succ k => exact ⟨k, rfl, h⟩
def law03_CoreTurns_k2 (a0 : Core) (a1 : List Int) (r1 : Core × Int) (r2 : Int) (t52_1 : Bool) : Option Bool :=
  if t52_1 = true then
    bnd (law03_known) fun r7 =>
    some r7
  else
    law03_CoreTurns_L1 a0 a1 r1 r2 FU (((0 : Int))) ((([] : List Int)))
def law03_CoreTurns_k3 (a0 : Core) (a1 : List Int) (r1 : Core × Int) (t40_1 : Bool) : Option Bool :=
  if t40_1 = true then
    some false
  else
    if r1.2 = 0 then
      bnd (core_CheckDates a0 a1) fun r2 =>
      if r2 = 0 then
        law03_CoreTurns_k2 a0 a1 r1 r2 false
      else
        law03_CoreTurns_k2 a0 a1 r1 r2 ((!(decide (r2 = 7))))
    else
      bnd (law03_known) fun r8 =>
      some r8
def law03_CoreTurns_k4 (a0 : Core) (a1 : List Int) (t20_1 : Bool) : Option Bool :=
  if t20_1 = true then
    bnd (law03_known) fun r9 =>
    some r9
  else
    bnd (core_Turn a0) fun r1 =>
    bnd (ref03_Turn a0) fun r10 =>
    bnd (ref03_Equal r1.1 r10.1) fun r11 =>
    if r11 = true then
      law03_CoreTurns_k3 a0 a1 r1 ((!(decide (r1.2 = r10.2))))
    else
      law03_CoreTurns_k3 a0 a1 r1 true
def law03_CoreTurns (a0 : Core) (a1 : List Int) : Option Bool :=
  bnd (law03_Long a0) fun r12 =>
  if r12 = true then
    law03_CoreTurns_k4 a0 a1 true
  else
    law03_CoreTurns_k4 a0 a1 ((decide ((100 : Int) < ((a1.length : Int)))))
end Go.D3

set_option linter.unusedVariables false
set_option linter.unusedSimpArgs false
namespace Go.D3
open Go.Tb Go.Proofs Go.RowKit Go.Core

theorem Tc30 : callable Try.prog 30 = true := by kernel_rfl
theorem Tc31 : callable Try.prog 31 = true := by kernel_rfl
theorem Tc32 : callable Try.prog 32 = true := by kernel_rfl
theorem Tc52 : callable Try.prog 52 = true := by kernel_rfl
theorem Tc55 : callable Try.prog 55 = true := by kernel_rfl
theorem Te26g : Try.prog.eqGuardType Try.prog.depth 26 = false := by kernel_rfl
theorem Te26 (a0 : Int) (a1 : Int) (a2 : Int) (b0 : Int) (b1 : Int) (b2 : Int) (w : World) : (Op.equalIn 10000 26 (.agg #[.int .i64 a0, .int .i64 a1, .int .i64 a2]) (.agg #[.int .i64 b0, .int .i64 b1, .int .i64 b2])).run Try.prog w = .ok ((a0 == b0) && (a1 == b1) && (a2 == b2)) w := by
  rw [run_equalIn_agg w 9999 26 _ _ (by kernel_rfl) (by kernel_rfl)]
  simp [Program.fieldsOf, Try.underlying26, Op.eqFields, go_sem]
  by_cases h0 : a0 = b0 <;> by_cases h1 : a1 = b1 <;> by_cases h2 : a2 = b2 <;> simp [h0, h1, h2]

set_option maxRecDepth 20000 in
set_option maxHeartbeats 1000000 in
theorem core_Turn_ok {a0 : Core} {A_a0_bounds : Option Addr} {c_a0_bounds : Nat} {w : World} {res : Core × Int} (h_a0_bounds : Sl w A_a0_bounds c_a0_bounds 3 (a0.bounds.map encBound)) (F : core_Turn a0 = some res) : Calls Try.prog 30 #[.agg #[.int .i64 a0.layers, .slice A_a0_bounds a0.bounds.length c_a0_bounds]] w (fun e w' => ∃ (A0_bounds : Option Addr) (c0_bounds : Nat), e = .returned (.tuple #[.agg #[.int .i64 res.1.layers, .slice A0_bounds res.1.bounds.length c0_bounds], .int .i64 res.2]) ∧ Hp w w' [.own A0_bounds c0_bounds 26 3 (List.map encBound res.1.bounds)]) := by
  refine calls_of_cw (args := [.agg #[.int .i64 a0.layers, .slice A_a0_bounds a0.bounds.length c_a0_bounds]]) Try.func30 rfl rfl rfl rfl ?_
  have H := Hp.start w
  have R0 := H.ext
  unfold core_Turn at F
  refine CW.seq fun K1 hK1 => ?_
  refine CW.region ?_
  refine LW.go rfl rfl (OW.box rfl fun b1 w1 N1 => ?_)
  replace H := H.new N1 N1.blk
  replace R0 := H.ext
  refine LW.go rfl rfl (OW.alloc Tz24 fun b2 w2 N2 => ?_)
  replace H := H.new N2 N2.blk
  replace R0 := H.ext
  refine LW.pure rfl rfl (RV.assign rfl) ?_
  refine LW.nil (hK1 _ _ ?_)
  refine CW.seq fun K2 hK2 => ?_
  refine CW.seq fun K3 hK3 => ?_
  obtain ⟨r1, hr1, F⟩ := bnd_some F
  refine CW.region ?_
  refine LW.pure rfl rfl (RV.loadA [.int .i64 a0.layers, .slice A_a0_bounds a0.bounds.length c_a0_bounds] Tk24 rfl (H.blk 1 rfl).cells rfl rfl) ?_
  refine LW.go rfl rfl (OW.call Tc36 rfl (core_Validate_ok (a0 := a0) (h_a0_bounds.ext R0) hr1) ?_)
  rintro _ w3 ⟨rfl, E1⟩
  refine ⟨_, rfl, ?_⟩
  replace H := H.grow E1
  replace R0 := H.ext
  refine LW.pure rfl rfl (RV.assign rfl) ?_
  refine LW.nil (hK3 _ _ ?_)
  refine CW.seq fun K4 hK4 => ?_
  refine CW.region ?_
  refine LW.pure rfl rfl (RV.move rfl) ?_
  refine LW.pure rfl rfl (RV.nei rfl rfl) ?_
  refine LW.nil (hK4 _ _ ?_)
  by_cases hp1 : r1 = 0
  ·
    replace F := ite_y hp1 F
    have hq1 := dec_t hp1
    refine CW.condF rfl (not_f hq1) ?_
    refine CW.skip (hK2 _ _ ?_)
    refine CW.seq fun K5 hK5 => ?_
    refine CW.region ?_
    refine LW.pure rfl rfl (RV.fieldAddr Tf24_0 rfl) ?_
    refine LW.pure rfl rfl (RV.load1 Tk3 rfl ((H.blk 1 rfl).cells.off 0) rfl) ?_
    refine LW.pure rfl rfl (RV.build (vs := [.int .i64 a0.layers]) (cs := [.int .i64 a0.layers, .slice none 0 0]) rfl (fun _ => by kernel_rfl)) ?_
    refine LW.go rfl rfl (OW.alloc Tz24 fun b3 w4 N3 => ?_)
    replace H := H.new N3 N3.blk
    replace R0 := H.ext
    refine LW.go rfl rfl (OW.store Tk24 rfl rfl (H.blk 0 rfl) (off := 0) (vs := [.int .i64 a0.layers, .slice none 0 0]) rfl rfl rfl rfl rfl fun w5 S1 => ?_)
    replace H : Hp w w5 [.blk b3 24 [.int .i64 a0.layers, .slice none 0 0], .blk b2 24 [.int .i64 0, .slice none 0 0], .blk b1 24 [.int .i64 a0.layers, .slice A_a0_bounds a0.bounds.length c_a0_bounds]] := H.stored 0 rfl S1
    replace R0 := H.ext
    refine LW.nil (hK5 _ _ ?_)
    refine CW.seqJ (fun ρ wl1 => (∃ (l1 : List Bound) (Al1 : Option Addr) (cl1 : Nat), core_Turn_k1 a0 l1 = some res ∧ ρ = [(2, .pointer (some (⟨b2, 0, none⟩))), (3, .int .i64 0), (5, .pointer (some (⟨b3, 0, none⟩)))] ∧ Hp w wl1 [.own Al1 cl1 26 3 (List.map encBound l1), .blk b2 24 [.int .i64 0, .slice none 0 0], .blk b3 24 [.int .i64 a0.layers, .slice Al1 l1.length cl1]])) ?_ ?_
    ·
      rintro _ wl1 ⟨l1, Al1, cl1, F, rfl, H⟩
      have R0 := H.ext
      unfold core_Turn_k1 at F
      refine CW.seq fun K6 hK6 => ?_
      refine CW.region ?_
      refine LW.pure rfl rfl (RV.loadA [.int .i64 a0.layers, .slice Al1 l1.length cl1] Tk24 rfl (H.blk 2 rfl).cells rfl rfl) ?_
      refine LW.go rfl rfl (OW.store Tk24 rfl rfl (H.blk 1 rfl) (off := 0) (vs := [.int .i64 a0.layers, .slice Al1 l1.length cl1]) rfl rfl rfl rfl rfl fun w6 S2 => ?_)
      replace H : Hp w w6 [.own Al1 cl1 26 3 (List.map encBound l1), .blk b2 24 [.int .i64 a0.layers, .slice Al1 l1.length cl1], .blk b3 24 [.int .i64 a0.layers, .slice Al1 l1.length cl1]] := H.stored 1 rfl S2
      replace R0 := H.ext
      refine LW.pure rfl rfl (RV.assign rfl) ?_
      refine LW.nil (hK6 _ _ ?_)
      refine CW.ret ?_
      obtain rfl := Option.some.inj F
      refine ⟨_, (ResOK.two ⟨_, rfl, run_loadVar_agg Tk24 (H.blk 1 rfl).cells (us := [.int .i64 a0.layers, .slice Al1 l1.length cl1]) rfl rfl⟩ rfl), ?_⟩
      replace H := H.pick (L' := [.own Al1 cl1 26 3 (List.map encBound l1)]) [0] (by decide) rfl
      replace R0 := H.ext
      exact ⟨Al1, cl1, (by first | rfl | (simp; done) | (simp; omega)), H⟩
    ·
      intro K7 hK7 jK54
      refine CW.seq fun K8 hK8 => ?_
      refine CW.region ?_
      refine LW.pure rfl rfl (RV.fieldAddr Tf24_1 rfl) ?_
      refine LW.pure rfl rfl (RV.load1 Tk22 rfl ((H.blk 2 rfl).cells.off 1) rfl) ?_
      refine LW.pure rfl rfl (RV.len Ts22 rfl) ?_
      refine LW.pure rfl rfl (RV.move rfl) ?_
      refine LW.nil (hK8 _ _ ?_)
      refine CW.block ?_
      replace H := H.nilOwn 26 3
      replace R0 := H.ext
      replace H := H.pick (L' := [.own none 0 26 3 (List.map encBound (([] : List Bound))), .blk b2 24 [.int .i64 0, .slice none 0 0], .blk b3 24 [.int .i64 a0.layers, .slice none 0 0]]) [0, 2, 1] (by decide) rfl
      replace R0 := H.ext
      replace H := H.cast (L' := [.own none 0 26 3 (List.map encBound (([] : List Bound))), .blk b2 24 [.int .i64 0, .slice none 0 0], .blk b3 24 [.int .i64 a0.layers, .slice none ((([] : List Bound)).length) 0]]) (by first | rfl | (simp only [List.length_set]; done) | simp)
      refine CW.loop (fun meas ρ wl2 => ∃ (t20_1 : Int) (l2 : List Bound) (Al2 : Option Addr) (cl2 : Nat), core_Turn_L1 a0 meas t20_1 l2 = some res ∧ ρ = [(2, .pointer (some (⟨b2, 0, none⟩))), (3, .int .i64 0), (5, .pointer (some (⟨b3, 0, none⟩))), (18, .slice A_a0_bounds a0.bounds.length c_a0_bounds), (19, .int .i64 ((a0.bounds.length : Int))), (20, .int .i64 t20_1)] ∧ Hp w wl2 [.own Al2 cl2 26 3 (List.map encBound l2), .blk b2 24 [.int .i64 0, .slice none 0 0], .blk b3 24 [.int .i64 a0.layers, .slice Al2 l2.length cl2]]) FU ⟨_, ?_, ((0 : Int)), (([] : List Bound)), none, 0, F, rfl, H⟩ ?_
      · exact ⟨rfl, rfl, rfl, rfl, rfl, rfl, trivial⟩
      rintro mk1 _ wl2 ⟨t20_1, l2, Al2, cl2, F, rfl, H⟩
      have R0 := H.ext
      replace F := core_Turn_L1_s F
      obtain ⟨mk1, rfl, F⟩ := F
      generalize hrec1 : core_Turn_L1 a0 mk1 = rec1 at F
      unfold core_Turn_B1 at F
      refine CW.seq fun K9 hK9 => ?_
      refine CW.region ?_
      refine LW.pure rfl rfl (RV.lss rfl rfl) ?_
      refine LW.nil (hK9 _ _ ?_)
      refine CW.seq fun K10 hK10 => ?_
      by_cases hp2 : t20_1 < ((a0.bounds.length : Int))
      ·
        replace F := ite_y hp2 F
        have hq2 := dec_t hp2
        refine CW.condT rfl hq2 ?_
        refine CW.skip (hK10 _ _ ?_)
        refine CW.seq fun K11 hK11 => ?_
        refine CW.block ?_
        refine CW.seq fun K12 hK12 => ?_
        obtain ⟨x1, hbx1, hx1, F⟩ := ix_some F
        refine CW.region ?_
        refine LW.pure rfl rfl (RV.indexAddr Ts22 rfl rfl hbx1 (h_a0_bounds.addr_ hx1)) ?_
        refine LW.pure rfl rfl (RV.loadA [.int .i64 x1.a, .int .i64 x1.b, .int .i64 x1.most] Tk26 rfl ((h_a0_bounds.at_ hx1).ext R0) rfl rfl) ?_
        refine LW.go rfl rfl (OW.alloc Tz26 fun b4 w7 N4 => ?_)
        replace H := H.new N4 N4.blk
        replace R0 := H.ext
        refine LW.go rfl rfl (OW.store Tk26 rfl rfl (H.blk 0 rfl) (off := 0) (vs := [.int .i64 x1.a, .int .i64 x1.b, .int .i64 x1.most]) rfl rfl rfl rfl rfl fun w8 S3 => ?_)
        replace H : Hp w w8 [.blk b4 26 [.int .i64 x1.a, .int .i64 x1.b, .int .i64 x1.most], .own Al2 cl2 26 3 (List.map encBound l2), .blk b2 24 [.int .i64 0, .slice none 0 0], .blk b3 24 [.int .i64 a0.layers, .slice Al2 l2.length cl2]] := H.stored 0 rfl S3
        replace R0 := H.ext
        refine LW.nil (hK12 _ _ ?_)
        obtain ⟨hg1, F⟩ := gd_some F
        refine CW.region ?_
        refine LW.pure rfl rfl (RV.fieldAddr Tf24_1 rfl) ?_
        refine LW.pure rfl rfl (RV.load1 Tk22 rfl ((H.blk 3 rfl).cells.off 1) rfl) ?_
        refine LW.pure rfl rfl (RV.fieldAddr Tf26_1 rfl) ?_
        refine LW.pure rfl rfl (RV.load1 Tk3 rfl ((H.blk 0 rfl).cells.off 1) rfl) ?_
        refine LW.pure rfl rfl (RV.fieldAddr Tf26_0 rfl) ?_
        refine LW.pure rfl rfl (RV.load1 Tk3 rfl ((H.blk 0 rfl).cells.off 0) rfl) ?_
        refine LW.pure rfl rfl (RV.fieldAddr Tf26_2 rfl) ?_
        refine LW.pure rfl rfl (RV.load1 Tk3 rfl ((H.blk 0 rfl).cells.off 2) rfl) ?_
        refine LW.pure rfl rfl (RV.build (vs := [.int .i64 x1.b, .int .i64 x1.a, .int .i64 x1.most]) (cs := [.int .i64 x1.b, .int .i64 x1.a, .int .i64 x1.most]) rfl (fun _ => by kernel_rfl)) ?_
        refine LW.go rfl rfl (OW.buildSlice (e := 26) (vs := [.agg #[.int .i64 x1.b, .int .i64 x1.a, .int .i64 x1.most]]) (cs := [.int .i64 x1.b, .int .i64 x1.a, .int .i64 x1.most]) rfl (fun _ => by kernel_rfl) fun b5 w9 N5 => ?_)
        replace H := H.made' (k := 3) (t := 26) (enc := encBound) (l := ([(⟨x1.b, x1.a, x1.most⟩ : Bound)] : List Bound)) N5 N5.blk (fun _ => rfl) rfl (by first | decide | omega | (simp; done) | (simp; omega))
        replace R0 := H.ext
        refine LW.go rfl rfl (OW.appendG (enc := encBound) (l := l2) (xs := ([(⟨x1.b, x1.a, x1.most⟩ : Bound)] : List Bound)) Ts22 rfl (look_slice rfl (by first | rfl | (simp; done) | (simp; omega))) (H.own 2 rfl) (H.own 0 rfl).sl (fun _ => rfl) rfl rfl hg1 (by decide) fun A1 c1 w10 O1 M1 D1 => ?_)
        replace H : Hp w w10 [.own (some ⟨b5, 0, none⟩) ((([(⟨x1.b, x1.a, x1.most⟩ : Bound)] : List Bound)).length) 26 3 (List.map encBound (([(⟨x1.b, x1.a, x1.most⟩ : Bound)] : List Bound))), .blk b4 26 [.int .i64 x1.a, .int .i64 x1.b, .int .i64 x1.most], .own A1 c1 26 3 (List.map encBound ((l2 ++ ([(⟨x1.b, x1.a, x1.most⟩ : Bound)] : List Bound)))), .blk b2 24 [.int .i64 0, .slice none 0 0], .blk b3 24 [.int .i64 a0.layers, .slice Al2 l2.length cl2]] := H.mod 2 rfl M1 O1 D1
        replace R0 := H.ext
        refine LW.pure rfl rfl (RV.fieldAddr Tf24_1 rfl) ?_
        refine LW.go rfl rfl (OW.store Tk22 rfl rfl (H.blk 4 rfl) (off := 1) (vs := [.slice A1 (((l2 ++ ([(⟨x1.b, x1.a, x1.most⟩ : Bound)] : List Bound))).length) c1]) rfl rfl rfl rfl rfl fun w11 S4 => ?_)
        replace H : Hp w w11 [.own (some ⟨b5, 0, none⟩) ((([(⟨x1.b, x1.a, x1.most⟩ : Bound)] : List Bound)).length) 26 3 (List.map encBound (([(⟨x1.b, x1.a, x1.most⟩ : Bound)] : List Bound))), .blk b4 26 [.int .i64 x1.a, .int .i64 x1.b, .int .i64 x1.most], .own A1 c1 26 3 (List.map encBound ((l2 ++ ([(⟨x1.b, x1.a, x1.most⟩ : Bound)] : List Bound)))), .blk b2 24 [.int .i64 0, .slice none 0 0], .blk b3 24 [.int .i64 a0.layers, .slice A1 (((l2 ++ ([(⟨x1.b, x1.a, x1.most⟩ : Bound)] : List Bound))).length) c1]] := H.stored 4 rfl S4
        replace R0 := H.ext
        refine LW.nil (hK11 _ _ ?_)
        obtain ⟨hg2, F⟩ := gd_some F
        refine CW.region ?_
        refine LW.pure rfl rfl (RV.add rfl rfl hg2) ?_
        refine LW.pure rfl rfl (RV.move rfl) ?_
        refine LW.nil ?_
        replace H := H.pick (L' := [.own A1 c1 26 3 (List.map encBound ((l2 ++ ([(⟨x1.b, x1.a, x1.most⟩ : Bound)] : List Bound)))), .blk b2 24 [.int .i64 0, .slice none 0 0], .blk b3 24 [.int .i64 a0.layers, .slice A1 (((l2 ++ ([(⟨x1.b, x1.a, x1.most⟩ : Bound)] : List Bound))).length) c1]]) [2, 3, 4] (by decide) rfl
        replace R0 := H.ext
        subst hrec1
        refine ⟨mk1, Nat.lt_succ_self _, _, ?_, (t20_1 + 1), ((l2 ++ ([(⟨x1.b, x1.a, x1.most⟩ : Bound)] : List Bound))), A1, c1, F, rfl, H⟩
        exact ⟨rfl, rfl, rfl, rfl, rfl, rfl, trivial⟩
      ·
        replace F := ite_n hp2 F
        have hq2 := dec_f hp2
        refine CW.condF rfl hq2 ?_
        refine CW.exit (jK54 _ _ ⟨_, ?_, ⟨l2, Al2, cl2, F, rfl, H⟩⟩)
        exact ⟨rfl, rfl, rfl, trivial⟩
  ·
    replace F := ite_n hp1 F
    have hq1 := dec_f hp1
    refine CW.condT rfl (not_t hq1) ?_
    refine CW.seq fun K13 hK13 => ?_
    refine CW.region ?_
    refine LW.pure rfl rfl (RV.build (vs := []) (cs := [.int .i64 0, .slice none 0 0]) rfl (fun _ => by kernel_rfl)) ?_
    refine LW.pure rfl rfl (RV.move rfl) ?_
    refine LW.go rfl rfl (OW.store Tk24 rfl rfl (H.blk 0 rfl) (off := 0) (vs := [.int .i64 0, .slice none 0 0]) rfl rfl rfl rfl rfl fun w12 S5 => ?_)
    replace H : Hp w w12 [.blk b2 24 [.int .i64 0, .slice none 0 0], .blk b1 24 [.int .i64 a0.layers, .slice A_a0_bounds a0.bounds.length c_a0_bounds]] := H.stored 0 rfl S5
    replace R0 := H.ext
    refine LW.pure rfl rfl (RV.assign rfl) ?_
    refine LW.nil (hK13 _ _ ?_)
    refine CW.ret ?_
    obtain rfl := Option.some.inj F
    refine ⟨_, (ResOK.two ⟨_, rfl, run_loadVar_agg Tk24 (H.blk 0 rfl).cells (us := [.int .i64 0, .slice none 0 0]) rfl rfl⟩ rfl), ?_⟩
    replace H := H.nilOwn 26 3
    replace R0 := H.ext
    replace H := H.pick (L' := [.own none 0 26 3 (List.map encBound (([] : List Bound)))]) [0] (by decide) rfl
    replace R0 := H.ext
    exact ⟨none, 0, (by first | rfl | (simp; done) | (simp; omega)), H⟩

set_option maxRecDepth 20000 in
set_option maxHeartbeats 1000000 in
theorem ref03_Copy_ok {a0 : Core} {A_a0_bounds : Option Addr} {c_a0_bounds : Nat} {w : World} {res : Core} (h_a0_bounds : Sl w A_a0_bounds c_a0_bounds 3 (a0.bounds.map encBound)) (F : ref03_Copy a0 = some res) : Calls Try.prog 55 #[.agg #[.int .i64 a0.layers, .slice A_a0_bounds a0.bounds.length c_a0_bounds]] w (fun e w' => ∃ (A0_bounds : Option Addr) (c0_bounds : Nat), e = .returned (.agg #[.int .i64 res.layers, .slice A0_bounds res.bounds.length c0_bounds]) ∧ Hp w w' [.own A0_bounds c0_bounds 26 3 (List.map encBound res.bounds)]) := by
  refine calls_of_cw (args := [.agg #[.int .i64 a0.layers, .slice A_a0_bounds a0.bounds.length c_a0_bounds]]) Try.func55 rfl rfl rfl rfl ?_
  have H := Hp.start w
  have R0 := H.ext
  unfold ref03_Copy at F
  refine CW.seq fun K1 hK1 => ?_
  refine CW.region ?_
  refine LW.go rfl rfl (OW.box rfl fun b1 w1 N1 => ?_)
  replace H := H.new N1 N1.blk
  replace R0 := H.ext
  refine LW.go rfl rfl (OW.alloc Tz24 fun b2 w2 N2 => ?_)
  replace H := H.new N2 N2.blk
  replace R0 := H.ext
  refine LW.nil (hK1 _ _ ?_)
  refine CW.seq fun K2 hK2 => ?_
  obtain ⟨hg1, F⟩ := gd_some F
  have H0 := H
  have hz : w2.heap.size ≤ w2.heap.size := Nat.le_refl _
  refine CW.draw [5, 7] (XB w2 [.blk b2 24 [.int .i64 0, .slice none 0 0], .blk b1 24 [.int .i64 a0.layers, .slice A_a0_bounds a0.bounds.length c_a0_bounds]] [0]) (.cons 0 2 (.cons 1 2 (.cons 3 2 (.cons 4 1 (.cons 2 0 (.cons 5 0 (.cons 6 2 (.cons 7 0 .nil)))))))) mixed (by kernel_rfl) fun w3 E1 => ?_
  replace H := H.grow E1
  replace R0 := H.ext
  replace hz := Nat.le_trans hz (Ext.size E1)
  refine DW.thru rfl rfl rfl (fun _ EQ => RV.fieldAddr Tf24_0 rfl) ?_
  refine DW.thru rfl rfl rfl (fun _ EQ => RV.load1 Tk3 rfl ((H.thruB 1 rfl EQ (H0.notX [0] 1 rfl (by decide))).cells.off 0) rfl) ?_
  refine DW.thru rfl rfl rfl (fun _ EQ => RV.fieldAddr Tf24_1 rfl) ?_
  refine DW.fix rfl rfl rfl (fun _ EQ => RV.load1 Tk22 rfl (((H.grow EQ).blk 1 rfl).cells.off 1) rfl) ?_
  refine DW.sole rfl rfl rfl (OW.buildSlice (e := 26) (vs := []) (cs := []) rfl (fun _ => by kernel_rfl) fun b3 w4 N3 => ?_)
  refine ⟨fun _ => N3.ext, ModX.ext N3.ext, ?_⟩
  have G0_b3 : w2.heap.size ≤ b3 := by rw [N3.at_]; exact hz
  replace H := H.made' (k := 3) (t := 26) (enc := encBound) (l := ([] : List Bound)) N3 N3.blk (fun _ => rfl) rfl (by first | decide | omega | (simp; done) | (simp; omega))
  replace R0 := H.ext
  replace hz := Nat.le_trans hz (Ext.size N3.ext)
  refine DW.sole rfl rfl rfl (OW.appendG (enc := encBound) (l := ([] : List Bound)) (xs := a0.bounds) Ts22 (look_slice rfl (by first | rfl | (simp; done) | (simp; omega))) rfl (H.own 0 rfl) (h_a0_bounds.ext R0) (fun _ => rfl) rfl rfl hg1 (by decide) fun A1 c1 w5 O1 M1 D1 => ?_)
  have G0_A1 := Fresh.nextZ (Fresh.at_ G0_b3) D1 hz
  refine ⟨fun h => absurd h (by decide), M1.modx (XB.newA (Fresh.at_ G0_b3)), ?_⟩
  replace H : Hp w w5 [.own A1 c1 26 3 (List.map encBound ((([] : List Bound) ++ a0.bounds))), .blk b2 24 [.int .i64 0, .slice none 0 0], .blk b1 24 [.int .i64 a0.layers, .slice A_a0_bounds a0.bounds.length c_a0_bounds]] := H.mod 0 rfl M1 O1 D1
  replace R0 := H.ext
  replace hz := Nat.le_trans hz M1.size
  refine DW.thru rfl rfl rfl (fun _ EQ => RV.build (vs := [.int .i64 a0.layers, .slice A1 (((([] : List Bound) ++ a0.bounds)).length) c1]) (cs := [.int .i64 a0.layers, .slice A1 (((([] : List Bound) ++ a0.bounds)).length) c1]) rfl (fun _ => by kernel_rfl)) ?_
  refine DW.sole rfl rfl rfl (OW.store Tk24 rfl rfl (H.blk 1 rfl) (off := 0) (vs := [.int .i64 a0.layers, .slice A1 (((([] : List Bound) ++ a0.bounds)).length) c1]) rfl rfl rfl rfl rfl fun w6 S1 => ?_)
  refine ⟨fun h => absurd h (by decide), S1.modx (XB.in_ 0 (by decide) rfl (List.mem_singleton.2 rfl)), ?_⟩
  replace H : Hp w w6 [.own A1 c1 26 3 (List.map encBound ((([] : List Bound) ++ a0.bounds))), .blk b2 24 [.int .i64 a0.layers, .slice A1 (((([] : List Bound) ++ a0.bounds)).length) c1], .blk b1 24 [.int .i64 a0.layers, .slice A_a0_bounds a0.bounds.length c_a0_bounds]] := H.stored 1 rfl S1
  replace R0 := H.ext
  replace hz := Nat.le_trans hz (Nat.le_of_eq S1.size.symm)
  refine DW.nil (hK2 _ _ ?_)
  refine CW.ret ?_
  obtain rfl := Option.some.inj F
  refine ⟨_, (ResOK.cell1 ⟨_, rfl, run_loadVar_agg Tk24 (H.blk 1 rfl).cells (us := [.int .i64 a0.layers, .slice A1 (((([] : List Bound) ++ a0.bounds)).length) c1]) rfl rfl⟩), ?_⟩
  replace H := H.pick (L' := [.own A1 c1 26 3 (List.map encBound ((([] : List Bound) ++ a0.bounds)))]) [0] (by decide) rfl
  replace R0 := H.ext
  exact ⟨A1, c1, (by first | rfl | (simp; done) | (simp; omega)), H⟩

set_option maxRecDepth 20000 in
set_option maxHeartbeats 1000000 in
theorem ref03_Turn_ok {a0 : Core} {A_a0_bounds : Option Addr} {c_a0_bounds : Nat} {w : World} {res : Core × Int} (h_a0_bounds : Sl w A_a0_bounds c_a0_bounds 3 (a0.bounds.map encBound)) (F : ref03_Turn a0 = some res) : Calls Try.prog 31 #[.agg #[.int .i64 a0.layers, .slice A_a0_bounds a0.bounds.length c_a0_bounds]] w (fun e w' => ∃ (A0_bounds : Option Addr) (c0_bounds : Nat), e = .returned (.tuple #[.agg #[.int .i64 res.1.layers, .slice A0_bounds res.1.bounds.length c0_bounds], .int .i64 res.2]) ∧ Hp w w' [.own A0_bounds c0_bounds 26 3 (List.map encBound res.1.bounds)]) := by
  refine calls_of_cw (args := [.agg #[.int .i64 a0.layers, .slice A_a0_bounds a0.bounds.length c_a0_bounds]]) Try.func31 rfl rfl rfl rfl ?_
  have H := Hp.start w
  have R0 := H.ext
  unfold ref03_Turn at F
  refine CW.seq fun K1 hK1 => ?_
  refine CW.region ?_
  refine LW.go rfl rfl (OW.box rfl fun b1 w1 N1 => ?_)
  replace H := H.new N1 N1.blk
  replace R0 := H.ext
  refine LW.go rfl rfl (OW.alloc Tz24 fun b2 w2 N2 => ?_)
  replace H := H.new N2 N2.blk
  replace R0 := H.ext
  refine LW.pure rfl rfl (RV.assign rfl) ?_
  refine LW.nil (hK1 _ _ ?_)
  refine CW.seq fun K2 hK2 => ?_
  refine CW.seq fun K3 hK3 => ?_
  obtain ⟨r2, hr2, F⟩ := bnd_some F
  refine CW.region ?_
  refine LW.pure rfl rfl (RV.loadA [.int .i64 a0.layers, .slice A_a0_bounds a0.bounds.length c_a0_bounds] Tk24 rfl (H.blk 1 rfl).cells rfl rfl) ?_
  refine LW.go rfl rfl (OW.call Tc37 rfl (ref03_Validate_ok (a0 := a0) (h_a0_bounds.ext R0) hr2) ?_)
  rintro _ w3 ⟨rfl, E1⟩
  refine ⟨_, rfl, ?_⟩
  replace H := H.grow E1
  replace R0 := H.ext
  refine LW.pure rfl rfl (RV.assign rfl) ?_
  refine LW.nil (hK3 _ _ ?_)
  refine CW.seq fun K4 hK4 => ?_
  refine CW.region ?_
  refine LW.pure rfl rfl (RV.move rfl) ?_
  refine LW.pure rfl rfl (RV.nei rfl rfl) ?_
  refine LW.nil (hK4 _ _ ?_)
  by_cases hp1 : r2 = 0
  ·
    replace F := ite_y hp1 F
    have hq1 := dec_t hp1
    refine CW.condF rfl (not_f hq1) ?_
    refine CW.skip (hK2 _ _ ?_)
    refine CW.seq fun K5 hK5 => ?_
    obtain ⟨r1, hr1, F⟩ := bnd_some F
    refine CW.region ?_
    refine LW.pure rfl rfl (RV.loadA [.int .i64 a0.layers, .slice A_a0_bounds a0.bounds.length c_a0_bounds] Tk24 rfl (H.blk 1 rfl).cells rfl rfl) ?_
    refine LW.go rfl rfl (OW.call Tc55 rfl (ref03_Copy_ok (a0 := a0) (h_a0_bounds.ext R0) hr1) ?_)
    rintro _ w4 ⟨A6_0_bounds, c6_0_bounds, rfl, E2⟩
    refine ⟨_, rfl, ?_⟩
    replace H : Hp w w4 [.own A6_0_bounds c6_0_bounds 26 3 (List.map encBound r1.bounds), .blk b2 24 [.int .i64 0, .slice none 0 0], .blk b1 24 [.int .i64 a0.layers, .slice A_a0_bounds a0.bounds.length c_a0_bounds]] := H.append E2
    replace R0 := H.ext
    refine LW.go rfl rfl (OW.alloc Tz24 fun b3 w5 N3 => ?_)
    replace H := H.new N3 N3.blk
    replace R0 := H.ext
    refine LW.go rfl rfl (OW.store Tk24 rfl rfl (H.blk 0 rfl) (off := 0) (vs := [.int .i64 r1.layers, .slice A6_0_bounds r1.bounds.length c6_0_bounds]) rfl rfl rfl rfl rfl fun w6 S1 => ?_)
    replace H : Hp w w6 [.blk b3 24 [.int .i64 r1.layers, .slice A6_0_bounds r1.bounds.length c6_0_bounds], .own A6_0_bounds c6_0_bounds 26 3 (List.map encBound r1.bounds), .blk b2 24 [.int .i64 0, .slice none 0 0], .blk b1 24 [.int .i64 a0.layers, .slice A_a0_bounds a0.bounds.length c_a0_bounds]] := H.stored 0 rfl S1
    replace R0 := H.ext
    refine LW.nil (hK5 _ _ ?_)
    refine CW.seqJ (fun ρ wl1 => (∃ (l1 : List Bound), ref03_Turn_k1 r1 l1 = some res ∧ ρ = [(2, .pointer (some (⟨b2, 0, none⟩))), (3, .int .i64 0), (5, .pointer (some (⟨b3, 0, none⟩)))] ∧ Hp w wl1 [.own A6_0_bounds c6_0_bounds 26 3 (List.map encBound l1), .blk b2 24 [.int .i64 0, .slice none 0 0], .blk b3 24 [.int .i64 r1.layers, .slice A6_0_bounds l1.length c6_0_bounds]])) ?_ ?_
    ·
      rintro _ wl1 ⟨l1, F, rfl, H⟩
      have R0 := H.ext
      unfold ref03_Turn_k1 at F
      refine CW.seq fun K6 hK6 => ?_
      refine CW.region ?_
      refine LW.pure rfl rfl (RV.loadA [.int .i64 r1.layers, .slice A6_0_bounds l1.length c6_0_bounds] Tk24 rfl (H.blk 2 rfl).cells rfl rfl) ?_
      refine LW.go rfl rfl (OW.store Tk24 rfl rfl (H.blk 1 rfl) (off := 0) (vs := [.int .i64 r1.layers, .slice A6_0_bounds l1.length c6_0_bounds]) rfl rfl rfl rfl rfl fun w7 S2 => ?_)
      replace H : Hp w w7 [.own A6_0_bounds c6_0_bounds 26 3 (List.map encBound l1), .blk b2 24 [.int .i64 r1.layers, .slice A6_0_bounds l1.length c6_0_bounds], .blk b3 24 [.int .i64 r1.layers, .slice A6_0_bounds l1.length c6_0_bounds]] := H.stored 1 rfl S2
      replace R0 := H.ext
      refine LW.pure rfl rfl (RV.assign rfl) ?_
      refine LW.nil (hK6 _ _ ?_)
      refine CW.ret ?_
      obtain rfl := Option.some.inj F
      refine ⟨_, (ResOK.two ⟨_, rfl, run_loadVar_agg Tk24 (H.blk 1 rfl).cells (us := [.int .i64 r1.layers, .slice A6_0_bounds l1.length c6_0_bounds]) rfl rfl⟩ rfl), ?_⟩
      replace H := H.pick (L' := [.own A6_0_bounds c6_0_bounds 26 3 (List.map encBound l1)]) [0] (by decide) rfl
      replace R0 := H.ext
      exact ⟨A6_0_bounds, c6_0_bounds, (by first | rfl | (simp; done) | (simp; omega)), H⟩
    ·
      intro K7 hK7 jK45
      refine CW.seq fun K8 hK8 => ?_
      refine CW.region ?_
      refine LW.pure rfl rfl (RV.assign rfl) ?_
      refine LW.nil (hK8 _ _ ?_)
      refine CW.block ?_
      replace H := H.pick (L' := [.own A6_0_bounds c6_0_bounds 26 3 (List.map encBound r1.bounds), .blk b1 24 [.int .i64 a0.layers, .slice A_a0_bounds a0.bounds.length c_a0_bounds], .blk b2 24 [.int .i64 0, .slice none 0 0], .blk b3 24 [.int .i64 r1.layers, .slice A6_0_bounds r1.bounds.length c6_0_bounds]]) [1, 3, 2, 0] (by decide) rfl
      replace R0 := H.ext
      refine CW.loop (fun meas ρ wl2 => ∃ (t6_1 : Int) (l2 : List Bound), ref03_Turn_L1 a0 r1 meas t6_1 l2 = some res ∧ ρ = [(1, .pointer (some (⟨b1, 0, none⟩))), (2, .pointer (some (⟨b2, 0, none⟩))), (3, .int .i64 0), (5, .pointer (some (⟨b3, 0, none⟩))), (6, .int .i64 t6_1)] ∧ Hp w wl2 [.own A6_0_bounds c6_0_bounds 26 3 (List.map encBound l2), .blk b1 24 [.int .i64 a0.layers, .slice A_a0_bounds a0.bounds.length c_a0_bounds], .blk b2 24 [.int .i64 0, .slice none 0 0], .blk b3 24 [.int .i64 r1.layers, .slice A6_0_bounds l2.length c6_0_bounds]]) FU ⟨_, ?_, ((0 : Int)), r1.bounds, F, rfl, H⟩ ?_
      · exact ⟨rfl, rfl, rfl, rfl, rfl, trivial⟩
      rintro mk1 _ wl2 ⟨t6_1, l2, F, rfl, H⟩
      have R0 := H.ext
      replace F := ref03_Turn_L1_s F
      obtain ⟨mk1, rfl, F⟩ := F
      generalize hrec1 : ref03_Turn_L1 a0 r1 mk1 = rec1 at F
      unfold ref03_Turn_B1 at F
      refine CW.seq fun K9 hK9 => ?_
      refine CW.seq fun K10 hK10 => ?_
      refine CW.region ?_
      refine LW.pure rfl rfl (RV.move rfl) ?_
      refine LW.pure rfl rfl (RV.fieldAddr Tf24_1 rfl) ?_
      refine LW.pure rfl rfl (RV.load1 Tk22 rfl ((H.blk 3 rfl).cells.off 1) rfl) ?_
      refine LW.pure rfl rfl (RV.len Ts22 rfl) ?_
      refine LW.pure rfl rfl (RV.lss rfl rfl) ?_
      refine LW.nil (hK10 _ _ ?_)
      by_cases hp2 : t6_1 < ((l2.length : Int))
      ·
        replace F := ite_y hp2 F
        have hq2 := dec_t hp2
        refine CW.condT rfl hq2 ?_
        refine CW.skip (hK9 _ _ ?_)
        refine CW.seq fun K11 hK11 => ?_
        refine CW.block ?_
        obtain ⟨x1, hbx1, hx1, F⟩ := ix_some F
        obtain ⟨x2, hbx2, hx2, F⟩ := ix_some F
        obtain ⟨x3, hbx3, hx3, F⟩ := ix_some F
        obtain ⟨x4, hbx4, hx4, F⟩ := ix_some F
        have H0 := H
        have hz : wl2.heap.size ≤ wl2.heap.size := Nat.le_refl _
        refine CW.draw [20, 23] (XB wl2 [.own A6_0_bounds c6_0_bounds 26 3 (List.map encBound l2), .blk b1 24 [.int .i64 a0.layers, .slice A_a0_bounds a0.bounds.length c_a0_bounds], .blk b2 24 [.int .i64 0, .slice none 0 0], .blk b3 24 [.int .i64 r1.layers, .slice A6_0_bounds l2.length c6_0_bounds]] [0]) (.cons 0 1 (.cons 1 1 (.cons 2 1 (.cons 6 1 (.cons 7 1 (.cons 8 1 (.cons 9 1 (.cons 10 1 (.cons 11 1 (.cons 3 2 (.cons 4 2 (.cons 5 2 (.cons 12 2 (.cons 13 2 (.cons 14 2 (.cons 15 2 (.cons 16 2 (.cons 17 1 (.cons 18 2 (.cons 19 1 (.cons 20 0 (.cons 21 2 (.cons 22 2 (.cons 23 0 .nil)))))))))))))))))))))))) mixed (by kernel_rfl) fun w8 E3 => ?_
        replace H := H.grow E3
        replace R0 := H.ext
        replace hz := Nat.le_trans hz (Ext.size E3)
        refine DW.fix rfl rfl rfl (fun _ EQ => RV.fieldAddr Tf24_1 rfl) ?_
        refine DW.fix rfl rfl rfl (fun _ EQ => RV.load1 Tk22 rfl (((H.grow EQ).blk 3 rfl).cells.off 1) rfl) ?_
        refine DW.fix rfl rfl rfl (fun _ EQ => RV.move rfl) ?_
        refine DW.fix rfl rfl rfl (fun _ EQ => RV.fieldAddr Tf24_1 rfl) ?_
        refine DW.fix rfl rfl rfl (fun _ EQ => RV.load1 Tk22 rfl (((H.grow EQ).blk 1 rfl).cells.off 1) rfl) ?_
        refine DW.fix rfl rfl rfl (fun _ EQ => RV.move rfl) ?_
        refine DW.fix rfl rfl rfl (fun _ EQ => RV.indexAddr Ts22 rfl rfl hbx1 (h_a0_bounds.addr_ hx1)) ?_
        refine DW.fix rfl rfl rfl (fun _ EQ => RV.fieldAddr Tf26_1 rfl) ?_
        refine DW.fix rfl rfl rfl (fun _ EQ => RV.load1 Tk3 rfl (((h_a0_bounds.at_ hx1).ext (R0.trans EQ)).off 1) rfl) ?_
        refine DW.thru rfl rfl rfl (fun _ EQ => RV.fieldAddr Tf24_1 rfl) ?_
        refine DW.thru rfl rfl rfl (fun _ EQ => RV.load1 Tk22 rfl ((H.thruB 3 rfl EQ (H0.notX [0] 3 rfl (by decide))).cells.off 1) rfl) ?_
        refine DW.thru rfl rfl rfl (fun _ EQ => RV.move rfl) ?_
        refine DW.thru rfl rfl rfl (fun _ EQ => RV.fieldAddr Tf24_1 rfl) ?_
        refine DW.thru rfl rfl rfl (fun _ EQ => RV.load1 Tk22 rfl ((H.thruB 1 rfl EQ (H0.notX [0] 1 rfl (by decide))).cells.off 1) rfl) ?_
        refine DW.thru rfl rfl rfl (fun _ EQ => RV.move rfl) ?_
        refine DW.thru rfl rfl rfl (fun _ EQ => RV.indexAddr Ts22 rfl rfl hbx2 (h_a0_bounds.addr_ hx2)) ?_
        refine DW.thru rfl rfl rfl (fun _ EQ => RV.fieldAddr Tf26_0 rfl) ?_
        refine DW.fix rfl rfl rfl (fun _ EQ => RV.load1 Tk3 rfl (((h_a0_bounds.at_ hx2).ext (R0.trans EQ)).off 0) rfl) ?_
        refine DW.thru rfl rfl rfl (fun _ EQ => RV.indexAddr Ts22 rfl rfl hbx3 ((H.own 0 rfl).sl.addr_ hx3)) ?_
        refine DW.fix rfl rfl rfl (fun _ EQ => RV.fieldAddr Tf26_0 rfl) ?_
        refine DW.sole rfl rfl rfl (OW.storeO (enc := encBound) (vs := [.int .i64 x1.b]) 0 ((⟨x1.b, x3.b, x3.most⟩ : Bound)) Tk3 rfl rfl (H.own 0 rfl) (fun _ => rfl) rfl hx3 rfl rfl (by decide) rfl rfl fun w9 M1 O1 => ?_)
        refine ⟨fun h => absurd h (by decide), M1.modx (XB.own_ 0 (by decide) rfl), ?_⟩
        replace H : Hp w w9 [.own A6_0_bounds c6_0_bounds 26 3 (List.map encBound ((l2.set (Int.toNat t6_1) ((⟨x1.b, x3.b, x3.most⟩ : Bound))))), .blk b1 24 [.int .i64 a0.layers, .slice A_a0_bounds a0.bounds.length c_a0_bounds], .blk b2 24 [.int .i64 0, .slice none 0 0], .blk b3 24 [.int .i64 r1.layers, .slice A6_0_bounds l2.length c6_0_bounds]] := H.mod 0 rfl M1 O1 (.inl rfl)
        replace R0 := H.ext
        replace hz := Nat.le_trans hz M1.size
        refine DW.thru rfl rfl rfl (fun _ EQ => RV.indexAddr Ts22 rfl rfl (by first | exact hbx4 | (simp at hbx4 ⊢; omega)) ((H.own 0 rfl).sl.addr_ hx4)) ?_
        refine DW.thru rfl rfl rfl (fun _ EQ => RV.fieldAddr Tf26_1 rfl) ?_
        refine DW.sole rfl rfl rfl (OW.storeO (enc := encBound) (vs := [.int .i64 x2.a]) 1 ((⟨x4.a, x2.a, x4.most⟩ : Bound)) Tk3 rfl rfl (H.own 0 rfl) (fun _ => rfl) rfl hx4 rfl rfl (by decide) rfl rfl fun w10 M2 O2 => ?_)
        refine ⟨fun h => absurd h (by decide), M2.modx (XB.own_ 0 (by decide) rfl), ?_⟩
        replace H : Hp w w10 [.own A6_0_bounds c6_0_bounds 26 3 (List.map encBound ((((l2.set (Int.toNat t6_1) ((⟨x1.b, x3.b, x3.most⟩ : Bound)))).set (Int.toNat t6_1) ((⟨x4.a, x2.a, x4.most⟩ : Bound))))), .blk b1 24 [.int .i64 a0.layers, .slice A_a0_bounds a0.bounds.length c_a0_bounds], .blk b2 24 [.int .i64 0, .slice none 0 0], .blk b3 24 [.int .i64 r1.layers, .slice A6_0_bounds l2.length c6_0_bounds]] := H.mod 0 rfl M2 O2 (.inl rfl)
        replace R0 := H.ext
        replace hz := Nat.le_trans hz M2.size
        refine DW.nil (hK11 _ _ ?_)
        obtain ⟨hg1, F⟩ := gd_some F
        refine CW.region ?_
        refine LW.pure rfl rfl (RV.move rfl) ?_
        refine LW.pure rfl rfl (RV.add rfl rfl hg1) ?_
        refine LW.pure rfl rfl (RV.assign rfl) ?_
        refine LW.nil ?_
        replace H := H.cast (L' := [.own A6_0_bounds c6_0_bounds 26 3 (List.map encBound ((((l2.set (Int.toNat t6_1) ((⟨x1.b, x3.b, x3.most⟩ : Bound)))).set (Int.toNat t6_1) ((⟨x4.a, x2.a, x4.most⟩ : Bound))))), .blk b1 24 [.int .i64 a0.layers, .slice A_a0_bounds a0.bounds.length c_a0_bounds], .blk b2 24 [.int .i64 0, .slice none 0 0], .blk b3 24 [.int .i64 r1.layers, .slice A6_0_bounds (((((l2.set (Int.toNat t6_1) ((⟨x1.b, x3.b, x3.most⟩ : Bound)))).set (Int.toNat t6_1) ((⟨x4.a, x2.a, x4.most⟩ : Bound)))).length) c6_0_bounds]]) (by first | rfl | (simp only [List.length_set]; done) | simp)
        subst hrec1
        refine ⟨mk1, Nat.lt_succ_self _, _, ?_, (t6_1 + 1), ((((l2.set (Int.toNat t6_1) ((⟨x1.b, x3.b, x3.most⟩ : Bound)))).set (Int.toNat t6_1) ((⟨x4.a, x2.a, x4.most⟩ : Bound)))), F, rfl, H⟩
        exact ⟨rfl, rfl, rfl, rfl, rfl, trivial⟩
      ·
        replace F := ite_n hp2 F
        have hq2 := dec_f hp2
        refine CW.condF rfl hq2 ?_
        replace H := H.pick (L' := [.own A6_0_bounds c6_0_bounds 26 3 (List.map encBound l2), .blk b2 24 [.int .i64 0, .slice none 0 0], .blk b3 24 [.int .i64 r1.layers, .slice A6_0_bounds l2.length c6_0_bounds]]) [0, 2, 3] (by decide) rfl
        replace R0 := H.ext
        refine CW.exit (jK45 _ _ ⟨_, ?_, ⟨l2, F, rfl, H⟩⟩)
        exact ⟨rfl, rfl, rfl, trivial⟩
  ·
    replace F := ite_n hp1 F
    have hq1 := dec_f hp1
    refine CW.condT rfl (not_t hq1) ?_
    refine CW.seq fun K12 hK12 => ?_
    refine CW.region ?_
    refine LW.pure rfl rfl (RV.build (vs := []) (cs := [.int .i64 0, .slice none 0 0]) rfl (fun _ => by kernel_rfl)) ?_
    refine LW.pure rfl rfl (RV.move rfl) ?_
    refine LW.go rfl rfl (OW.store Tk24 rfl rfl (H.blk 0 rfl) (off := 0) (vs := [.int .i64 0, .slice none 0 0]) rfl rfl rfl rfl rfl fun w11 S3 => ?_)
    replace H : Hp w w11 [.blk b2 24 [.int .i64 0, .slice none 0 0], .blk b1 24 [.int .i64 a0.layers, .slice A_a0_bounds a0.bounds.length c_a0_bounds]] := H.stored 0 rfl S3
    replace R0 := H.ext
    refine LW.pure rfl rfl (RV.assign rfl) ?_
    refine LW.nil (hK12 _ _ ?_)
    refine CW.ret ?_
    obtain rfl := Option.some.inj F
    refine ⟨_, (ResOK.two ⟨_, rfl, run_loadVar_agg Tk24 (H.blk 0 rfl).cells (us := [.int .i64 0, .slice none 0 0]) rfl rfl⟩ rfl), ?_⟩
    replace H := H.nilOwn 26 3
    replace R0 := H.ext
    replace H := H.pick (L' := [.own none 0 26 3 (List.map encBound (([] : List Bound)))]) [0] (by decide) rfl
    replace R0 := H.ext
    exact ⟨none, 0, (by first | rfl | (simp; done) | (simp; omega)), H⟩

set_option maxRecDepth 20000 in
set_option maxHeartbeats 1000000 in
theorem ref03_SameBounds_ok {a0 : List Bound} {a1 : List Bound} {A_a0 : Option Addr} {c_a0 : Nat} {A_a1 : Option Addr} {c_a1 : Nat} {w : World} {res : Bool} (h_a0 : Sl w A_a0 c_a0 3 (a0.map encBound)) (h_a1 : Sl w A_a1 c_a1 3 (a1.map encBound)) (F : ref03_SameBounds a0 a1 = some res) : Calls Try.prog 52 #[.slice A_a0 a0.length c_a0, .slice A_a1 a1.length c_a1] w (Rt w (.bool res)) := by
  refine calls_of_cw (args := [.slice A_a0 a0.length c_a0, .slice A_a1 a1.length c_a1]) Try.func52 rfl rfl rfl rfl ?_
  have H := Hp.start w
  have R0 := H.ext
  unfold ref03_SameBounds at F
  refine CW.seq fun K1 hK1 => ?_
  refine CW.region ?_
  refine LW.pure rfl rfl (RV.assign rfl) ?_
  refine LW.nil (hK1 _ _ ?_)
  refine CW.seq fun K2 hK2 => ?_
  refine CW.seq fun K3 hK3 => ?_
  refine CW.region ?_
  refine LW.pure rfl rfl (RV.move rfl) ?_
  refine LW.pure rfl rfl (RV.len Ts22 rfl) ?_
  refine LW.pure rfl rfl (RV.move rfl) ?_
  refine LW.pure rfl rfl (RV.len Ts22 rfl) ?_
  refine LW.pure rfl rfl (RV.nei rfl rfl) ?_
  refine LW.nil (hK3 _ _ ?_)
  by_cases hp1 : ((a0.length : Int)) = ((a1.length : Int))
  ·
    replace F := ite_y hp1 F
    have hq1 := dec_t hp1
    refine CW.condF rfl (not_f hq1) ?_
    refine CW.skip (hK2 _ _ ?_)
    refine CW.seqJ (fun ρ wl1 => (ref03_SameBounds_k1 = some res ∧ ρ = [(4, .bool false)] ∧ Hp w wl1 [])) ?_ ?_
    ·
      rintro _ wl1 ⟨F, rfl, H⟩
      have R0 := H.ext
      unfold ref03_SameBounds_k1 at F
      refine CW.seq fun K4 hK4 => ?_
      refine CW.region ?_
      refine LW.pure rfl rfl (RV.assign rfl) ?_
      refine LW.nil (hK4 _ _ ?_)
      refine CW.ret ?_
      obtain rfl := Option.some.inj F
      refine ⟨_, (ResOK.one rfl), ?_⟩
      refine ⟨(by first | rfl | simp), R0⟩
    ·
      intro K5 hK5 jK59
      refine CW.seq fun K6 hK6 => ?_
      refine CW.region ?_
      refine LW.pure rfl rfl (RV.assign rfl) ?_
      refine LW.nil (hK6 _ _ ?_)
      refine CW.block ?_
      refine CW.loop (fun meas ρ wl2 => ∃ (t5_1 : Int), ref03_SameBounds_L1 a0 a1 meas t5_1 = some res ∧ ρ = [(0, .slice A_a0 a0.length c_a0), (1, .slice A_a1 a1.length c_a1), (4, .bool false), (5, .int .i64 t5_1)] ∧ Hp w wl2 []) FU ⟨_, ?_, ((0 : Int)), F, rfl, H⟩ ?_
      · exact ⟨rfl, rfl, rfl, rfl, trivial⟩
      rintro mk1 _ wl2 ⟨t5_1, F, rfl, H⟩
      have R0 := H.ext
      replace F := ref03_SameBounds_L1_s F
      obtain ⟨mk1, rfl, F⟩ := F
      generalize hrec1 : ref03_SameBounds_L1 a0 a1 mk1 = rec1 at F
      unfold ref03_SameBounds_B1 at F
      refine CW.seq fun K7 hK7 => ?_
      refine CW.seq fun K8 hK8 => ?_
      refine CW.region ?_
      refine LW.pure rfl rfl (RV.move rfl) ?_
      refine LW.pure rfl rfl (RV.move rfl) ?_
      refine LW.pure rfl rfl (RV.len Ts22 rfl) ?_
      refine LW.pure rfl rfl (RV.lss rfl rfl) ?_
      refine LW.nil (hK8 _ _ ?_)
      by_cases hp2 : t5_1 < ((a0.length : Int))
      ·
        replace F := ite_y hp2 F
        have hq2 := dec_t hp2
        refine CW.condT rfl hq2 ?_
        refine CW.skip (hK7 _ _ ?_)
        refine CW.seq fun K9 hK9 => ?_
        refine CW.block ?_
        refine CW.seq fun K10 hK10 => ?_
        obtain ⟨x1, hbx1, hx1, F⟩ := ix_some F
        obtain ⟨x2, hbx2, hx2, F⟩ := ix_some F
        refine CW.draw [] (fun _ => True) (.cons 0 1 (.cons 1 1 (.cons 2 1 (.cons 3 1 (.cons 4 1 (.cons 5 1 (.cons 6 1 (.cons 7 1 (.cons 8 1 .nil))))))))) mixed (by kernel_rfl) fun w1 E1 => ?_
        replace H := H.grow E1
        replace R0 := H.ext
        refine DW.fix rfl rfl rfl (fun _ EQ => RV.move rfl) ?_
        refine DW.fix rfl rfl rfl (fun _ EQ => RV.move rfl) ?_
        refine DW.fix rfl rfl rfl (fun _ EQ => RV.indexAddr Ts22 rfl rfl hbx1 (h_a0.addr_ hx1)) ?_
        refine DW.fix rfl rfl rfl (fun _ EQ => RV.loadA [.int .i64 x1.a, .int .i64 x1.b, .int .i64 x1.most] Tk26 rfl ((h_a0.at_ hx1).ext (R0.trans EQ)) rfl rfl) ?_
        refine DW.fix rfl rfl rfl (fun _ EQ => RV.move rfl) ?_
        refine DW.fix rfl rfl rfl (fun _ EQ => RV.move rfl) ?_
        refine DW.fix rfl rfl rfl (fun _ EQ => RV.indexAddr Ts22 rfl rfl hbx2 (h_a1.addr_ hx2)) ?_
        refine DW.fix rfl rfl rfl (fun _ EQ => RV.loadA [.int .i64 x2.a, .int .i64 x2.b, .int .i64 x2.most] Tk26 rfl ((h_a1.at_ hx2).ext (R0.trans EQ)) rfl rfl) ?_
        refine DW.fix rfl rfl rfl (fun _ EQ => RV.neA Te26g (Te26 _ _ _ _ _ _ ) rfl rfl) ?_
        refine DW.nil (hK10 _ _ ?_)
        by_cases hp3 : ((x1.a == x2.a) && (x1.b == x2.b) && (x1.most == x2.most)) = true
        ·
          replace F := ite_y hp3 F
          have hq3 : ((x1.a == x2.a) && (x1.b == x2.b) && (x1.most == x2.most)) = true := hp3
          refine CW.condF rfl (not_f hq3) ?_
          refine CW.skip (hK9 _ _ ?_)
          obtain ⟨hg1, F⟩ := gd_some F
          refine CW.region ?_
          refine LW.pure rfl rfl (RV.move rfl) ?_
          refine LW.pure rfl rfl (RV.add rfl rfl hg1) ?_
          refine LW.pure rfl rfl (RV.assign rfl) ?_
          refine LW.nil ?_
          subst hrec1
          refine ⟨mk1, Nat.lt_succ_self _, _, ?_, (t5_1 + 1), F, rfl, H⟩
          exact ⟨rfl, rfl, rfl, rfl, trivial⟩
        ·
          replace F := ite_n hp3 F
          have hq3 : ((x1.a == x2.a) && (x1.b == x2.b) && (x1.most == x2.most)) = false := raw_f hp3
          refine CW.condT rfl (not_t hq3) ?_
          refine CW.seq fun K11 hK11 => ?_
          refine CW.region ?_
          refine LW.pure rfl rfl (RV.assign rfl) ?_
          refine LW.nil (hK11 _ _ ?_)
          refine CW.ret ?_
          obtain rfl := Option.some.inj F
          refine ⟨_, (ResOK.one rfl), ?_⟩
          refine ⟨(by first | rfl | simp), R0⟩
      ·
        replace F := ite_n hp2 F
        have hq2 := dec_f hp2
        refine CW.condF rfl hq2 ?_
        refine CW.exit (jK59 _ _ ⟨_, ?_, ⟨F, rfl, H⟩⟩)
        exact ⟨rfl, trivial⟩
  ·
    replace F := ite_n hp1 F
    have hq1 := dec_f hp1
    refine CW.condT rfl (not_t hq1) ?_
    refine CW.seq fun K12 hK12 => ?_
    refine CW.region ?_
    refine LW.pure rfl rfl (RV.assign rfl) ?_
    refine LW.nil (hK12 _ _ ?_)
    refine CW.ret ?_
    obtain rfl := Option.some.inj F
    refine ⟨_, (ResOK.one rfl), ?_⟩
    refine ⟨(by first | rfl | simp), R0⟩

set_option maxRecDepth 20000 in
set_option maxHeartbeats 1000000 in
theorem ref03_Equal_ok {a0 : Core} {a1 : Core} {A_a0_bounds : Option Addr} {c_a0_bounds : Nat} {A_a1_bounds : Option Addr} {c_a1_bounds : Nat} {w : World} {res : Bool} (h_a0_bounds : Sl w A_a0_bounds c_a0_bounds 3 (a0.bounds.map encBound)) (h_a1_bounds : Sl w A_a1_bounds c_a1_bounds 3 (a1.bounds.map encBound)) (F : ref03_Equal a0 a1 = some res) : Calls Try.prog 32 #[.agg #[.int .i64 a0.layers, .slice A_a0_bounds a0.bounds.length c_a0_bounds], .agg #[.int .i64 a1.layers, .slice A_a1_bounds a1.bounds.length c_a1_bounds]] w (Rt w (.bool res)) := by
  refine calls_of_cw (args := [.agg #[.int .i64 a0.layers, .slice A_a0_bounds a0.bounds.length c_a0_bounds], .agg #[.int .i64 a1.layers, .slice A_a1_bounds a1.bounds.length c_a1_bounds]]) Try.func32 rfl rfl rfl rfl ?_
  have H := Hp.start w
  have R0 := H.ext
  unfold ref03_Equal at F
  refine CW.seq fun K1 hK1 => ?_
  refine CW.region ?_
  refine LW.go rfl rfl (OW.box rfl fun b1 w1 N1 => ?_)
  replace H := H.new N1 N1.blk
  replace R0 := H.ext
  refine LW.go rfl rfl (OW.box rfl fun b2 w2 N2 => ?_)
  replace H := H.new N2 N2.blk
  replace R0 := H.ext
  refine LW.pure rfl rfl (RV.assign rfl) ?_
  refine LW.nil (hK1 _ _ ?_)
  refine CW.seq fun K2 hK2 => ?_
  by_cases hp1 : a0.layers = a1.layers
  ·
    replace F := ite_y hp1 F
    have hq1 := dec_t hp1
    obtain ⟨r1, hr1, F⟩ := bnd_some F
    refine CW.region ?_
    refine LW.pure rfl rfl (RV.fieldAddr Tf24_0 rfl) ?_
    refine LW.pure rfl rfl (RV.load1 Tk3 rfl ((H.blk 1 rfl).cells.off 0) rfl) ?_
    refine LW.pure rfl rfl (RV.fieldAddr Tf24_0 rfl) ?_
    refine LW.pure rfl rfl (RV.load1 Tk3 rfl ((H.blk 0 rfl).cells.off 0) rfl) ?_
    refine LW.pure rfl rfl (RV.eqi rfl rfl) ?_
    refine LW.pure rfl rfl (RV.move rfl) ?_
    refine LW.pureYB rfl rfl rfl rfl hq1 (RV.fieldAddr Tf24_1 rfl) ?_
    refine LW.pureYB rfl rfl rfl rfl hq1 (RV.load1 Tk22 rfl ((H.blk 1 rfl).cells.off 1) rfl) ?_
    refine LW.pureYB rfl rfl rfl rfl hq1 (RV.fieldAddr Tf24_1 rfl) ?_
    refine LW.pureYB rfl rfl rfl rfl hq1 (RV.load1 Tk22 rfl ((H.blk 0 rfl).cells.off 1) rfl) ?_
    refine LW.yesB rfl rfl rfl rfl hq1 (OW.call Tc52 rfl (ref03_SameBounds_ok (a0 := a0.bounds) (a1 := a1.bounds) (h_a0_bounds.ext R0) (h_a1_bounds.ext R0) hr1) ?_)
    rintro _ w3 ⟨rfl, E1⟩
    refine ⟨_, rfl, ?_⟩
    replace H := H.grow E1
    replace R0 := H.ext
    refine LW.pure rfl rfl (RV.pickTB rfl hq1 rfl) ?_
    refine LW.pure rfl rfl (RV.assign rfl) ?_
    refine LW.nil (hK2 _ _ ?_)
    refine CW.ret ?_
    obtain rfl := Option.some.inj F
    refine ⟨_, (ResOK.one rfl), ?_⟩
    refine ⟨(by first | rfl | simp), R0⟩
  ·
    replace F := ite_n hp1 F
    have hq1 := dec_f hp1
    refine CW.region ?_
    refine LW.pure rfl rfl (RV.fieldAddr Tf24_0 rfl) ?_
    refine LW.pure rfl rfl (RV.load1 Tk3 rfl ((H.blk 1 rfl).cells.off 0) rfl) ?_
    refine LW.pure rfl rfl (RV.fieldAddr Tf24_0 rfl) ?_
    refine LW.pure rfl rfl (RV.load1 Tk3 rfl ((H.blk 0 rfl).cells.off 0) rfl) ?_
    refine LW.pure rfl rfl (RV.eqi rfl rfl) ?_
    refine LW.pure rfl rfl (RV.move rfl) ?_
    refine LW.noB rfl rfl rfl rfl (ne_beq (v := false) hq1 rfl) ?_
    refine LW.noB rfl rfl rfl rfl (ne_beq (v := false) hq1 rfl) ?_
    refine LW.noB rfl rfl rfl rfl (ne_beq (v := false) hq1 rfl) ?_
    refine LW.noB rfl rfl rfl rfl (ne_beq (v := false) hq1 rfl) ?_
    refine LW.noB rfl rfl rfl rfl (ne_beq (v := false) hq1 rfl) ?_
    refine LW.pure rfl rfl (RV.pickFB rfl hq1 rfl) ?_
    refine LW.pure rfl rfl (RV.assign rfl) ?_
    refine LW.nil (hK2 _ _ ?_)
    refine CW.ret ?_
    obtain rfl := Option.some.inj F
    refine ⟨_, (ResOK.one rfl), ?_⟩
    refine ⟨(by first | rfl | simp), R0⟩

set_option maxRecDepth 20000 in
set_option maxHeartbeats 1000000 in
theorem law03_CoreTurns_ok {a0 : Core} {a1 : List Int} {A_a0_bounds : Option Addr} {c_a0_bounds : Nat} {A_a1 : Option Addr} {c_a1 : Nat} {w : World} {res : Bool} (h_a0_bounds : Sl w A_a0_bounds c_a0_bounds 3 (a0.bounds.map encBound)) (h_a1 : Sl w A_a1 c_a1 1 (a1.map encN)) (F : law03_CoreTurns a0 a1 = some res) : Calls Try.prog 6 #[.agg #[.int .i64 a0.layers, .slice A_a0_bounds a0.bounds.length c_a0_bounds], .slice A_a1 a1.length c_a1] w (Rt w (.bool res)) := by
  refine calls_of_cw (args := [.agg #[.int .i64 a0.layers, .slice A_a0_bounds a0.bounds.length c_a0_bounds], .slice A_a1 a1.length c_a1]) Try.func6 rfl rfl rfl rfl ?_
  have H := Hp.start w
  have R0 := H.ext
  unfold law03_CoreTurns at F
  refine CW.seq fun K1 hK1 => ?_
  refine CW.region ?_
  refine LW.go rfl rfl (OW.box rfl fun b1 w1 N1 => ?_)
  replace H := H.new N1 N1.blk
  replace R0 := H.ext
  refine LW.pure rfl rfl (RV.assign rfl) ?_
  refine LW.nil (hK1 _ _ ?_)
  refine CW.seq fun K2 hK2 => ?_
  refine CW.seqJ (fun ρ wl1 => (∃ (t20_1 : Bool), law03_CoreTurns_k4 a0 a1 t20_1 = some res ∧ ρ = [(1, .slice A_a1 a1.length c_a1), (2, .pointer (some (⟨b1, 0, none⟩))), (4, .bool false), (20, .bool t20_1)] ∧ Hp w wl1 [.blk b1 24 [.int .i64 a0.layers, .slice A_a0_bounds a0.bounds.length c_a0_bounds]])) ?_ ?_
  ·
    rintro _ wl1 ⟨t20_1, F, rfl, H⟩
    have R0 := H.ext
    unfold law03_CoreTurns_k4 at F
    by_cases hp1 : t20_1 = true
    ·
      replace F := ite_y hp1 F
      have hq1 : t20_1 = true := hp1
      refine CW.condT rfl hq1 ?_
      refine CW.seq fun K3 hK3 => ?_
      obtain ⟨r9, hr9, F⟩ := bnd_some F
      refine CW.region ?_
      refine LW.go rfl rfl (OW.call Tc18 rfl (law03_known_ok hr9) ?_)
      rintro _ w2 ⟨rfl, E1⟩
      refine ⟨_, rfl, ?_⟩
      replace H := H.grow E1
      replace R0 := H.ext
      refine LW.pure rfl rfl (RV.assign rfl) ?_
      refine LW.nil (hK3 _ _ ?_)
      refine CW.ret ?_
      obtain rfl := Option.some.inj F
      refine ⟨_, (ResOK.one rfl), ?_⟩
      refine ⟨(by first | rfl | simp), R0⟩
    ·
      replace F := ite_n hp1 F
      have hq1 : t20_1 = false := raw_f hp1
      refine CW.condF rfl hq1 ?_
      refine CW.skip (hK2 _ _ ?_)
      refine CW.seq fun K4 hK4 => ?_
      obtain ⟨r1, hr1, F⟩ := bnd_some F
      refine CW.region ?_
      refine LW.pure rfl rfl (RV.loadA [.int .i64 a0.layers, .slice A_a0_bounds a0.bounds.length c_a0_bounds] Tk24 rfl (H.blk 0 rfl).cells rfl rfl) ?_
      refine LW.go rfl rfl (OW.call Tc30 rfl (core_Turn_ok (a0 := a0) (h_a0_bounds.ext R0) hr1) ?_)
      rintro _ w3 ⟨A19_0_bounds, c19_0_bounds, rfl, E2⟩
      refine ⟨_, rfl, ?_⟩
      replace H : Hp w w3 [.own A19_0_bounds c19_0_bounds 26 3 (List.map encBound r1.1.bounds), .blk b1 24 [.int .i64 a0.layers, .slice A_a0_bounds a0.bounds.length c_a0_bounds]] := H.append E2
      replace R0 := H.ext
      refine LW.pure rfl rfl (RV.move rfl) ?_
      refine LW.pure rfl rfl (RV.extract rfl rfl) ?_
      refine LW.pure rfl rfl (RV.extract rfl rfl) ?_
      refine LW.go rfl rfl (OW.alloc Tz24 fun b2 w4 N2 => ?_)
      replace H := H.new N2 N2.blk
      replace R0 := H.ext
      refine LW.go rfl rfl (OW.store Tk24 rfl rfl (H.blk 0 rfl) (off := 0) (vs := [.int .i64 r1.1.layers, .slice A19_0_bounds r1.1.bounds.length c19_0_bounds]) rfl rfl rfl rfl rfl fun w5 S1 => ?_)
      replace H : Hp w w5 [.blk b2 24 [.int .i64 r1.1.layers, .slice A19_0_bounds r1.1.bounds.length c19_0_bounds], .own A19_0_bounds c19_0_bounds 26 3 (List.map encBound r1.1.bounds), .blk b1 24 [.int .i64 a0.layers, .slice A_a0_bounds a0.bounds.length c_a0_bounds]] := H.stored 0 rfl S1
      replace R0 := H.ext
      refine LW.pure rfl rfl (RV.assign rfl) ?_
      refine LW.nil (hK4 _ _ ?_)
      refine CW.seq fun K5 hK5 => ?_
      obtain ⟨r10, hr10, F⟩ := bnd_some F
      refine CW.region ?_
      refine LW.pure rfl rfl (RV.loadA [.int .i64 a0.layers, .slice A_a0_bounds a0.bounds.length c_a0_bounds] Tk24 rfl (H.blk 2 rfl).cells rfl rfl) ?_
      refine LW.go rfl rfl (OW.call Tc31 rfl (ref03_Turn_ok (a0 := a0) (h_a0_bounds.ext R0) hr10) ?_)
      rintro _ w6 ⟨A21_0_bounds, c21_0_bounds, rfl, E3⟩
      refine ⟨_, rfl, ?_⟩
      replace H : Hp w w6 [.own A21_0_bounds c21_0_bounds 26 3 (List.map encBound r10.1.bounds), .blk b2 24 [.int .i64 r1.1.layers, .slice A19_0_bounds r1.1.bounds.length c19_0_bounds], .own A19_0_bounds c19_0_bounds 26 3 (List.map encBound r1.1.bounds), .blk b1 24 [.int .i64 a0.layers, .slice A_a0_bounds a0.bounds.length c_a0_bounds]] := H.append E3
      replace R0 := H.ext
      refine LW.pure rfl rfl (RV.move rfl) ?_
      refine LW.pure rfl rfl (RV.extract rfl rfl) ?_
      refine LW.pure rfl rfl (RV.extract rfl rfl) ?_
      refine LW.go rfl rfl (OW.alloc Tz24 fun b3 w7 N3 => ?_)
      replace H := H.new N3 N3.blk
      replace R0 := H.ext
      refine LW.go rfl rfl (OW.store Tk24 rfl rfl (H.blk 0 rfl) (off := 0) (vs := [.int .i64 r10.1.layers, .slice A21_0_bounds r10.1.bounds.length c21_0_bounds]) rfl rfl rfl rfl rfl fun w8 S2 => ?_)
      replace H : Hp w w8 [.blk b3 24 [.int .i64 r10.1.layers, .slice A21_0_bounds r10.1.bounds.length c21_0_bounds], .own A21_0_bounds c21_0_bounds 26 3 (List.map encBound r10.1.bounds), .blk b2 24 [.int .i64 r1.1.layers, .slice A19_0_bounds r1.1.bounds.length c19_0_bounds], .own A19_0_bounds c19_0_bounds 26 3 (List.map encBound r1.1.bounds), .blk b1 24 [.int .i64 a0.layers, .slice A_a0_bounds a0.bounds.length c_a0_bounds]] := H.stored 0 rfl S2
      replace R0 := H.ext
      refine LW.pure rfl rfl (RV.assign rfl) ?_
      refine LW.nil (hK5 _ _ ?_)
      refine CW.seq fun K6 hK6 => ?_
      refine CW.seqJ (fun ρ wl2 => (∃ (t40_1 : Bool), law03_CoreTurns_k3 a0 a1 r1 t40_1 = some res ∧ ρ = [(1, .slice A_a1 a1.length c_a1), (2, .pointer (some (⟨b1, 0, none⟩))), (4, .bool false), (5, .pointer (some (⟨b2, 0, none⟩))), (6, .int .i64 r1.2), (40, .bool t40_1)] ∧ Hp w wl2 [.own A19_0_bounds c19_0_bounds 26 3 (List.map encBound r1.1.bounds), .blk b1 24 [.int .i64 a0.layers, .slice A_a0_bounds a0.bounds.length c_a0_bounds], .blk b2 24 [.int .i64 r1.1.layers, .slice A19_0_bounds r1.1.bounds.length c19_0_bounds]])) ?_ ?_
      ·
        rintro _ wl2 ⟨t40_1, F, rfl, H⟩
        have R0 := H.ext
        unfold law03_CoreTurns_k3 at F
        by_cases hp2 : t40_1 = true
        ·
          replace F := ite_y hp2 F
          have hq2 : t40_1 = true := hp2
          refine CW.condT rfl hq2 ?_
          refine CW.seq fun K7 hK7 => ?_
          refine CW.region ?_
          refine LW.pure rfl rfl (RV.assign rfl) ?_
          refine LW.nil (hK7 _ _ ?_)
          refine CW.ret ?_
          obtain rfl := Option.some.inj F
          refine ⟨_, (ResOK.one rfl), ?_⟩
          refine ⟨(by first | rfl | simp), R0⟩
        ·
          replace F := ite_n hp2 F
          have hq2 : t40_1 = false := raw_f hp2
          refine CW.condF rfl hq2 ?_
          refine CW.skip (hK6 _ _ ?_)
          refine CW.seq fun K8 hK8 => ?_
          refine CW.seq fun K9 hK9 => ?_
          refine CW.region ?_
          refine LW.pure rfl rfl (RV.move rfl) ?_
          refine LW.pure rfl rfl (RV.nei rfl rfl) ?_
          refine LW.nil (hK9 _ _ ?_)
          by_cases hp3 : r1.2 = 0
          ·
            replace F := ite_y hp3 F
            have hq3 := dec_t hp3
            refine CW.condF rfl (not_f hq3) ?_
            refine CW.skip (hK8 _ _ ?_)
            refine CW.seq fun K10 hK10 => ?_
            obtain ⟨r2, hr2, F⟩ := bnd_some F
            refine CW.region ?_
            refine LW.pure rfl rfl (RV.loadA [.int .i64 a0.layers, .slice A_a0_bounds a0.bounds.length c_a0_bounds] Tk24 rfl (H.blk 1 rfl).cells rfl rfl) ?_
            refine LW.pure rfl rfl (RV.move rfl) ?_
            refine LW.go rfl rfl (OW.call Tc33 rfl (core_CheckDates_ok (a0 := a0) (a1 := a1) (h_a0_bounds.ext R0) (h_a1.ext R0) hr2) ?_)
            rintro _ w9 ⟨rfl, E4⟩
            refine ⟨_, rfl, ?_⟩
            replace H := H.grow E4
            replace R0 := H.ext
            refine LW.pure rfl rfl (RV.assign rfl) ?_
            refine LW.nil (hK10 _ _ ?_)
            refine CW.seq fun K11 hK11 => ?_
            refine CW.seqJ (fun ρ wl3 => (∃ (t52_1 : Bool), law03_CoreTurns_k2 a0 a1 r1 r2 t52_1 = some res ∧ ρ = [(1, .slice A_a1 a1.length c_a1), (2, .pointer (some (⟨b1, 0, none⟩))), (4, .bool false), (5, .pointer (some (⟨b2, 0, none⟩))), (9, .int .i64 r2), (52, .bool t52_1)] ∧ Hp w wl3 [.own A19_0_bounds c19_0_bounds 26 3 (List.map encBound r1.1.bounds), .blk b1 24 [.int .i64 a0.layers, .slice A_a0_bounds a0.bounds.length c_a0_bounds], .blk b2 24 [.int .i64 r1.1.layers, .slice A19_0_bounds r1.1.bounds.length c19_0_bounds]])) ?_ ?_
            ·
              rintro _ wl3 ⟨t52_1, F, rfl, H⟩
              have R0 := H.ext
              unfold law03_CoreTurns_k2 at F
              by_cases hp4 : t52_1 = true
              ·
                replace F := ite_y hp4 F
                have hq4 : t52_1 = true := hp4
                refine CW.condT rfl hq4 ?_
                refine CW.seq fun K12 hK12 => ?_
                obtain ⟨r7, hr7, F⟩ := bnd_some F
                refine CW.region ?_
                refine LW.go rfl rfl (OW.call Tc18 rfl (law03_known_ok hr7) ?_)
                rintro _ w10 ⟨rfl, E5⟩
                refine ⟨_, rfl, ?_⟩
                replace H := H.grow E5
                replace R0 := H.ext
                refine LW.pure rfl rfl (RV.assign rfl) ?_
                refine LW.nil (hK12 _ _ ?_)
                refine CW.ret ?_
                obtain rfl := Option.some.inj F
                refine ⟨_, (ResOK.one rfl), ?_⟩
                refine ⟨(by first | rfl | simp), R0⟩
              ·
                replace F := ite_n hp4 F
                have hq4 : t52_1 = false := raw_f hp4
                refine CW.condF rfl hq4 ?_
                refine CW.skip (hK11 _ _ ?_)
                refine CW.seq fun K13 hK13 => ?_
                refine CW.region ?_
                refine LW.pure rfl rfl (RV.assign rfl) ?_
                refine LW.nil (hK13 _ _ ?_)
                refine CW.seqJ (fun ρ wl4 => (∃ (l1 : List Int) (Al1 : Option Addr) (cl1 : Nat), law03_CoreTurns_k1 a0 r1 r2 l1 = some res ∧ ρ = [(2, .pointer (some (⟨b1, 0, none⟩))), (4, .bool false), (5, .pointer (some (⟨b2, 0, none⟩))), (9, .int .i64 r2), (10, .slice Al1 l1.length cl1)] ∧ Hp w wl4 [.own Al1 cl1 3 1 (List.map encN l1), .own A19_0_bounds c19_0_bounds 26 3 (List.map encBound r1.1.bounds), .blk b1 24 [.int .i64 a0.layers, .slice A_a0_bounds a0.bounds.length c_a0_bounds], .blk b2 24 [.int .i64 r1.1.layers, .slice A19_0_bounds r1.1.bounds.length c19_0_bounds]])) ?_ ?_
                ·
                  rintro _ wl4 ⟨l1, Al1, cl1, F, rfl, H⟩
                  have R0 := H.ext
                  unfold law03_CoreTurns_k1 at F
                  refine CW.seq fun K14 hK14 => ?_
                  obtain ⟨r3, hr3, F⟩ := bnd_some F
                  refine CW.region ?_
                  refine LW.pure rfl rfl (RV.loadA [.int .i64 r1.1.layers, .slice A19_0_bounds r1.1.bounds.length c19_0_bounds] Tk24 rfl (H.blk 3 rfl).cells rfl rfl) ?_
                  refine LW.go rfl rfl (OW.call Tc30 rfl (core_Turn_ok (a0 := r1.1) (H.own 1 rfl).sl hr3) ?_)
                  rintro _ w11 ⟨A28_0_bounds, c28_0_bounds, rfl, E6⟩
                  refine ⟨_, rfl, ?_⟩
                  replace H : Hp w w11 [.own A28_0_bounds c28_0_bounds 26 3 (List.map encBound r3.1.bounds), .own Al1 cl1 3 1 (List.map encN l1), .own A19_0_bounds c19_0_bounds 26 3 (List.map encBound r1.1.bounds), .blk b1 24 [.int .i64 a0.layers, .slice A_a0_bounds a0.bounds.length c_a0_bounds], .blk b2 24 [.int .i64 r1.1.layers, .slice A19_0_bounds r1.1.bounds.length c19_0_bounds]] := H.append E6
                  replace R0 := H.ext
                  refine LW.pure rfl rfl (RV.move rfl) ?_
                  refine LW.pure rfl rfl (RV.extract rfl rfl) ?_
                  refine LW.pure rfl rfl (RV.extract rfl rfl) ?_
                  refine LW.go rfl rfl (OW.alloc Tz24 fun b4 w12 N4 => ?_)
                  replace H := H.new N4 N4.blk
                  replace R0 := H.ext
                  refine LW.go rfl rfl (OW.store Tk24 rfl rfl (H.blk 0 rfl) (off := 0) (vs := [.int .i64 r3.1.layers, .slice A28_0_bounds r3.1.bounds.length c28_0_bounds]) rfl rfl rfl rfl rfl fun w13 S3 => ?_)
                  replace H : Hp w w13 [.blk b4 24 [.int .i64 r3.1.layers, .slice A28_0_bounds r3.1.bounds.length c28_0_bounds], .own A28_0_bounds c28_0_bounds 26 3 (List.map encBound r3.1.bounds), .own Al1 cl1 3 1 (List.map encN l1), .own A19_0_bounds c19_0_bounds 26 3 (List.map encBound r1.1.bounds), .blk b1 24 [.int .i64 a0.layers, .slice A_a0_bounds a0.bounds.length c_a0_bounds], .blk b2 24 [.int .i64 r1.1.layers, .slice A19_0_bounds r1.1.bounds.length c19_0_bounds]] := H.stored 0 rfl S3
                  replace R0 := H.ext
                  refine LW.pure rfl rfl (RV.assign rfl) ?_
                  refine LW.nil (hK14 _ _ ?_)
                  refine CW.seq fun K15 hK15 => ?_
                  obtain ⟨r4, hr4, F⟩ := bnd_some F
                  by_cases hp5 : r4 = r2
                  ·
                    replace F := ite_y hp5 F
                    have hq5 := dec_t hp5
                    by_cases hp6 : r3.2 = 0
                    ·
                      replace F := ite_y hp6 F
                      have hq6 := dec_t hp6
                      obtain ⟨r5, hr5, F⟩ := bnd_some F
                      by_cases hp7 : r5 = true
                      ·
                        replace F := ite_y hp7 F
                        have hq7 : r5 = true := hp7
                        obtain ⟨r6, hr6, F⟩ := bnd_some F
                        refine CW.region ?_
                        refine LW.pure rfl rfl (RV.loadA [.int .i64 r1.1.layers, .slice A19_0_bounds r1.1.bounds.length c19_0_bounds] Tk24 rfl (H.blk 5 rfl).cells rfl rfl) ?_
                        refine LW.pure rfl rfl (RV.move rfl) ?_
                        refine LW.go rfl rfl (OW.call Tc33 rfl (core_CheckDates_ok (a0 := r1.1) (a1 := l1) (H.own 3 rfl).sl (H.own 2 rfl).sl hr4) ?_)
                        rintro _ w14 ⟨rfl, E7⟩
                        refine ⟨_, rfl, ?_⟩
                        replace H := H.grow E7
                        replace R0 := H.ext
                        refine LW.pure rfl rfl (RV.move rfl) ?_
                        refine LW.pure rfl rfl (RV.eqi rfl rfl) ?_
                        refine LW.pure rfl rfl (RV.move rfl) ?_
                        refine LW.pureYB rfl rfl rfl rfl hq5 (RV.move rfl) ?_
                        refine LW.pureYB rfl rfl rfl rfl hq5 (RV.eqi rfl rfl) ?_
                        refine LW.pure rfl rfl (RV.pickTB rfl hq5 rfl) ?_
                        refine LW.pure rfl rfl (RV.move rfl) ?_
                        refine LW.pureYB rfl rfl rfl rfl hq6 (RV.loadA [.int .i64 r3.1.layers, .slice A28_0_bounds r3.1.bounds.length c28_0_bounds] Tk24 rfl (H.blk 0 rfl).cells rfl rfl) ?_
                        refine LW.pureYB rfl rfl rfl rfl hq6 (RV.loadA [.int .i64 a0.layers, .slice A_a0_bounds a0.bounds.length c_a0_bounds] Tk24 rfl (H.blk 4 rfl).cells rfl rfl) ?_
                        refine LW.yesB rfl rfl rfl rfl hq6 (OW.call Tc32 rfl (ref03_Equal_ok (a0 := r3.1) (a1 := a0) (H.own 1 rfl).sl (h_a0_bounds.ext R0) hr5) ?_)
                        rintro _ w15 ⟨rfl, E8⟩
                        refine ⟨_, rfl, ?_⟩
                        replace H := H.grow E8
                        replace R0 := H.ext
                        refine LW.pure rfl rfl (RV.pickTB rfl hq6 rfl) ?_
                        refine LW.pure rfl rfl (RV.move rfl) ?_
                        refine LW.yesB rfl rfl rfl rfl hq7 (OW.call Tc18 rfl (law03_known_ok hr6) ?_)
                        rintro _ w16 ⟨rfl, E9⟩
                        refine ⟨_, rfl, ?_⟩
                        replace H := H.grow E9
                        replace R0 := H.ext
                        refine LW.pure rfl rfl (RV.pickTB rfl hq7 rfl) ?_
                        refine LW.pure rfl rfl (RV.assign rfl) ?_
                        refine LW.nil (hK15 _ _ ?_)
                        refine CW.ret ?_
                        obtain rfl := Option.some.inj F
                        refine ⟨_, (ResOK.one rfl), ?_⟩
                        refine ⟨(by first | rfl | simp), R0⟩
                      ·
                        replace F := ite_n hp7 F
                        have hq7 : r5 = false := raw_f hp7
                        refine CW.region ?_
                        refine LW.pure rfl rfl (RV.loadA [.int .i64 r1.1.layers, .slice A19_0_bounds r1.1.bounds.length c19_0_bounds] Tk24 rfl (H.blk 5 rfl).cells rfl rfl) ?_
                        refine LW.pure rfl rfl (RV.move rfl) ?_
                        refine LW.go rfl rfl (OW.call Tc33 rfl (core_CheckDates_ok (a0 := r1.1) (a1 := l1) (H.own 3 rfl).sl (H.own 2 rfl).sl hr4) ?_)
                        rintro _ w17 ⟨rfl, E10⟩
                        refine ⟨_, rfl, ?_⟩
                        replace H := H.grow E10
                        replace R0 := H.ext
                        refine LW.pure rfl rfl (RV.move rfl) ?_
                        refine LW.pure rfl rfl (RV.eqi rfl rfl) ?_
                        refine LW.pure rfl rfl (RV.move rfl) ?_
                        refine LW.pureYB rfl rfl rfl rfl hq5 (RV.move rfl) ?_
                        refine LW.pureYB rfl rfl rfl rfl hq5 (RV.eqi rfl rfl) ?_
                        refine LW.pure rfl rfl (RV.pickTB rfl hq5 rfl) ?_
                        refine LW.pure rfl rfl (RV.move rfl) ?_
                        refine LW.pureYB rfl rfl rfl rfl hq6 (RV.loadA [.int .i64 r3.1.layers, .slice A28_0_bounds r3.1.bounds.length c28_0_bounds] Tk24 rfl (H.blk 0 rfl).cells rfl rfl) ?_
                        refine LW.pureYB rfl rfl rfl rfl hq6 (RV.loadA [.int .i64 a0.layers, .slice A_a0_bounds a0.bounds.length c_a0_bounds] Tk24 rfl (H.blk 4 rfl).cells rfl rfl) ?_
                        refine LW.yesB rfl rfl rfl rfl hq6 (OW.call Tc32 rfl (ref03_Equal_ok (a0 := r3.1) (a1 := a0) (H.own 1 rfl).sl (h_a0_bounds.ext R0) hr5) ?_)
                        rintro _ w18 ⟨rfl, E11⟩
                        refine ⟨_, rfl, ?_⟩
                        replace H := H.grow E11
                        replace R0 := H.ext
                        refine LW.pure rfl rfl (RV.pickTB rfl hq6 rfl) ?_
                        refine LW.pure rfl rfl (RV.move rfl) ?_
                        refine LW.noB rfl rfl rfl rfl (ne_beq (v := false) hq7 rfl) ?_
                        refine LW.pure rfl rfl (RV.pickFB rfl hq7 rfl) ?_
                        refine LW.pure rfl rfl (RV.assign rfl) ?_
                        refine LW.nil (hK15 _ _ ?_)
                        refine CW.ret ?_
                        obtain rfl := Option.some.inj F
                        refine ⟨_, (ResOK.one rfl), ?_⟩
                        refine ⟨(by first | rfl | simp), R0⟩
                    ·
                      replace F := ite_n hp6 F
                      have hq6 := dec_f hp6
                      refine CW.region ?_
                      refine LW.pure rfl rfl (RV.loadA [.int .i64 r1.1.layers, .slice A19_0_bounds r1.1.bounds.length c19_0_bounds] Tk24 rfl (H.blk 5 rfl).cells rfl rfl) ?_
                      refine LW.pure rfl rfl (RV.move rfl) ?_
                      refine LW.go rfl rfl (OW.call Tc33 rfl (core_CheckDates_ok (a0 := r1.1) (a1 := l1) (H.own 3 rfl).sl (H.own 2 rfl).sl hr4) ?_)
                      rintro _ w19 ⟨rfl, E12⟩
                      refine ⟨_, rfl, ?_⟩
                      replace H := H.grow E12
                      replace R0 := H.ext
                      refine LW.pure rfl rfl (RV.move rfl) ?_
                      refine LW.pure rfl rfl (RV.eqi rfl rfl) ?_
                      refine LW.pure rfl rfl (RV.move rfl) ?_
                      refine LW.pureYB rfl rfl rfl rfl hq5 (RV.move rfl) ?_
                      refine LW.pureYB rfl rfl rfl rfl hq5 (RV.eqi rfl rfl) ?_
                      refine LW.pure rfl rfl (RV.pickTB rfl hq5 rfl) ?_
                      refine LW.pure rfl rfl (RV.move rfl) ?_
                      refine LW.noB rfl rfl rfl rfl (ne_beq (v := false) hq6 rfl) ?_
                      refine LW.noB rfl rfl rfl rfl (ne_beq (v := false) hq6 rfl) ?_
                      refine LW.noB rfl rfl rfl rfl (ne_beq (v := false) hq6 rfl) ?_
                      refine LW.pure rfl rfl (RV.pickFB rfl hq6 rfl) ?_
                      refine LW.pure rfl rfl (RV.move rfl) ?_
                      refine LW.noB rfl rfl rfl rfl (ne_beq (v := false) rfl rfl) ?_
                      refine LW.pure rfl rfl (RV.pickFB rfl rfl rfl) ?_
                      refine LW.pure rfl rfl (RV.assign rfl) ?_
                      refine LW.nil (hK15 _ _ ?_)
                      refine CW.ret ?_
                      obtain rfl := Option.some.inj F
                      refine ⟨_, (ResOK.one rfl), ?_⟩
                      refine ⟨(by first | rfl | simp), R0⟩
                  ·
                    replace F := ite_n hp5 F
                    have hq5 := dec_f hp5
                    refine CW.region ?_
                    refine LW.pure rfl rfl (RV.loadA [.int .i64 r1.1.layers, .slice A19_0_bounds r1.1.bounds.length c19_0_bounds] Tk24 rfl (H.blk 5 rfl).cells rfl rfl) ?_
                    refine LW.pure rfl rfl (RV.move rfl) ?_
                    refine LW.go rfl rfl (OW.call Tc33 rfl (core_CheckDates_ok (a0 := r1.1) (a1 := l1) (H.own 3 rfl).sl (H.own 2 rfl).sl hr4) ?_)
                    rintro _ w20 ⟨rfl, E13⟩
                    refine ⟨_, rfl, ?_⟩
                    replace H := H.grow E13
                    replace R0 := H.ext
                    refine LW.pure rfl rfl (RV.move rfl) ?_
                    refine LW.pure rfl rfl (RV.eqi rfl rfl) ?_
                    refine LW.pure rfl rfl (RV.move rfl) ?_
                    refine LW.noB rfl rfl rfl rfl (ne_beq (v := false) hq5 rfl) ?_
                    refine LW.noB rfl rfl rfl rfl (ne_beq (v := false) hq5 rfl) ?_
                    refine LW.pure rfl rfl (RV.pickFB rfl hq5 rfl) ?_
                    refine LW.pure rfl rfl (RV.move rfl) ?_
                    refine LW.noB rfl rfl rfl rfl (ne_beq (v := false) rfl rfl) ?_
                    refine LW.noB rfl rfl rfl rfl (ne_beq (v := false) rfl rfl) ?_
                    refine LW.noB rfl rfl rfl rfl (ne_beq (v := false) rfl rfl) ?_
                    refine LW.pure rfl rfl (RV.pickFB rfl rfl rfl) ?_
                    refine LW.pure rfl rfl (RV.move rfl) ?_
                    refine LW.noB rfl rfl rfl rfl (ne_beq (v := false) rfl rfl) ?_
                    refine LW.pure rfl rfl (RV.pickFB rfl rfl rfl) ?_
                    refine LW.pure rfl rfl (RV.assign rfl) ?_
                    refine LW.nil (hK15 _ _ ?_)
                    refine CW.ret ?_
                    obtain rfl := Option.some.inj F
                    refine ⟨_, (ResOK.one rfl), ?_⟩
                    refine ⟨(by first | rfl | simp), R0⟩
                ·
                  intro K16 hK16 jK66
                  refine CW.seq fun K17 hK17 => ?_
                  refine CW.region ?_
                  refine LW.pure rfl rfl (RV.assign rfl) ?_
                  refine LW.nil (hK17 _ _ ?_)
                  refine CW.block ?_
                  replace H := H.nilOwn 3 1
                  replace R0 := H.ext
                  refine CW.loop (fun meas ρ wl5 => ∃ (t11_1 : Int) (l2 : List Int) (Al2 : Option Addr) (cl2 : Nat), law03_CoreTurns_L1 a0 a1 r1 r2 meas t11_1 l2 = some res ∧ ρ = [(1, .slice A_a1 a1.length c_a1), (2, .pointer (some (⟨b1, 0, none⟩))), (4, .bool false), (5, .pointer (some (⟨b2, 0, none⟩))), (9, .int .i64 r2), (10, .slice Al2 l2.length cl2), (11, .int .i64 t11_1)] ∧ Hp w wl5 [.own Al2 cl2 3 1 (List.map encN l2), .own A19_0_bounds c19_0_bounds 26 3 (List.map encBound r1.1.bounds), .blk b1 24 [.int .i64 a0.layers, .slice A_a0_bounds a0.bounds.length c_a0_bounds], .blk b2 24 [.int .i64 r1.1.layers, .slice A19_0_bounds r1.1.bounds.length c19_0_bounds]]) FU ⟨_, ?_, ((0 : Int)), (([] : List Int)), none, 0, F, rfl, H⟩ ?_
                  · exact ⟨rfl, rfl, rfl, rfl, rfl, (look_slice rfl (by first | rfl | (simp; done) | (simp; omega))), rfl, trivial⟩
                  rintro mk1 _ wl5 ⟨t11_1, l2, Al2, cl2, F, rfl, H⟩
                  have R0 := H.ext
                  replace F := law03_CoreTurns_L1_s F
                  obtain ⟨mk1, rfl, F⟩ := F
                  generalize hrec1 : law03_CoreTurns_L1 a0 a1 r1 r2 mk1 = rec1 at F
                  unfold law03_CoreTurns_B1 at F
                  refine CW.seq fun K18 hK18 => ?_
                  refine CW.seq fun K19 hK19 => ?_
                  refine CW.region ?_
                  refine LW.pure rfl rfl (RV.move rfl) ?_
                  refine LW.pure rfl rfl (RV.move rfl) ?_
                  refine LW.pure rfl rfl (RV.len Ts43 rfl) ?_
                  refine LW.pure rfl rfl (RV.lss rfl rfl) ?_
                  refine LW.nil (hK19 _ _ ?_)
                  by_cases hp8 : t11_1 < ((a1.length : Int))
                  ·
                    replace F := ite_y hp8 F
                    have hq8 := dec_t hp8
                    refine CW.condT rfl hq8 ?_
                    refine CW.skip (hK18 _ _ ?_)
                    refine CW.seq fun K20 hK20 => ?_
                    refine CW.block ?_
                    obtain ⟨x1, hbx1, hx1, F⟩ := ix_some F
                    obtain ⟨hg1, F⟩ := gd_some F
                    obtain ⟨hg2, F⟩ := gd_some F
                    refine CW.region ?_
                    refine LW.pure rfl rfl (RV.move rfl) ?_
                    refine LW.pure rfl rfl (RV.move rfl) ?_
                    refine LW.pure rfl rfl (RV.move rfl) ?_
                    refine LW.pure rfl rfl (RV.indexAddr Ts43 rfl rfl hbx1 (h_a1.addr_ hx1)) ?_
                    refine LW.pure rfl rfl (RV.load1 Tk3 rfl ((h_a1.at_ hx1).ext R0) rfl) ?_
                    refine LW.pure rfl rfl (RV.neg rfl hg1) ?_
                    refine LW.go rfl rfl (OW.buildSlice (e := 3) (vs := [.int .i64 (-x1)]) (cs := [.int .i64 (-x1)]) rfl (fun _ => by kernel_rfl) fun b5 w21 N5 => ?_)
                    replace H := H.made' (k := 1) (t := 3) (enc := encN) (l := ([-x1] : List Int)) N5 N5.blk (fun _ => rfl) rfl (by first | decide | omega | (simp; done) | (simp; omega))
                    replace R0 := H.ext
                    refine LW.go rfl rfl (OW.appendG (enc := encN) (l := l2) (xs := ([-x1] : List Int)) Ts43 rfl (look_slice rfl (by first | rfl | (simp; done) | (simp; omega))) (H.own 1 rfl) (H.own 0 rfl).sl (fun _ => rfl) rfl rfl hg2 (by decide) fun A1 c1 w22 O1 M1 D1 => ?_)
                    replace H : Hp w w22 [.own (some ⟨b5, 0, none⟩) ((([-x1] : List Int)).length) 3 1 (List.map encN (([-x1] : List Int))), .own A1 c1 3 1 (List.map encN ((l2 ++ ([-x1] : List Int)))), .own A19_0_bounds c19_0_bounds 26 3 (List.map encBound r1.1.bounds), .blk b1 24 [.int .i64 a0.layers, .slice A_a0_bounds a0.bounds.length c_a0_bounds], .blk b2 24 [.int .i64 r1.1.layers, .slice A19_0_bounds r1.1.bounds.length c19_0_bounds]] := H.mod 1 rfl M1 O1 D1
                    replace R0 := H.ext
                    refine LW.pure rfl rfl (RV.assign rfl) ?_
                    refine LW.nil (hK20 _ _ ?_)
                    obtain ⟨hg3, F⟩ := gd_some F
                    refine CW.region ?_
                    refine LW.pure rfl rfl (RV.move rfl) ?_
                    refine LW.pure rfl rfl (RV.add rfl rfl hg3) ?_
                    refine LW.pure rfl rfl (RV.assign rfl) ?_
                    refine LW.nil ?_
                    replace H := H.pick (L' := [.own A1 c1 3 1 (List.map encN ((l2 ++ ([-x1] : List Int)))), .own A19_0_bounds c19_0_bounds 26 3 (List.map encBound r1.1.bounds), .blk b1 24 [.int .i64 a0.layers, .slice A_a0_bounds a0.bounds.length c_a0_bounds], .blk b2 24 [.int .i64 r1.1.layers, .slice A19_0_bounds r1.1.bounds.length c19_0_bounds]]) [1, 2, 3, 4] (by decide) rfl
                    replace R0 := H.ext
                    subst hrec1
                    refine ⟨mk1, Nat.lt_succ_self _, _, ?_, (t11_1 + 1), ((l2 ++ ([-x1] : List Int))), A1, c1, F, rfl, H⟩
                    exact ⟨rfl, rfl, rfl, rfl, rfl, (look_slice rfl (by first | rfl | (simp; done) | (simp; omega))), rfl, trivial⟩
                  ·
                    replace F := ite_n hp8 F
                    have hq8 := dec_f hp8
                    refine CW.condF rfl hq8 ?_
                    refine CW.exit (jK66 _ _ ⟨_, ?_, ⟨l2, Al2, cl2, F, rfl, H⟩⟩)
                    exact ⟨rfl, rfl, rfl, rfl, (look_slice rfl (by first | rfl | (simp; done) | (simp; omega))), trivial⟩
            ·
              intro K21 hK21 jK77
              by_cases hp9 : r2 = 0
              ·
                replace F := ite_y hp9 F
                have hq9 := dec_t hp9
                refine CW.region ?_
                refine LW.pure rfl rfl (RV.move rfl) ?_
                refine LW.pure rfl rfl (RV.nei rfl rfl) ?_
                refine LW.pure rfl rfl (RV.move rfl) ?_
                refine LW.noB rfl rfl rfl rfl (ne_beq (v := false) (not_f hq9) rfl) ?_
                refine LW.noB rfl rfl rfl rfl (ne_beq (v := false) (not_f hq9) rfl) ?_
                refine LW.pure rfl rfl (RV.pickFB rfl (not_f hq9) rfl) ?_
                refine LW.nil (jK77 _ _ ⟨_, ?_, ⟨false, F, rfl, H⟩⟩)
                exact ⟨rfl, rfl, rfl, rfl, rfl, rfl, trivial⟩
              ·
                replace F := ite_n hp9 F
                have hq9 := dec_f hp9
                refine CW.region ?_
                refine LW.pure rfl rfl (RV.move rfl) ?_
                refine LW.pure rfl rfl (RV.nei rfl rfl) ?_
                refine LW.pure rfl rfl (RV.move rfl) ?_
                refine LW.pureYB rfl rfl rfl rfl (not_t hq9) (RV.move rfl) ?_
                refine LW.pureYB rfl rfl rfl rfl (not_t hq9) (RV.nei rfl rfl) ?_
                refine LW.pure rfl rfl (RV.pickTB rfl (not_t hq9) rfl) ?_
                refine LW.nil (jK77 _ _ ⟨_, ?_, ⟨(!(decide (r2 = 7))), F, rfl, H⟩⟩)
                exact ⟨rfl, rfl, rfl, rfl, rfl, rfl, trivial⟩
          ·
            replace F := ite_n hp3 F
            have hq3 := dec_f hp3
            refine CW.condT rfl (not_t hq3) ?_
            refine CW.seq fun K22 hK22 => ?_
            obtain ⟨r8, hr8, F⟩ := bnd_some F
            refine CW.region ?_
            refine LW.go rfl rfl (OW.call Tc18 rfl (law03_known_ok hr8) ?_)
            rintro _ w23 ⟨rfl, E14⟩
            refine ⟨_, rfl, ?_⟩
            replace H := H.grow E14
            replace R0 := H.ext
            refine LW.pure rfl rfl (RV.assign rfl) ?_
            refine LW.nil (hK22 _ _ ?_)
            refine CW.ret ?_
            obtain rfl := Option.some.inj F
            refine ⟨_, (ResOK.one rfl), ?_⟩
            refine ⟨(by first | rfl | simp), R0⟩
      ·
        intro K23 hK23 jK79
        obtain ⟨r11, hr11, F⟩ := bnd_some F
        by_cases hp10 : r11 = true
        ·
          replace F := ite_y hp10 F
          have hq10 : r11 = true := hp10
          refine CW.region ?_
          refine LW.pure rfl rfl (RV.loadA [.int .i64 r1.1.layers, .slice A19_0_bounds r1.1.bounds.length c19_0_bounds] Tk24 rfl (H.blk 2 rfl).cells rfl rfl) ?_
          refine LW.pure rfl rfl (RV.loadA [.int .i64 r10.1.layers, .slice A21_0_bounds r10.1.bounds.length c21_0_bounds] Tk24 rfl (H.blk 0 rfl).cells rfl rfl) ?_
          refine LW.go rfl rfl (OW.call Tc32 rfl (ref03_Equal_ok (a0 := r1.1) (a1 := r10.1) (H.own 3 rfl).sl (H.own 1 rfl).sl hr11) ?_)
          rintro _ w24 ⟨rfl, E15⟩
          refine ⟨_, rfl, ?_⟩
          replace H := H.grow E15
          replace R0 := H.ext
          refine LW.pure rfl rfl (RV.not rfl) ?_
          refine LW.pure rfl rfl (RV.move rfl) ?_
          refine LW.pureYB rfl rfl rfl rfl (not_f hq10) (RV.move rfl) ?_
          refine LW.pureYB rfl rfl rfl rfl (not_f hq10) (RV.move rfl) ?_
          refine LW.pureYB rfl rfl rfl rfl (not_f hq10) (RV.nei rfl rfl) ?_
          refine LW.pure rfl rfl (RV.pickFB rfl (not_f hq10) rfl) ?_
          replace H := H.pick (L' := [.own A19_0_bounds c19_0_bounds 26 3 (List.map encBound r1.1.bounds), .blk b1 24 [.int .i64 a0.layers, .slice A_a0_bounds a0.bounds.length c_a0_bounds], .blk b2 24 [.int .i64 r1.1.layers, .slice A19_0_bounds r1.1.bounds.length c19_0_bounds]]) [3, 4, 2] (by decide) rfl
          replace R0 := H.ext
          refine LW.nil (jK79 _ _ ⟨_, ?_, ⟨(!(decide (r1.2 = r10.2))), F, rfl, H⟩⟩)
          exact ⟨rfl, rfl, rfl, rfl, rfl, rfl, trivial⟩
        ·
          replace F := ite_n hp10 F
          have hq10 : r11 = false := raw_f hp10
          refine CW.region ?_
          refine LW.pure rfl rfl (RV.loadA [.int .i64 r1.1.layers, .slice A19_0_bounds r1.1.bounds.length c19_0_bounds] Tk24 rfl (H.blk 2 rfl).cells rfl rfl) ?_
          refine LW.pure rfl rfl (RV.loadA [.int .i64 r10.1.layers, .slice A21_0_bounds r10.1.bounds.length c21_0_bounds] Tk24 rfl (H.blk 0 rfl).cells rfl rfl) ?_
          refine LW.go rfl rfl (OW.call Tc32 rfl (ref03_Equal_ok (a0 := r1.1) (a1 := r10.1) (H.own 3 rfl).sl (H.own 1 rfl).sl hr11) ?_)
          rintro _ w25 ⟨rfl, E16⟩
          refine ⟨_, rfl, ?_⟩
          replace H := H.grow E16
          replace R0 := H.ext
          refine LW.pure rfl rfl (RV.not rfl) ?_
          refine LW.pure rfl rfl (RV.move rfl) ?_
          refine LW.noB rfl rfl rfl rfl (ne_beq (v := true) (not_t hq10) rfl) ?_
          refine LW.noB rfl rfl rfl rfl (ne_beq (v := true) (not_t hq10) rfl) ?_
          refine LW.noB rfl rfl rfl rfl (ne_beq (v := true) (not_t hq10) rfl) ?_
          refine LW.pure rfl rfl (RV.pickTB rfl (not_t hq10) rfl) ?_
          replace H := H.pick (L' := [.own A19_0_bounds c19_0_bounds 26 3 (List.map encBound r1.1.bounds), .blk b1 24 [.int .i64 a0.layers, .slice A_a0_bounds a0.bounds.length c_a0_bounds], .blk b2 24 [.int .i64 r1.1.layers, .slice A19_0_bounds r1.1.bounds.length c19_0_bounds]]) [3, 4, 2] (by decide) rfl
          replace R0 := H.ext
          refine LW.nil (jK79 _ _ ⟨_, ?_, ⟨true, F, rfl, H⟩⟩)
          exact ⟨rfl, rfl, rfl, rfl, rfl, rfl, trivial⟩
  ·
    intro K24 hK24 jK80
    obtain ⟨r12, hr12, F⟩ := bnd_some F
    by_cases hp11 : r12 = true
    ·
      replace F := ite_y hp11 F
      have hq11 : r12 = true := hp11
      refine CW.region ?_
      refine LW.pure rfl rfl (RV.loadA [.int .i64 a0.layers, .slice A_a0_bounds a0.bounds.length c_a0_bounds] Tk24 rfl (H.blk 0 rfl).cells rfl rfl) ?_
      refine LW.go rfl rfl (OW.call Tc17 rfl (law03_Long_ok (a0 := a0) (h_a0_bounds.ext R0) hr12) ?_)
      rintro _ w26 ⟨rfl, E17⟩
      refine ⟨_, rfl, ?_⟩
      replace H := H.grow E17
      replace R0 := H.ext
      refine LW.pure rfl rfl (RV.move rfl) ?_
      refine LW.noB rfl rfl rfl rfl (ne_beq (v := true) hq11 rfl) ?_
      refine LW.noB rfl rfl rfl rfl (ne_beq (v := true) hq11 rfl) ?_
      refine LW.noB rfl rfl rfl rfl (ne_beq (v := true) hq11 rfl) ?_
      refine LW.pure rfl rfl (RV.pickTB rfl hq11 rfl) ?_
      refine LW.nil (jK80 _ _ ⟨_, ?_, ⟨true, F, rfl, H⟩⟩)
      exact ⟨rfl, rfl, rfl, rfl, trivial⟩
    ·
      replace F := ite_n hp11 F
      have hq11 : r12 = false := raw_f hp11
      refine CW.region ?_
      refine LW.pure rfl rfl (RV.loadA [.int .i64 a0.layers, .slice A_a0_bounds a0.bounds.length c_a0_bounds] Tk24 rfl (H.blk 0 rfl).cells rfl rfl) ?_
      refine LW.go rfl rfl (OW.call Tc17 rfl (law03_Long_ok (a0 := a0) (h_a0_bounds.ext R0) hr12) ?_)
      rintro _ w27 ⟨rfl, E18⟩
      refine ⟨_, rfl, ?_⟩
      replace H := H.grow E18
      replace R0 := H.ext
      refine LW.pure rfl rfl (RV.move rfl) ?_
      refine LW.pureYB rfl rfl rfl rfl hq11 (RV.move rfl) ?_
      refine LW.pureYB rfl rfl rfl rfl hq11 (RV.len Ts43 rfl) ?_
      refine LW.pureYB rfl rfl rfl rfl hq11 (RV.gtr rfl rfl) ?_
      refine LW.pure rfl rfl (RV.pickFB rfl hq11 rfl) ?_
      refine LW.nil (jK80 _ _ ⟨_, ?_, ⟨(decide ((100 : Int) < ((a1.length : Int)))), F, rfl, H⟩⟩)
      exact ⟨rfl, rfl, rfl, rfl, trivial⟩

end Go.D3

set_option linter.unusedVariables false
namespace Go.D3
open Go.Tb Go.Core




def core_Shift_k1 (a0 : Core) (l1 : List Bound) : Option (Core × Int) :=
  some ((⟨a0.layers, l1⟩ : Core), (0 : Int))
def core_Shift_B1 (a0 : Core) (a1 : List Int) (rec1 : Int → (List Bound) → Option (Core × Int)) (t23_1 : Int) (l2 : List Bound) : Option (Core × Int) :=
  if t23_1 < ((a0.bounds.length : Int)) then
    ix a0.bounds t23_1 fun x1 =>
    ix a1 x1.b fun x2 =>
    ix a1 x1.a fun x3 =>
    gd (InR (x2 - x3)) <|
    gd (InR (x1.most + (x2 - x3))) <|
    bnd (core_right ((⟨x1.a, x1.b, x1.most + (x2 - x3)⟩ : Bound)) a0.layers) fun r1 =>
    if r1 = true then
      gd (l2.length + (([(⟨x1.a, x1.b, x1.most + (x2 - x3)⟩ : Bound)] : List Bound)).length ≤ 1000000) <|
      gd (InR (t23_1 + 1)) <|
      rec1 ((t23_1 + 1)) (((l2 ++ ([(⟨x1.a, x1.b, x1.most + (x2 - x3)⟩ : Bound)] : List Bound))))
    else
      some ((⟨0, []⟩ : Core), (1 : Int))
  else
    core_Shift_k1 a0 l2
def core_Shift_L1 (a0 : Core) (a1 : List Int) : Nat → Int → (List Bound) → Option (Core × Int)
  | 0, _, _ => none
  | n_ + 1, t23_1, l2 => core_Shift_B1 a0 a1 (core_Shift_L1 a0 a1 n_) t23_1 l2
theorem core_Shift_L1_s {a0 : Core} {a1 : List Int} {m_ : Nat} {t23_1 : Int} {l2 : List Bound} {res : Core × Int} (h : core_Shift_L1 a0 a1 m_ t23_1 l2 = some res) : ∃ k, m_ = k + 1 ∧ core_Shift_B1 a0 a1 (core_Shift_L1 a0 a1 k) t23_1 l2 = some res := by
  cases m_ with
  | zero => cases h
  | succ k => exact ⟨k, rfl, h⟩
def core_Shift (a0 : Core) (a1 : List Int) : Option (Core × Int) :=
  bnd (core_dated a0 a1) fun r2 =>
  if r2 = 0 then
    core_Shift_L1 a0 a1 FU (((0 : Int))) ((([] : List Bound)))
  else
    some ((⟨0, []⟩ : Core), r2)
def ref03_Shift_k1 (r1 : Core) (l1 : List Bound) : Option (Core × Int) :=
  bnd (ref03_Validate ((⟨r1.layers, l1⟩ : Core))) fun r2 =>
  if r2 = 0 then
    some ((⟨r1.layers, l1⟩ : Core), (0 : Int))
  else
    some ((⟨0, []⟩ : Core), (1 : Int))
def ref03_Shift_B1 (a1 : List Int) (r1 : Core) (rec1 : Int → (List Bound) → Option (Core × Int)) (t8_1 : Int) (l2 : List Bound) : Option (Core × Int) :=
  if t8_1 < ((l2.length : Int)) then
    ix l2 t8_1 fun x1 =>
    ix a1 x1.b fun x2 =>
    gd (InR (x1.most + x2)) <|
    ix a1 x1.a fun x3 =>
    gd (InR ((x1.most + x2) - x3)) <|
    ix l2 t8_1 fun x4 =>
    gd (InR (t8_1 + 1)) <|
    rec1 ((t8_1 + 1)) (((l2.set (Int.toNat t8_1) ((⟨x4.a, x4.b, (x1.most + x2) - x3⟩ : Bound)))))
  else
    ref03_Shift_k1 r1 l2
def ref03_Shift_L1 (a1 : List Int) (r1 : Core) : Nat → Int → (List Bound) → Option (Core × Int)
  | 0, _, _ => none
  | n_ + 1, t8_1, l2 => ref03_Shift_B1 a1 r1 (ref03_Shift_L1 a1 r1 n_) t8_1 l2
theorem ref03_Shift_L1_s {a1 : List Int} {r1 : Core} {m_ : Nat} {t8_1 : Int} {l2 : List Bound} {res : Core × Int} (h : ref03_Shift_L1 a1 r1 m_ t8_1 l2 = some res) : ∃ k, m_ = k + 1 ∧ ref03_Shift_B1 a1 r1 (ref03_Shift_L1 a1 r1 k) t8_1 l2 = some res := by
  cases m_ with
  | zero => cases h
  | succ k => exact ⟨k, rfl, h⟩
def ref03_Shift (a0 : Core) (a1 : List Int) : Option (Core × Int) :=
  bnd (ref03_Validate a0) fun r3 =>
  if r3 = 0 then
    bnd (ref03_isDates a0 a1) fun r4 =>
    if r4 = true then
      bnd (ref03_Copy a0) fun r1 =>
      ref03_Shift_L1 a1 r1 FU (((0 : Int))) r1.bounds
    else
      some ((⟨0, []⟩ : Core), (1 : Int))
  else
    some ((⟨0, []⟩ : Core), r3)
def law03_CoreShifts_k1 (a0 : Core) (r1 : Core × Int) (r2 : Int) (l1 : List Int) : Option Bool :=
  bnd (core_CheckDates r1.1 l1) fun r3 =>
  bnd (core_IsPossible a0) fun r4 =>
  bnd (core_IsPossible r1.1) fun r5 =>
  if r3 = r2 then
    if r4.2 = 0 then
      if r5.2 = 0 then
        if (r4.1 == r5.1) = true then
          bnd (law03_known) fun r6 =>
          some r6
        else
          some false
      else
        some false
    else
      some false
  else
    if r3 = 1 then
      if r4.2 = 0 then
        if r5.2 = 0 then
          if (r4.1 == r5.1) = true then
            bnd (law03_known) fun r7 =>
            some r7
          else
            some false
        else
          some false
      else
        some false
    else
      some false
def law03_CoreShifts_B1 (a0 : Core) (a1 : List Int) (a2 : List Int) (r1 : Core × Int) (r2 : Int) (rec1 : Int → (List Int) → Option Bool) (t13_1 : Int) (l2 : List Int) : Option Bool :=
  if t13_1 < ((a2.length : Int)) then
    ix a2 t13_1 fun x1 =>
    ix a1 t13_1 fun x2 =>
    gd (InR (x1 + x2)) <|
    gd (l2.length + (([x1 + x2] : List Int)).length ≤ 1000000) <|
    gd (InR (t13_1 + 1)) <|
    rec1 ((t13_1 + 1)) (((l2 ++ ([x1 + x2] : List Int))))
  else
    law03_CoreShifts_k1 a0 r1 r2 l2
def law03_CoreShifts_L1 (a0 : Core) (a1 : List Int) (a2 : List Int) (r1 : Core × Int) (r2 : Int) : Nat → Int → (List Int) → Option Bool
  | 0, _, _ => none
  | n_ + 1, t13_1, l2 => law03_CoreShifts_B1 a0 a1 a2 r1 r2 (law03_CoreShifts_L1 a0 a1 a2 r1 r2 n_) t13_1 l2
theorem law03_CoreShifts_L1_s {a0 : Core} {a1 : List Int} {a2 : List Int} {r1 : Core × Int} {r2 : Int} {m_ : Nat} {t13_1 : Int} {l2 : List Int} {res : Bool} (h : law03_CoreShifts_L1 a0 a1 a2 r1 r2 m_ t13_1 l2 = some res) : ∃ k, m_ = k + 1 ∧ law03_CoreShifts_B1 a0 a1 a2 r1 r2 (law03_CoreShifts_L1 a0 a1 a2 r1 r2 k) t13_1 l2 = some res := by
  cases m_ with
  | zero => cases h
  | succ k => exact ⟨k, rfl, h⟩
def law03_CoreShifts_k2 (a0 : Core) (a1 : List Int) (a2 : List Int) (r1 : Core × Int) (r2 : Int) (t72_1 : Bool) : Option Bool :=
  if t72_1 = true then
    bnd (law03_known) fun r8 =>
    some r8
  else
    law03_CoreShifts_L1 a0 a1 a2 r1 r2 FU (((0 : Int))) ((([] : List Int)))
def law03_CoreShifts_k3 (a0 : Core) (a1 : List Int) (a2 : List Int) (r1 : Core × Int) (t52_1 : Bool) : Option Bool :=
  if t52_1 = true then
    some false
  else
    bnd (core_CheckDates a0 a2) fun r2 =>
    if r1.2 = 0 then
      if r2 = 0 then
        law03_CoreShifts_k2 a0 a1 a2 r1 r2 ((!(decide (((a1.length : Int)) = ((a2.length : Int))))))
      else
        if r2 = 7 then
          law03_CoreShifts_k2 a0 a1 a2 r1 r2 ((!(decide (((a1.length : Int)) = ((a2.length : Int))))))
        else
          law03_CoreShifts_k2 a0 a1 a2 r1 r2 true
    else
      law03_CoreShifts_k2 a0 a1 a2 r1 r2 true
def law03_CoreShifts_k4 (a0 : Core) (a1 : List Int) (a2 : List Int) (t30_1 : Bool) : Option Bool :=
  if t30_1 = true then
    bnd (law03_known) fun r9 =>
    some r9
  else
    bnd (core_Shift a0 a1) fun r1 =>
    bnd (ref03_Shift a0 a1) fun r10 =>
    bnd (ref03_Equal r1.1 r10.1) fun r11 =>
    if r11 = true then
      law03_CoreShifts_k3 a0 a1 a2 r1 ((!(decide (r1.2 = r10.2))))
    else
      law03_CoreShifts_k3 a0 a1 a2 r1 true
def law03_CoreShifts (a0 : Core) (a1 : List Int) (a2 : List Int) : Option Bool :=
  bnd (law03_Long a0) fun r12 =>
  if r12 = true then
    law03_CoreShifts_k4 a0 a1 a2 true
  else
    if (100 : Int) < ((a1.length : Int)) then
      law03_CoreShifts_k4 a0 a1 a2 true
    else
      law03_CoreShifts_k4 a0 a1 a2 ((decide ((100 : Int) < ((a2.length : Int)))))
end Go.D3

