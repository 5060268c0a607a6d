/- Lemmas and walks that the proof of this claim uses: D1m1, D1m2. -/
import Derived.Test.YtgnlfgkmkkjkoaaLevelWalks1
set_option linter.unusedVariables false
set_option linter.unusedSimpArgs false
namespace Go.D1
open Go.Tb Go.Proofs Go.RowKit
theorem Tc61 : callable Try.prog 61 = true := by kernel_rfl
theorem Tc93 : callable Try.prog 93 = true := by kernel_rfl
theorem Tf24_0 : tyF Try.prog 24 0 = some 0 := by kernel_rfl
theorem Tf24_1 : tyF Try.prog 24 1 = some 1 := by kernel_rfl
theorem Tf46_0 : tyF Try.prog 46 0 = some 0 := by kernel_rfl
theorem Tf46_1 : tyF Try.prog 46 1 = some 1 := by kernel_rfl
theorem Tf46_2 : tyF Try.prog 46 2 = some 2 := by kernel_rfl
theorem Tf46_3 : tyF Try.prog 46 3 = some 3 := by kernel_rfl
theorem Tk22 : tyK Try.prog 22 = some (false, 1) := by kernel_rfl
theorem Tk3 : tyK Try.prog 3 = some (false, 1) := by kernel_rfl
theorem Tk39 : tyK Try.prog 39 = some (false, 1) := by kernel_rfl
theorem Tk46 : tyK Try.prog 46 = some (true, 4) := by kernel_rfl
theorem mixed : Try.prog.follows .mixedOrders = true := by kernel_rfl
theorem Ts22 : tyS Try.prog 22 = some (46, 4, 32, [.int .i64 0, .int .i64 0, .int .i64 0, .int .i64 0]) := by kernel_rfl
theorem Ts39 : tyS Try.prog 39 = some (3, 1, 8, [.int .i64 0]) := by kernel_rfl
theorem Tz39 : tyZ Try.prog 39 = some (.slice none 0 0) := by kernel_rfl
theorem Tz46 : tyZ Try.prog 46 = some (.agg #[.int .i64 0, .int .i64 0, .int .i64 0, .int .i64 0]) := by kernel_rfl
set_option maxRecDepth 20000 in
set_option maxHeartbeats 1000000 in
theorem level_within_ok {a0 : Int} {a1 : Int} {a2 : Int} {w : World} {res : Bool} (F : level_within a0 a1 a2 = some res) : Calls Try.prog 61 #[.int .i64 a0, .int .i64 a1, .int .i64 a2] w (Rt w (.bool res)) := by
  refine calls_of_cw (args := [.int .i64 a0, .int .i64 a1, .int .i64 a2]) Try.func61 rfl rfl rfl rfl ?_
  have H := Hp.start w
  have R0 := H.ext
  unfold level_within at F
  refine CW.seq fun K1 hK1 => ?_
  refine CW.region ?_
  refine LW.pure rfl rfl (RV.assign rfl) ?_
  refine LW.nil (hK1 _ _ ?_)
  refine CW.seq fun K2 hK2 => ?_
  by_cases hp1 : a1 ≤ a0
  ·
    replace F := ite_y hp1 F
    have hq1 := dec_t hp1
    refine CW.region ?_
    refine LW.pure rfl rfl (RV.move rfl) ?_
    refine LW.pure rfl rfl (RV.move rfl) ?_
    refine LW.pure rfl rfl (RV.geq rfl rfl) ?_
    refine LW.pure rfl rfl (RV.move rfl) ?_
    refine LW.pureYB rfl rfl rfl rfl hq1 (RV.move rfl) ?_
    refine LW.pureYB rfl rfl rfl rfl hq1 (RV.move rfl) ?_
    refine LW.pureYB rfl rfl rfl rfl hq1 (RV.leq rfl rfl) ?_
    refine LW.pure rfl rfl (RV.pickTB rfl hq1 rfl) ?_
    refine LW.pure rfl rfl (RV.assign rfl) ?_
    refine LW.nil (hK2 _ _ ?_)
    refine CW.ret ?_
    obtain rfl := Option.some.inj F
    refine ⟨_, (ResOK.one rfl), ?_⟩
    refine ⟨(by first | rfl | simp), R0⟩
  ·
    replace F := ite_n hp1 F
    have hq1 := dec_f hp1
    refine CW.region ?_
    refine LW.pure rfl rfl (RV.move rfl) ?_
    refine LW.pure rfl rfl (RV.move rfl) ?_
    refine LW.pure rfl rfl (RV.geq rfl rfl) ?_
    refine LW.pure rfl rfl (RV.move rfl) ?_
    refine LW.noB rfl rfl rfl rfl (ne_beq (v := false) hq1 rfl) ?_
    refine LW.noB rfl rfl rfl rfl (ne_beq (v := false) hq1 rfl) ?_
    refine LW.noB rfl rfl rfl rfl (ne_beq (v := false) hq1 rfl) ?_
    refine LW.pure rfl rfl (RV.pickFB rfl hq1 rfl) ?_
    refine LW.pure rfl rfl (RV.assign rfl) ?_
    refine LW.nil (hK2 _ _ ?_)
    refine CW.ret ?_
    obtain rfl := Option.some.inj F
    refine ⟨_, (ResOK.one rfl), ?_⟩
    refine ⟨(by first | rfl | simp), R0⟩
set_option maxRecDepth 20000 in
set_option maxHeartbeats 1000000 in
theorem level_Validate_ok {a0 : Survey} {A_a0_readings : Option Addr} {c_a0_readings : Nat} {w : World} {res : Int} (h_a0_readings : Sl w A_a0_readings c_a0_readings 4 (a0.readings.map encReading)) (F : level_Validate a0 = some res) : Calls Try.prog 25 #[.agg #[.int .i64 a0.points, .slice A_a0_readings a0.readings.length c_a0_readings]] w (Rt w (.int .i64 res)) := by
  refine calls_of_cw (args := [.agg #[.int .i64 a0.points, .slice A_a0_readings a0.readings.length c_a0_readings]]) Try.func25 rfl rfl rfl rfl ?_
  have H := Hp.start w
  have R0 := H.ext
  unfold level_Validate at F
  refine CW.seq fun K1 hK1 => ?_
  refine CW.region ?_
  refine LW.go rfl rfl (OW.box rfl fun b1 w1 N1 => ?_)
  replace H := H.new N1 N1.blk
  replace R0 := H.ext
  refine LW.pure rfl rfl (RV.assign rfl) ?_
  refine LW.nil (hK1 _ _ ?_)
  refine CW.seq fun K2 hK2 => ?_
  refine CW.seq fun K3 hK3 => ?_
  obtain ⟨r5, hr5, F⟩ := bnd_some F
  refine CW.region ?_
  refine LW.pure rfl rfl (RV.fieldAddr Tf24_0 rfl) ?_
  refine LW.pure rfl rfl (RV.load1 Tk3 rfl ((H.blk 0 rfl).cells.off 0) rfl) ?_
  refine LW.go rfl rfl (OW.call Tc61 rfl (level_within_ok (a0 := a0.points) (a1 := (1 : Int)) (a2 := (5 : Int)) hr5) ?_)
  rintro _ w2 ⟨rfl, E1⟩
  refine ⟨_, rfl, ?_⟩
  replace H := H.grow E1
  replace R0 := H.ext
  refine LW.pure rfl rfl (RV.not rfl) ?_
  refine LW.nil (hK3 _ _ ?_)
  by_cases hp1 : r5 = true
  ·
    replace F := ite_y hp1 F
    have hq1 : r5 = true := hp1
    refine CW.condF rfl (not_f hq1) ?_
    refine CW.skip (hK2 _ _ ?_)
    refine CW.seq fun K4 hK4 => ?_
    refine CW.seq fun K5 hK5 => ?_
    refine CW.region ?_
    refine LW.pure rfl rfl (RV.fieldAddr Tf24_1 rfl) ?_
    refine LW.pure rfl rfl (RV.load1 Tk22 rfl ((H.blk 0 rfl).cells.off 1) rfl) ?_
    refine LW.pure rfl rfl (RV.len Ts22 rfl) ?_
    refine LW.pure rfl rfl (RV.gtr rfl rfl) ?_
    refine LW.nil (hK5 _ _ ?_)
    by_cases hp2 : (8 : Int) < ((a0.readings.length : Int))
    ·
      replace F := ite_y hp2 F
      have hq2 := dec_t hp2
      refine CW.condT rfl hq2 ?_
      refine CW.seq fun K6 hK6 => ?_
      refine CW.region ?_
      refine LW.pure rfl rfl (RV.assign rfl) ?_
      refine LW.nil (hK6 _ _ ?_)
      refine CW.ret ?_
      obtain rfl := Option.some.inj F
      refine ⟨_, (ResOK.one rfl), ?_⟩
      refine ⟨(by first | rfl | simp), R0⟩
    ·
      replace F := ite_n hp2 F
      have hq2 := dec_f hp2
      refine CW.condF rfl hq2 ?_
      refine CW.skip (hK4 _ _ ?_)
      refine CW.seqJ (fun ρ wl1 => (level_Validate_k1 = some res ∧ ρ = [(2, .int .i64 0)] ∧ Hp w wl1 [])) ?_ ?_
      ·
        rintro _ wl1 ⟨F, rfl, H⟩
        have R0 := H.ext
        unfold level_Validate_k1 at F
        refine CW.seq fun K7 hK7 => ?_
        refine CW.region ?_
        refine LW.pure rfl rfl (RV.assign rfl) ?_
        refine LW.nil (hK7 _ _ ?_)
        refine CW.ret ?_
        obtain rfl := Option.some.inj F
        refine ⟨_, (ResOK.one rfl), ?_⟩
        refine ⟨(by first | rfl | simp), R0⟩
      ·
        intro K8 hK8 jK74
        refine CW.seq fun K9 hK9 => ?_
        refine CW.region ?_
        refine LW.pure rfl rfl (RV.fieldAddr Tf24_1 rfl) ?_
        refine LW.pure rfl rfl (RV.load1 Tk22 rfl ((H.blk 0 rfl).cells.off 1) rfl) ?_
        refine LW.pure rfl rfl (RV.len Ts22 rfl) ?_
        refine LW.pure rfl rfl (RV.move rfl) ?_
        refine LW.nil (hK9 _ _ ?_)
        refine CW.block ?_
        refine CW.loop (fun meas ρ wl2 => ∃ (t16_1 : Int), level_Validate_L1 a0 meas t16_1 = some res ∧ ρ = [(1, .pointer (some (⟨b1, 0, none⟩))), (2, .int .i64 0), (14, .slice A_a0_readings a0.readings.length c_a0_readings), (15, .int .i64 ((a0.readings.length : Int))), (16, .int .i64 t16_1)] ∧ Hp w wl2 [.blk b1 24 [.int .i64 a0.points, .slice A_a0_readings a0.readings.length c_a0_readings]]) FU ⟨_, ?_, ((0 : Int)), F, rfl, H⟩ ?_
        · exact ⟨rfl, rfl, rfl, rfl, rfl, trivial⟩
        rintro mk1 _ wl2 ⟨t16_1, F, rfl, H⟩
        have R0 := H.ext
        replace F := level_Validate_L1_s F
        obtain ⟨mk1, rfl, F⟩ := F
        generalize hrec1 : level_Validate_L1 a0 mk1 = rec1 at F
        unfold level_Validate_B1 at F
        refine CW.seq fun K10 hK10 => ?_
        refine CW.region ?_
        refine LW.pure rfl rfl (RV.lss rfl rfl) ?_
        refine LW.nil (hK10 _ _ ?_)
        refine CW.seq fun K11 hK11 => ?_
        by_cases hp3 : t16_1 < ((a0.readings.length : Int))
        ·
          replace F := ite_y hp3 F
          have hq3 := dec_t hp3
          refine CW.condT rfl hq3 ?_
          refine CW.skip (hK11 _ _ ?_)
          refine CW.seq fun K12 hK12 => ?_
          refine CW.block ?_
          refine CW.seq fun K13 hK13 => ?_
          obtain ⟨x1, hbx1, hx1, F⟩ := ix_some F
          refine CW.region ?_
          refine LW.pure rfl rfl (RV.indexAddr Ts22 rfl rfl hbx1 (h_a0_readings.addr_ hx1)) ?_
          refine LW.pure rfl rfl (RV.loadA [.int .i64 x1.from_, .int .i64 x1.to_, .int .i64 x1.rise, .int .i64 x1.weight] Tk46 rfl ((h_a0_readings.at_ hx1).ext R0) rfl rfl) ?_
          refine LW.go rfl rfl (OW.alloc Tz46 fun b2 w3 N2 => ?_)
          replace H := H.new N2 N2.blk
          replace R0 := H.ext
          refine LW.go rfl rfl (OW.store Tk46 rfl rfl (H.blk 0 rfl) (off := 0) (vs := [.int .i64 x1.from_, .int .i64 x1.to_, .int .i64 x1.rise, .int .i64 x1.weight]) rfl rfl rfl rfl rfl fun w4 S1 => ?_)
          replace H : Hp w w4 [.blk b2 46 [.int .i64 x1.from_, .int .i64 x1.to_, .int .i64 x1.rise, .int .i64 x1.weight], .blk b1 24 [.int .i64 a0.points, .slice A_a0_readings a0.readings.length c_a0_readings]] := H.stored 0 rfl S1
          replace R0 := H.ext
          refine LW.nil (hK13 _ _ ?_)
          refine CW.seqJ (fun ρ wl3 => (∃ (t54_1 : Bool), level_Validate_k2 t16_1 rec1 t54_1 = some res ∧ ρ = [(1, .pointer (some (⟨b1, 0, none⟩))), (2, .int .i64 0), (14, .slice A_a0_readings a0.readings.length c_a0_readings), (15, .int .i64 ((a0.readings.length : Int))), (16, .int .i64 t16_1), (54, .bool t54_1)] ∧ Hp w wl3 [.blk b1 24 [.int .i64 a0.points, .slice A_a0_readings a0.readings.length c_a0_readings]])) ?_ ?_
          ·
            rintro _ wl3 ⟨t54_1, F, rfl, H⟩
            have R0 := H.ext
            unfold level_Validate_k2 at F
            by_cases hp4 : t54_1 = true
            ·
              replace F := ite_y hp4 F
              have hq4 : t54_1 = true := hp4
              refine CW.condT rfl hq4 ?_
              refine CW.seq fun K14 hK14 => ?_
              refine CW.region ?_
              refine LW.pure rfl rfl (RV.assign rfl) ?_
              refine LW.nil (hK14 _ _ ?_)
              refine CW.ret ?_
              obtain rfl := Option.some.inj F
              refine ⟨_, (ResOK.one rfl), ?_⟩
              refine ⟨(by first | rfl | simp), R0⟩
            ·
              replace F := ite_n hp4 F
              have hq4 : t54_1 = false := raw_f hp4
              refine CW.condF rfl hq4 ?_
              refine CW.skip (hK12 _ _ ?_)
              obtain ⟨hg1, F⟩ := gd_some F
              refine CW.region ?_
              refine LW.pure rfl rfl (RV.add rfl rfl hg1) ?_
              refine LW.pure rfl rfl (RV.move rfl) ?_
              refine LW.nil ?_
              subst hrec1
              refine ⟨mk1, Nat.lt_succ_self _, _, ?_, (t16_1 + 1), F, rfl, H⟩
              exact ⟨rfl, rfl, rfl, rfl, rfl, trivial⟩
          ·
            intro K15 hK15 jK93
            obtain ⟨hg2, F⟩ := gd_some F
            obtain ⟨r1, hr1, F⟩ := bnd_some F
            by_cases hp5 : r1 = true
            ·
              replace F := ite_y hp5 F
              have hq5 : r1 = true := hp5
              obtain ⟨hg3, F⟩ := gd_some F
              obtain ⟨r2, hr2, F⟩ := bnd_some F
              by_cases hp6 : r2 = true
              ·
                replace F := ite_y hp6 F
                have hq6 : r2 = true := hp6
                by_cases hp7 : x1.from_ = x1.to_
                ·
                  replace F := ite_y hp7 F
                  have hq7 := dec_t hp7
                  refine CW.region ?_
                  refine LW.pure rfl rfl (RV.fieldAddr Tf46_0 rfl) ?_
                  refine LW.pure rfl rfl (RV.load1 Tk3 rfl ((H.blk 0 rfl).cells.off 0) rfl) ?_
                  refine LW.pure rfl rfl (RV.fieldAddr Tf24_0 rfl) ?_
                  refine LW.pure rfl rfl (RV.load1 Tk3 rfl ((H.blk 1 rfl).cells.off 0) rfl) ?_
                  refine LW.pure rfl rfl (RV.sub rfl rfl hg2) ?_
                  refine LW.go rfl rfl (OW.call Tc61 rfl (level_within_ok (a0 := x1.from_) (a1 := (0 : Int)) (a2 := a0.points - 1) hr1) ?_)
                  rintro _ w5 ⟨rfl, E2⟩
                  refine ⟨_, rfl, ?_⟩
                  replace H := H.grow E2
                  replace R0 := H.ext
                  refine LW.pure rfl rfl (RV.not rfl) ?_
                  refine LW.pure rfl rfl (RV.move rfl) ?_
                  refine LW.pureYB rfl rfl rfl rfl (not_f hq5) (RV.fieldAddr Tf46_1 rfl) ?_
                  refine LW.pureYB rfl rfl rfl rfl (not_f hq5) (RV.load1 Tk3 rfl ((H.blk 0 rfl).cells.off 1) rfl) ?_
                  refine LW.pureYB rfl rfl rfl rfl (not_f hq5) (RV.fieldAddr Tf24_0 rfl) ?_
                  refine LW.pureYB rfl rfl rfl rfl (not_f hq5) (RV.load1 Tk3 rfl ((H.blk 1 rfl).cells.off 0) rfl) ?_
                  refine LW.pureYB rfl rfl rfl rfl (not_f hq5) (RV.sub rfl rfl hg3) ?_
                  refine LW.yesB rfl rfl rfl rfl (not_f hq5) (OW.call Tc61 rfl (level_within_ok (a0 := x1.to_) (a1 := (0 : Int)) (a2 := a0.points - 1) hr2) ?_)
                  rintro _ w6 ⟨rfl, E3⟩
                  refine ⟨_, rfl, ?_⟩
                  replace H := H.grow E3
                  replace R0 := H.ext
                  refine LW.pureYB rfl rfl rfl rfl (not_f hq5) (RV.not rfl) ?_
                  refine LW.pure rfl rfl (RV.pickFB rfl (not_f hq5) rfl) ?_
                  refine LW.pure rfl rfl (RV.move rfl) ?_
                  refine LW.pureYB rfl rfl rfl rfl (not_f hq6) (RV.fieldAddr Tf46_0 rfl) ?_
                  refine LW.pureYB rfl rfl rfl rfl (not_f hq6) (RV.load1 Tk3 rfl ((H.blk 0 rfl).cells.off 0) rfl) ?_
                  refine LW.pureYB rfl rfl rfl rfl (not_f hq6) (RV.fieldAddr Tf46_1 rfl) ?_
                  refine LW.pureYB rfl rfl rfl rfl (not_f hq6) (RV.load1 Tk3 rfl ((H.blk 0 rfl).cells.off 1) rfl) ?_
                  refine LW.pureYB rfl rfl rfl rfl (not_f hq6) (RV.eqi rfl rfl) ?_
                  refine LW.pure rfl rfl (RV.pickFB rfl (not_f hq6) rfl) ?_
                  refine LW.pure rfl rfl (RV.move rfl) ?_
                  refine LW.noB rfl rfl rfl rfl (ne_beq (v := true) hq7 rfl) ?_
                  refine LW.noB rfl rfl rfl rfl (ne_beq (v := true) hq7 rfl) ?_
                  refine LW.noB rfl rfl rfl rfl (ne_beq (v := true) hq7 rfl) ?_
                  refine LW.noB rfl rfl rfl rfl (ne_beq (v := true) hq7 rfl) ?_
                  refine LW.pure rfl rfl (RV.pickTB rfl hq7 rfl) ?_
                  refine LW.pure rfl rfl (RV.move rfl) ?_
                  refine LW.noB rfl rfl rfl rfl (ne_beq (v := true) rfl rfl) ?_
                  refine LW.noB rfl rfl rfl rfl (ne_beq (v := true) rfl rfl) ?_
                  refine LW.noB rfl rfl rfl rfl (ne_beq (v := true) rfl rfl) ?_
                  refine LW.noB rfl rfl rfl rfl (ne_beq (v := true) rfl rfl) ?_
                  refine LW.pure rfl rfl (RV.pickTB rfl rfl rfl) ?_
                  replace H := H.pick (L' := [.blk b1 24 [.int .i64 a0.points, .slice A_a0_readings a0.readings.length c_a0_readings]]) [1] (by decide) rfl
                  replace R0 := H.ext
                  refine LW.nil (jK93 _ _ ⟨_, ?_, ⟨true, F, rfl, H⟩⟩)
                  exact ⟨rfl, rfl, rfl, rfl, rfl, rfl, trivial⟩
                ·
                  replace F := ite_n hp7 F
                  have hq7 := dec_f hp7
                  obtain ⟨r3, hr3, F⟩ := bnd_some F
                  by_cases hp8 : r3 = true
                  ·
                    replace F := ite_y hp8 F
                    have hq8 : r3 = true := hp8
                    obtain ⟨r4, hr4, F⟩ := bnd_some F
                    refine CW.region ?_
                    refine LW.pure rfl rfl (RV.fieldAddr Tf46_0 rfl) ?_
                    refine LW.pure rfl rfl (RV.load1 Tk3 rfl ((H.blk 0 rfl).cells.off 0) rfl) ?_
                    refine LW.pure rfl rfl (RV.fieldAddr Tf24_0 rfl) ?_
                    refine LW.pure rfl rfl (RV.load1 Tk3 rfl ((H.blk 1 rfl).cells.off 0) rfl) ?_
                    refine LW.pure rfl rfl (RV.sub rfl rfl hg2) ?_
                    refine LW.go rfl rfl (OW.call Tc61 rfl (level_within_ok (a0 := x1.from_) (a1 := (0 : Int)) (a2 := a0.points - 1) hr1) ?_)
                    rintro _ w7 ⟨rfl, E4⟩
                    refine ⟨_, rfl, ?_⟩
                    replace H := H.grow E4
                    replace R0 := H.ext
                    refine LW.pure rfl rfl (RV.not rfl) ?_
                    refine LW.pure rfl rfl (RV.move rfl) ?_
                    refine LW.pureYB rfl rfl rfl rfl (not_f hq5) (RV.fieldAddr Tf46_1 rfl) ?_
                    refine LW.pureYB rfl rfl rfl rfl (not_f hq5) (RV.load1 Tk3 rfl ((H.blk 0 rfl).cells.off 1) rfl) ?_
                    refine LW.pureYB rfl rfl rfl rfl (not_f hq5) (RV.fieldAddr Tf24_0 rfl) ?_
                    refine LW.pureYB rfl rfl rfl rfl (not_f hq5) (RV.load1 Tk3 rfl ((H.blk 1 rfl).cells.off 0) rfl) ?_
                    refine LW.pureYB rfl rfl rfl rfl (not_f hq5) (RV.sub rfl rfl hg3) ?_
                    refine LW.yesB rfl rfl rfl rfl (not_f hq5) (OW.call Tc61 rfl (level_within_ok (a0 := x1.to_) (a1 := (0 : Int)) (a2 := a0.points - 1) hr2) ?_)
                    rintro _ w8 ⟨rfl, E5⟩
                    refine ⟨_, rfl, ?_⟩
                    replace H := H.grow E5
                    replace R0 := H.ext
                    refine LW.pureYB rfl rfl rfl rfl (not_f hq5) (RV.not rfl) ?_
                    refine LW.pure rfl rfl (RV.pickFB rfl (not_f hq5) rfl) ?_
                    refine LW.pure rfl rfl (RV.move rfl) ?_
                    refine LW.pureYB rfl rfl rfl rfl (not_f hq6) (RV.fieldAddr Tf46_0 rfl) ?_
                    refine LW.pureYB rfl rfl rfl rfl (not_f hq6) (RV.load1 Tk3 rfl ((H.blk 0 rfl).cells.off 0) rfl) ?_
                    refine LW.pureYB rfl rfl rfl rfl (not_f hq6) (RV.fieldAddr Tf46_1 rfl) ?_
                    refine LW.pureYB rfl rfl rfl rfl (not_f hq6) (RV.load1 Tk3 rfl ((H.blk 0 rfl).cells.off 1) rfl) ?_
                    refine LW.pureYB rfl rfl rfl rfl (not_f hq6) (RV.eqi rfl rfl) ?_
                    refine LW.pure rfl rfl (RV.pickFB rfl (not_f hq6) rfl) ?_
                    refine LW.pure rfl rfl (RV.move rfl) ?_
                    refine LW.pureYB rfl rfl rfl rfl hq7 (RV.fieldAddr Tf46_2 rfl) ?_
                    refine LW.pureYB rfl rfl rfl rfl hq7 (RV.load1 Tk3 rfl ((H.blk 0 rfl).cells.off 2) rfl) ?_
                    refine LW.yesB rfl rfl rfl rfl hq7 (OW.call Tc61 rfl (level_within_ok (a0 := x1.rise) (a1 := (-1000 : Int)) (a2 := (1000 : Int)) hr3) ?_)
                    rintro _ w9 ⟨rfl, E6⟩
                    refine ⟨_, rfl, ?_⟩
                    replace H := H.grow E6
                    replace R0 := H.ext
                    refine LW.pureYB rfl rfl rfl rfl hq7 (RV.not rfl) ?_
                    refine LW.pure rfl rfl (RV.pickFB rfl hq7 rfl) ?_
                    refine LW.pure rfl rfl (RV.move rfl) ?_
                    refine LW.pureYB rfl rfl rfl rfl (not_f hq8) (RV.fieldAddr Tf46_3 rfl) ?_
                    refine LW.pureYB rfl rfl rfl rfl (not_f hq8) (RV.load1 Tk3 rfl ((H.blk 0 rfl).cells.off 3) rfl) ?_
                    refine LW.yesB rfl rfl rfl rfl (not_f hq8) (OW.call Tc61 rfl (level_within_ok (a0 := x1.weight) (a1 := (1 : Int)) (a2 := (3 : Int)) hr4) ?_)
                    rintro _ w10 ⟨rfl, E7⟩
                    refine ⟨_, rfl, ?_⟩
                    replace H := H.grow E7
                    replace R0 := H.ext
                    refine LW.pureYB rfl rfl rfl rfl (not_f hq8) (RV.not rfl) ?_
                    refine LW.pure rfl rfl (RV.pickFB rfl (not_f hq8) rfl) ?_
                    replace H := H.pick (L' := [.blk b1 24 [.int .i64 a0.points, .slice A_a0_readings a0.readings.length c_a0_readings]]) [1] (by decide) rfl
                    replace R0 := H.ext
                    refine LW.nil (jK93 _ _ ⟨_, ?_, ⟨(!r4), F, rfl, H⟩⟩)
                    exact ⟨rfl, rfl, rfl, rfl, rfl, rfl, trivial⟩
                  ·
                    replace F := ite_n hp8 F
                    have hq8 : r3 = false := raw_f hp8
                    refine CW.region ?_
                    refine LW.pure rfl rfl (RV.fieldAddr Tf46_0 rfl) ?_
                    refine LW.pure rfl rfl (RV.load1 Tk3 rfl ((H.blk 0 rfl).cells.off 0) rfl) ?_
                    refine LW.pure rfl rfl (RV.fieldAddr Tf24_0 rfl) ?_
                    refine LW.pure rfl rfl (RV.load1 Tk3 rfl ((H.blk 1 rfl).cells.off 0) rfl) ?_
                    refine LW.pure rfl rfl (RV.sub rfl rfl hg2) ?_
                    refine LW.go rfl rfl (OW.call Tc61 rfl (level_within_ok (a0 := x1.from_) (a1 := (0 : Int)) (a2 := a0.points - 1) hr1) ?_)
                    rintro _ w11 ⟨rfl, E8⟩
                    refine ⟨_, rfl, ?_⟩
                    replace H := H.grow E8
                    replace R0 := H.ext
                    refine LW.pure rfl rfl (RV.not rfl) ?_
                    refine LW.pure rfl rfl (RV.move rfl) ?_
                    refine LW.pureYB rfl rfl rfl rfl (not_f hq5) (RV.fieldAddr Tf46_1 rfl) ?_
                    refine LW.pureYB rfl rfl rfl rfl (not_f hq5) (RV.load1 Tk3 rfl ((H.blk 0 rfl).cells.off 1) rfl) ?_
                    refine LW.pureYB rfl rfl rfl rfl (not_f hq5) (RV.fieldAddr Tf24_0 rfl) ?_
                    refine LW.pureYB rfl rfl rfl rfl (not_f hq5) (RV.load1 Tk3 rfl ((H.blk 1 rfl).cells.off 0) rfl) ?_
                    refine LW.pureYB rfl rfl rfl rfl (not_f hq5) (RV.sub rfl rfl hg3) ?_
                    refine LW.yesB rfl rfl rfl rfl (not_f hq5) (OW.call Tc61 rfl (level_within_ok (a0 := x1.to_) (a1 := (0 : Int)) (a2 := a0.points - 1) hr2) ?_)
                    rintro _ w12 ⟨rfl, E9⟩
                    refine ⟨_, rfl, ?_⟩
                    replace H := H.grow E9
                    replace R0 := H.ext
                    refine LW.pureYB rfl rfl rfl rfl (not_f hq5) (RV.not rfl) ?_
                    refine LW.pure rfl rfl (RV.pickFB rfl (not_f hq5) rfl) ?_
                    refine LW.pure rfl rfl (RV.move rfl) ?_
                    refine LW.pureYB rfl rfl rfl rfl (not_f hq6) (RV.fieldAddr Tf46_0 rfl) ?_
                    refine LW.pureYB rfl rfl rfl rfl (not_f hq6) (RV.load1 Tk3 rfl ((H.blk 0 rfl).cells.off 0) rfl) ?_
                    refine LW.pureYB rfl rfl rfl rfl (not_f hq6) (RV.fieldAddr Tf46_1 rfl) ?_
                    refine LW.pureYB rfl rfl rfl rfl (not_f hq6) (RV.load1 Tk3 rfl ((H.blk 0 rfl).cells.off 1) rfl) ?_
                    refine LW.pureYB rfl rfl rfl rfl (not_f hq6) (RV.eqi rfl rfl) ?_
                    refine LW.pure rfl rfl (RV.pickFB rfl (not_f hq6) rfl) ?_
                    refine LW.pure rfl rfl (RV.move rfl) ?_
                    refine LW.pureYB rfl rfl rfl rfl hq7 (RV.fieldAddr Tf46_2 rfl) ?_
                    refine LW.pureYB rfl rfl rfl rfl hq7 (RV.load1 Tk3 rfl ((H.blk 0 rfl).cells.off 2) rfl) ?_
                    refine LW.yesB rfl rfl rfl rfl hq7 (OW.call Tc61 rfl (level_within_ok (a0 := x1.rise) (a1 := (-1000 : Int)) (a2 := (1000 : Int)) hr3) ?_)
                    rintro _ w13 ⟨rfl, E10⟩
                    refine ⟨_, rfl, ?_⟩
                    replace H := H.grow E10
                    replace R0 := H.ext
                    refine LW.pureYB rfl rfl rfl rfl hq7 (RV.not rfl) ?_
                    refine LW.pure rfl rfl (RV.pickFB rfl hq7 rfl) ?_
                    refine LW.pure rfl rfl (RV.move rfl) ?_
                    refine LW.noB rfl rfl rfl rfl (ne_beq (v := true) (not_t hq8) rfl) ?_
                    refine LW.noB rfl rfl rfl rfl (ne_beq (v := true) (not_t hq8) rfl) ?_
                    refine LW.noB rfl rfl rfl rfl (ne_beq (v := true) (not_t hq8) rfl) ?_
                    refine LW.noB rfl rfl rfl rfl (ne_beq (v := true) (not_t hq8) rfl) ?_
                    refine LW.pure rfl rfl (RV.pickTB rfl (not_t hq8) rfl) ?_
                    replace H := H.pick (L' := [.blk b1 24 [.int .i64 a0.points, .slice A_a0_readings a0.readings.length c_a0_readings]]) [1] (by decide) rfl
                    replace R0 := H.ext
                    refine LW.nil (jK93 _ _ ⟨_, ?_, ⟨true, F, rfl, H⟩⟩)
                    exact ⟨rfl, rfl, rfl, rfl, rfl, rfl, trivial⟩
              ·
                replace F := ite_n hp6 F
                have hq6 : r2 = false := raw_f hp6
                refine CW.region ?_
                refine LW.pure rfl rfl (RV.fieldAddr Tf46_0 rfl) ?_
                refine LW.pure rfl rfl (RV.load1 Tk3 rfl ((H.blk 0 rfl).cells.off 0) rfl) ?_
                refine LW.pure rfl rfl (RV.fieldAddr Tf24_0 rfl) ?_
                refine LW.pure rfl rfl (RV.load1 Tk3 rfl ((H.blk 1 rfl).cells.off 0) rfl) ?_
                refine LW.pure rfl rfl (RV.sub rfl rfl hg2) ?_
                refine LW.go rfl rfl (OW.call Tc61 rfl (level_within_ok (a0 := x1.from_) (a1 := (0 : Int)) (a2 := a0.points - 1) hr1) ?_)
                rintro _ w14 ⟨rfl, E11⟩
                refine ⟨_, rfl, ?_⟩
                replace H := H.grow E11
                replace R0 := H.ext
                refine LW.pure rfl rfl (RV.not rfl) ?_
                refine LW.pure rfl rfl (RV.move rfl) ?_
                refine LW.pureYB rfl rfl rfl rfl (not_f hq5) (RV.fieldAddr Tf46_1 rfl) ?_
                refine LW.pureYB rfl rfl rfl rfl (not_f hq5) (RV.load1 Tk3 rfl ((H.blk 0 rfl).cells.off 1) rfl) ?_
                refine LW.pureYB rfl rfl rfl rfl (not_f hq5) (RV.fieldAddr Tf24_0 rfl) ?_
                refine LW.pureYB rfl rfl rfl rfl (not_f hq5) (RV.load1 Tk3 rfl ((H.blk 1 rfl).cells.off 0) rfl) ?_
                refine LW.pureYB rfl rfl rfl rfl (not_f hq5) (RV.sub rfl rfl hg3) ?_
                refine LW.yesB rfl rfl rfl rfl (not_f hq5) (OW.call Tc61 rfl (level_within_ok (a0 := x1.to_) (a1 := (0 : Int)) (a2 := a0.points - 1) hr2) ?_)
                rintro _ w15 ⟨rfl, E12⟩
                refine ⟨_, rfl, ?_⟩
                replace H := H.grow E12
                replace R0 := H.ext
                refine LW.pureYB rfl rfl rfl rfl (not_f hq5) (RV.not rfl) ?_
                refine LW.pure rfl rfl (RV.pickFB rfl (not_f hq5) rfl) ?_
                refine LW.pure rfl rfl (RV.move rfl) ?_
                refine LW.noB rfl rfl rfl rfl (ne_beq (v := true) (not_t hq6) rfl) ?_
                refine LW.noB rfl rfl rfl rfl (ne_beq (v := true) (not_t hq6) rfl) ?_
                refine LW.noB rfl rfl rfl rfl (ne_beq (v := true) (not_t hq6) rfl) ?_
                refine LW.noB rfl rfl rfl rfl (ne_beq (v := true) (not_t hq6) rfl) ?_
                refine LW.noB rfl rfl rfl rfl (ne_beq (v := true) (not_t hq6) rfl) ?_
                refine LW.pure rfl rfl (RV.pickTB rfl (not_t hq6) rfl) ?_
                refine LW.pure rfl rfl (RV.move rfl) ?_
                refine LW.noB rfl rfl rfl rfl (ne_beq (v := true) rfl rfl) ?_
                refine LW.noB rfl rfl rfl rfl (ne_beq (v := true) rfl rfl) ?_
                refine LW.noB rfl rfl rfl rfl (ne_beq (v := true) rfl rfl) ?_
                refine LW.noB rfl rfl rfl rfl (ne_beq (v := true) rfl rfl) ?_
                refine LW.pure rfl rfl (RV.pickTB rfl rfl rfl) ?_
                refine LW.pure rfl rfl (RV.move rfl) ?_
                refine LW.noB rfl rfl rfl rfl (ne_beq (v := true) rfl rfl) ?_
                refine LW.noB rfl rfl rfl rfl (ne_beq (v := true) rfl rfl) ?_
                refine LW.noB rfl rfl rfl rfl (ne_beq (v := true) rfl rfl) ?_
                refine LW.noB rfl rfl rfl rfl (ne_beq (v := true) rfl rfl) ?_
                refine LW.pure rfl rfl (RV.pickTB rfl rfl rfl) ?_
                replace H := H.pick (L' := [.blk b1 24 [.int .i64 a0.points, .slice A_a0_readings a0.readings.length c_a0_readings]]) [1] (by decide) rfl
                replace R0 := H.ext
                refine LW.nil (jK93 _ _ ⟨_, ?_, ⟨true, F, rfl, H⟩⟩)
                exact ⟨rfl, rfl, rfl, rfl, rfl, rfl, trivial⟩
            ·
              replace F := ite_n hp5 F
              have hq5 : r1 = false := raw_f hp5
              refine CW.region ?_
              refine LW.pure rfl rfl (RV.fieldAddr Tf46_0 rfl) ?_
              refine LW.pure rfl rfl (RV.load1 Tk3 rfl ((H.blk 0 rfl).cells.off 0) rfl) ?_
              refine LW.pure rfl rfl (RV.fieldAddr Tf24_0 rfl) ?_
              refine LW.pure rfl rfl (RV.load1 Tk3 rfl ((H.blk 1 rfl).cells.off 0) rfl) ?_
              refine LW.pure rfl rfl (RV.sub rfl rfl hg2) ?_
              refine LW.go rfl rfl (OW.call Tc61 rfl (level_within_ok (a0 := x1.from_) (a1 := (0 : Int)) (a2 := a0.points - 1) hr1) ?_)
              rintro _ w16 ⟨rfl, E13⟩
              refine ⟨_, rfl, ?_⟩
              replace H := H.grow E13
              replace R0 := H.ext
              refine LW.pure rfl rfl (RV.not rfl) ?_
              refine LW.pure rfl rfl (RV.move rfl) ?_
              refine LW.noB rfl rfl rfl rfl (ne_beq (v := true) (not_t hq5) rfl) ?_
              refine LW.noB rfl rfl rfl rfl (ne_beq (v := true) (not_t hq5) rfl) ?_
              refine LW.noB rfl rfl rfl rfl (ne_beq (v := true) (not_t hq5) rfl) ?_
              refine LW.noB rfl rfl rfl rfl (ne_beq (v := true) (not_t hq5) rfl) ?_
              refine LW.noB rfl rfl rfl rfl (ne_beq (v := true) (not_t hq5) rfl) ?_
              refine LW.noB rfl rfl rfl rfl (ne_beq (v := true) (not_t hq5) rfl) ?_
              refine LW.noB rfl rfl rfl rfl (ne_beq (v := true) (not_t hq5) rfl) ?_
              refine LW.pure rfl rfl (RV.pickTB rfl (not_t hq5) rfl) ?_
              refine LW.pure rfl rfl (RV.move rfl) ?_
              refine LW.noB rfl rfl rfl rfl (ne_beq (v := true) rfl rfl) ?_
              refine LW.noB rfl rfl rfl rfl (ne_beq (v := true) rfl rfl) ?_
              refine LW.noB rfl rfl rfl rfl (ne_beq (v := true) rfl rfl) ?_
              refine LW.noB rfl rfl rfl rfl (ne_beq (v := true) rfl rfl) ?_
              refine LW.noB rfl rfl rfl rfl (ne_beq (v := true) rfl rfl) ?_
              refine LW.pure rfl rfl (RV.pickTB rfl rfl rfl) ?_
              refine LW.pure rfl rfl (RV.move rfl) ?_
              refine LW.noB rfl rfl rfl rfl (ne_beq (v := true) rfl rfl) ?_
              refine LW.noB rfl rfl rfl rfl (ne_beq (v := true) rfl rfl) ?_
              refine LW.noB rfl rfl rfl rfl (ne_beq (v := true) rfl rfl) ?_
              refine LW.noB rfl rfl rfl rfl (ne_beq (v := true) rfl rfl) ?_
              refine LW.pure rfl rfl (RV.pickTB rfl rfl rfl) ?_
              refine LW.pure rfl rfl (RV.move rfl) ?_
              refine LW.noB rfl rfl rfl rfl (ne_beq (v := true) rfl rfl) ?_
              refine LW.noB rfl rfl rfl rfl (ne_beq (v := true) rfl rfl) ?_
              refine LW.noB rfl rfl rfl rfl (ne_beq (v := true) rfl rfl) ?_
              refine LW.noB rfl rfl rfl rfl (ne_beq (v := true) rfl rfl) ?_
              refine LW.pure rfl rfl (RV.pickTB rfl rfl rfl) ?_
              replace H := H.pick (L' := [.blk b1 24 [.int .i64 a0.points, .slice A_a0_readings a0.readings.length c_a0_readings]]) [1] (by decide) rfl
              replace R0 := H.ext
              refine LW.nil (jK93 _ _ ⟨_, ?_, ⟨true, F, rfl, H⟩⟩)
              exact ⟨rfl, rfl, rfl, rfl, rfl, rfl, trivial⟩
        ·
          replace F := ite_n hp3 F
          have hq3 := dec_f hp3
          refine CW.condF rfl hq3 ?_
          replace H := H.pick (L' := []) [] (by decide) rfl
          replace R0 := H.ext
          refine CW.exit (jK74 _ _ ⟨_, ?_, ⟨F, rfl, H⟩⟩)
          exact ⟨rfl, trivial⟩
  ·
    replace F := ite_n hp1 F
    have hq1 : r5 = false := raw_f hp1
    refine CW.condT rfl (not_t hq1) ?_
    refine CW.seq fun K16 hK16 => ?_
    refine CW.region ?_
    refine LW.pure rfl rfl (RV.assign rfl) ?_
    refine LW.nil (hK16 _ _ ?_)
    refine CW.ret ?_
    obtain rfl := Option.some.inj F
    refine ⟨_, (ResOK.one rfl), ?_⟩
    refine ⟨(by first | rfl | simp), R0⟩
set_option maxRecDepth 20000 in
set_option maxHeartbeats 1000000 in
theorem level_forest_1_ok {cap0 : List Int} {a0 : Int} {a1 : Int} {A_cap0 : Option Addr} {c_cap0 : Nat} {b_cap0 : Nat} {wb : World} {R : List Ck} {w : World} {res : Bool × (List Int)} (H : Hp wb w ([.own A_cap0 c_cap0 3 1 (List.map encN cap0), .blk b_cap0 39 [.slice A_cap0 cap0.length c_cap0]] ++ R)) (F : level_forest_1 cap0 a0 a1 = some res) : Calls Try.prog 93 #[.int .i64 a0, .int .i64 a1, .pointer (some (⟨b_cap0, 0, none⟩))] w (fun e w' => e = .returned (.bool res.1) ∧ res.2.length = cap0.length ∧ Hp wb w' ([.own A_cap0 c_cap0 3 1 (List.map encN res.2), .blk b_cap0 39 [.slice A_cap0 cap0.length c_cap0]] ++ R)) := by
  refine calls_of_cw (args := [.int .i64 a0, .int .i64 a1, .pointer (some (⟨b_cap0, 0, none⟩))]) Try.func93 rfl rfl rfl rfl ?_
  have R0 := H.ext
  unfold level_forest_1 at F
  refine CW.seq fun K1 hK1 => ?_
  refine CW.region ?_
  refine LW.pure rfl rfl (RV.assign rfl) ?_
  refine LW.nil (hK1 _ _ ?_)
  refine CW.seq fun K2 hK2 => ?_
  obtain ⟨x1, hbx1, hx1, F⟩ := ix_some F
  obtain ⟨x2, hbx2, hx2, F⟩ := ix_some F
  obtain ⟨x3, hbx3, hx3, F⟩ := ix_some F
  obtain ⟨x4, hbx4, hx4, F⟩ := ix_some F
  refine CW.draw [] (fun _ => True) (.cons 0 1 (.cons 1 1 (.cons 2 1 (.cons 3 1 (.cons 4 1 (.cons 5 1 (.cons 6 1 (.cons 7 1 (.cons 8 1 (.cons 9 1 (.cons 10 1 (.cons 11 1 (.cons 12 1 (.cons 13 1 (.cons 14 1 (.cons 15 1 (.cons 16 1 (.cons 17 1 (.cons 18 1 (.cons 19 1 .nil)))))))))))))))))))) mixed (by kernel_rfl) fun w1 E1 => ?_
  replace H := H.grow E1
  replace R0 := H.ext
  refine DW.fix rfl rfl rfl (fun _ EQ => RV.load1 Tk39 rfl ((H.grow EQ).blk 1 rfl).cells rfl) ?_
  refine DW.fix rfl rfl rfl (fun _ EQ => RV.move rfl) ?_
  refine DW.fix rfl rfl rfl (fun _ EQ => RV.indexAddr Ts39 rfl rfl hbx1 ((H.own 0 rfl).sl.addr_ hx1)) ?_
  refine DW.fix rfl rfl rfl (fun _ EQ => RV.load1 Tk3 rfl (((H.grow EQ).own 0 rfl).sl.at_ hx1) rfl) ?_
  refine DW.fix rfl rfl rfl (fun _ EQ => RV.load1 Tk39 rfl ((H.grow EQ).blk 1 rfl).cells rfl) ?_
  refine DW.fix rfl rfl rfl (fun _ EQ => RV.move rfl) ?_
  refine DW.fix rfl rfl rfl (fun _ EQ => RV.indexAddr Ts39 rfl rfl hbx2 ((H.own 0 rfl).sl.addr_ hx2)) ?_
  refine DW.fix rfl rfl rfl (fun _ EQ => RV.load1 Tk3 rfl (((H.grow EQ).own 0 rfl).sl.at_ hx2) rfl) ?_
  refine DW.fix rfl rfl rfl (fun _ EQ => RV.min2 rfl rfl) ?_
  refine DW.fix rfl rfl rfl (fun _ EQ => RV.load1 Tk39 rfl ((H.grow EQ).blk 1 rfl).cells rfl) ?_
  refine DW.fix rfl rfl rfl (fun _ EQ => RV.move rfl) ?_
  refine DW.fix rfl rfl rfl (fun _ EQ => RV.indexAddr Ts39 rfl rfl hbx3 ((H.own 0 rfl).sl.addr_ hx3)) ?_
  refine DW.fix rfl rfl rfl (fun _ EQ => RV.load1 Tk3 rfl (((H.grow EQ).own 0 rfl).sl.at_ hx3) rfl) ?_
  refine DW.fix rfl rfl rfl (fun _ EQ => RV.load1 Tk39 rfl ((H.grow EQ).blk 1 rfl).cells rfl) ?_
  refine DW.fix rfl rfl rfl (fun _ EQ => RV.move rfl) ?_
  refine DW.fix rfl rfl rfl (fun _ EQ => RV.indexAddr Ts39 rfl rfl hbx4 ((H.own 0 rfl).sl.addr_ hx4)) ?_
  refine DW.fix rfl rfl rfl (fun _ EQ => RV.load1 Tk3 rfl (((H.grow EQ).own 0 rfl).sl.at_ hx4) rfl) ?_
  refine DW.fix rfl rfl rfl (fun _ EQ => RV.max2 rfl rfl) ?_
  refine DW.fix rfl rfl rfl (fun _ EQ => RV.assign rfl) ?_
  refine DW.fix rfl rfl rfl (fun _ EQ => RV.assign rfl) ?_
  refine DW.nil (hK2 _ _ ?_)
  refine CW.seqJ (fun ρ wl1 => (∃ (l1 : List Int), level_forest_1_k1 x1 x2 x3 x4 l1 = some res ∧ ρ = [(5, .bool false), (6, .int .i64 (min x1 x2)), (7, .int .i64 (max x3 x4))] ∧ Hp wb wl1 ([.own A_cap0 c_cap0 3 1 (List.map encN l1), .blk b_cap0 39 [.slice A_cap0 l1.length c_cap0]] ++ R) ∧ l1.length = cap0.length)) ?_ ?_
  ·
    rintro _ wl1 ⟨l1, F, rfl, H, hl1⟩
    have R0 := H.ext
    unfold level_forest_1_k1 at F
    refine CW.seq fun K3 hK3 => ?_
    refine CW.region ?_
    refine LW.pure rfl rfl (RV.move rfl) ?_
    refine LW.pure rfl rfl (RV.move rfl) ?_
    refine LW.pure rfl rfl (RV.nei rfl rfl) ?_
    refine LW.pure rfl rfl (RV.assign rfl) ?_
    refine LW.nil (hK3 _ _ ?_)
    refine CW.ret ?_
    obtain rfl := Option.some.inj F
    refine ⟨_, (ResOK.one rfl), ?_⟩
    have hce1 : l1.length = cap0.length := by first | omega | (simp; done) | (simp; omega) | rfl | assumption
    replace H := H.cast (L' := ([.own A_cap0 c_cap0 3 1 (List.map encN l1), .blk b_cap0 39 [.slice A_cap0 cap0.length c_cap0]] ++ R)) (by first | (rw [hce1]; done) | simp [hce1] | rfl)
    exact ⟨(by first | rfl | (simp; done) | (simp; omega)), (by first | rfl | assumption | omega | (simp; done) | (simp; assumption) | (simp; omega)), H⟩
  ·
    intro K4 hK4 jK74
    refine CW.seq fun K5 hK5 => ?_
    refine CW.region ?_
    refine LW.pure rfl rfl (RV.load1 Tk39 rfl (H.blk 1 rfl).cells rfl) ?_
    refine LW.pure rfl rfl (RV.len Ts39 rfl) ?_
    refine LW.pure rfl rfl (RV.move rfl) ?_
    refine LW.nil (hK5 _ _ ?_)
    refine CW.block ?_
    refine CW.loop (fun meas ρ wl2 => ∃ (t29_1 : Int) (l3 : List Int), level_forest_1_L1 cap0 x1 x2 x3 x4 meas t29_1 l3 = some res ∧ ρ = [(2, .pointer (some (⟨b_cap0, 0, none⟩))), (5, .bool false), (6, .int .i64 (min x1 x2)), (7, .int .i64 (max x3 x4)), (28, .int .i64 ((cap0.length : Int))), (29, .int .i64 t29_1)] ∧ Hp wb wl2 ([.own A_cap0 c_cap0 3 1 (List.map encN l3), .blk b_cap0 39 [.slice A_cap0 l3.length c_cap0]] ++ R) ∧ l3.length = cap0.length) FU ⟨_, ?_, ((0 : Int)), cap0, F, rfl, H, (show cap0.length = cap0.length by first | rfl | assumption | omega | (simp; done) | (simp; assumption) | (simp; omega))⟩ ?_
    · exact ⟨rfl, rfl, rfl, rfl, rfl, rfl, trivial⟩
    rintro mk1 _ wl2 ⟨t29_1, l3, F, rfl, H, hl2⟩
    have R0 := H.ext
    replace F := level_forest_1_L1_s F
    obtain ⟨mk1, rfl, F⟩ := F
    generalize hrec1 : level_forest_1_L1 cap0 x1 x2 x3 x4 mk1 = rec1 at F
    unfold level_forest_1_B1 at F
    refine CW.seq fun K6 hK6 => ?_
    refine CW.region ?_
    refine LW.pure rfl rfl (RV.lss rfl rfl) ?_
    refine LW.nil (hK6 _ _ ?_)
    refine CW.seq fun K7 hK7 => ?_
    by_cases hp1 : t29_1 < ((cap0.length : Int))
    ·
      replace F := ite_y hp1 F
      have hq1 := dec_t hp1
      refine CW.condT rfl hq1 ?_
      refine CW.skip (hK7 _ _ ?_)
      refine CW.seqJ (fun ρ wl3 => (∃ (l2 : List Int), level_forest_1_k2 t29_1 rec1 l2 = some res ∧ ρ = [(2, .pointer (some (⟨b_cap0, 0, none⟩))), (5, .bool false), (6, .int .i64 (min x1 x2)), (7, .int .i64 (max x3 x4)), (28, .int .i64 ((cap0.length : Int))), (29, .int .i64 t29_1)] ∧ Hp wb wl3 ([.own A_cap0 c_cap0 3 1 (List.map encN l2), .blk b_cap0 39 [.slice A_cap0 l2.length c_cap0]] ++ R) ∧ l2.length = cap0.length)) ?_ ?_
      ·
        rintro _ wl3 ⟨l2, F, rfl, H, hl3⟩
        have R0 := H.ext
        unfold level_forest_1_k2 at F
        obtain ⟨hg1, F⟩ := gd_some F
        refine CW.region ?_
        refine LW.pure rfl rfl (RV.add rfl rfl hg1) ?_
        refine LW.pure rfl rfl (RV.move rfl) ?_
        refine LW.nil ?_
        subst hrec1
        refine ⟨mk1, Nat.lt_succ_self _, _, ?_, (t29_1 + 1), l2, F, rfl, H, (show l2.length = cap0.length by first | rfl | assumption | omega | (simp; done) | (simp; assumption) | (simp; omega))⟩
        exact ⟨rfl, rfl, rfl, rfl, rfl, rfl, trivial⟩
      ·
        intro K8 hK8 jK94
        refine CW.block ?_
        refine CW.seq fun K9 hK9 => ?_
        refine CW.region ?_
        refine LW.pure rfl rfl (RV.move rfl) ?_
        refine LW.pure rfl rfl (RV.assign rfl) ?_
        refine LW.nil (hK9 _ _ ?_)
        refine CW.seq fun K10 hK10 => ?_
        obtain ⟨x5, hbx5, hx5, F⟩ := ix_some F
        refine CW.region ?_
        refine LW.pure rfl rfl (RV.load1 Tk39 rfl (H.blk 1 rfl).cells rfl) ?_
        refine LW.pure rfl rfl (RV.move rfl) ?_
        refine LW.pure rfl rfl (RV.indexAddr Ts39 rfl rfl hbx5 ((H.own 0 rfl).sl.addr_ hx5)) ?_
        refine LW.pure rfl rfl (RV.load1 Tk3 rfl ((H.own 0 rfl).sl.at_ hx5) rfl) ?_
        refine LW.pure rfl rfl (RV.move rfl) ?_
        refine LW.pure rfl rfl (RV.eqi rfl rfl) ?_
        refine LW.nil (hK10 _ _ ?_)
        by_cases hp2 : x5 = (max x3 x4)
        ·
          replace F := ite_y hp2 F
          have hq2 := dec_t hp2
          refine CW.condT rfl hq2 ?_
          obtain ⟨x6, hbx6, hx6, F⟩ := ix_some F
          refine CW.region ?_
          refine LW.pure rfl rfl (RV.load1 Tk39 rfl (H.blk 1 rfl).cells rfl) ?_
          refine LW.pure rfl rfl (RV.move rfl) ?_
          refine LW.pure rfl rfl (RV.move rfl) ?_
          refine LW.pure rfl rfl (RV.indexAddr Ts39 rfl rfl hbx6 ((H.own 0 rfl).sl.addr_ hx6)) ?_
          refine LW.go rfl rfl (OW.storeO (enc := encN) (vs := [.int .i64 (min x1 x2)]) 0 (min x1 x2) Tk3 rfl rfl (H.own 0 rfl) (fun _ => rfl) rfl hx6 rfl rfl (by decide) rfl rfl fun w2 M1 O1 => ?_)
          replace H : Hp wb w2 ([.own A_cap0 c_cap0 3 1 (List.map encN ((l3.set (Int.toNat t29_1) (min x1 x2)))), .blk b_cap0 39 [.slice A_cap0 l3.length c_cap0]] ++ R) := H.mod 0 rfl M1 O1 (.inl rfl)
          replace R0 := H.ext
          have hce2 : l3.length = ((l3.set (Int.toNat t29_1) (min x1 x2))).length := by first | omega | (simp; done) | (simp; omega) | rfl | assumption
          replace H := H.cast (L' := ([.own A_cap0 c_cap0 3 1 (List.map encN ((l3.set (Int.toNat t29_1) (min x1 x2)))), .blk b_cap0 39 [.slice A_cap0 (((l3.set (Int.toNat t29_1) (min x1 x2))).length) c_cap0]] ++ R)) (by first | (rw [hce2]; done) | simp [hce2] | rfl)
          refine LW.nil (jK94 _ _ ⟨_, ?_, ⟨((l3.set (Int.toNat t29_1) (min x1 x2))), F, rfl, H, (show ((l3.set (Int.toNat t29_1) (min x1 x2))).length = cap0.length by first | rfl | assumption | omega | (simp; done) | (simp; assumption) | (simp; omega))⟩⟩)
          exact ⟨rfl, rfl, rfl, rfl, rfl, rfl, trivial⟩
        ·
          replace F := ite_n hp2 F
          have hq2 := dec_f hp2
          refine CW.condF rfl hq2 ?_
          refine CW.skip (jK94 _ _ ⟨_, ?_, ⟨l3, F, rfl, H, (show l3.length = cap0.length by first | rfl | assumption | omega | (simp; done) | (simp; assumption) | (simp; omega))⟩⟩)
          exact ⟨rfl, rfl, rfl, rfl, rfl, rfl, trivial⟩
    ·
      replace F := ite_n hp1 F
      have hq1 := dec_f hp1
      refine CW.condF rfl hq1 ?_
      refine CW.exit (jK74 _ _ ⟨_, ?_, ⟨l3, F, rfl, H, (show l3.length = cap0.length by first | rfl | assumption | omega | (simp; done) | (simp; assumption) | (simp; omega))⟩⟩)
      exact ⟨rfl, rfl, rfl, trivial⟩
set_option maxRecDepth 20000 in
set_option maxHeartbeats 1000000 in
theorem level_forest_ok {a0 : Survey} {A_a0_readings : Option Addr} {c_a0_readings : Nat} {w : World} {res : (List Int) × (List Int)} (h_a0_readings : Sl w A_a0_readings c_a0_readings 4 (a0.readings.map encReading)) (F : level_forest a0 = some res) : Calls Try.prog 62 #[.agg #[.int .i64 a0.points, .slice A_a0_readings a0.readings.length c_a0_readings]] w (fun e w' => ∃ (A1 : Option Addr) (c1 : Nat) (A2 : Option Addr) (c2 : Nat), e = .returned (.tuple #[.slice A1 res.1.length c1, .slice A2 res.2.length c2]) ∧ Hp w w' [.own A1 c1 3 1 (List.map encN res.1), .own A2 c2 3 1 (List.map encN res.2)]) := by
  refine calls_of_cw (args := [.agg #[.int .i64 a0.points, .slice A_a0_readings a0.readings.length c_a0_readings]]) Try.func62 rfl rfl rfl rfl ?_
  have H := Hp.start w
  have R0 := H.ext
  unfold level_forest at F
  refine CW.seq fun K1 hK1 => ?_
  refine CW.region ?_
  refine LW.go rfl rfl (OW.box rfl fun b1 w1 N1 => ?_)
  replace H := H.new N1 N1.blk
  replace R0 := H.ext
  refine LW.go rfl rfl (OW.alloc Tz39 fun b2 w2 N2 => ?_)
  replace H := H.new N2 N2.blk
  replace R0 := H.ext
  refine LW.pure rfl rfl (RV.assign rfl) ?_
  refine LW.nil (hK1 _ _ ?_)
  refine CW.seqJ (fun ρ wl1 => (∃ (l7 : List Int) (Al7 : Option Addr) (cl7 : Nat), level_forest_k3 a0 l7 = some res ∧ ρ = [(1, .pointer (some (⟨b1, 0, none⟩))), (2, .pointer (some (⟨b2, 0, none⟩))), (3, .slice none 0 0)] ∧ Hp w wl1 [.own Al7 cl7 3 1 (List.map encN l7), .blk b1 24 [.int .i64 a0.points, .slice A_a0_readings a0.readings.length c_a0_readings], .blk b2 39 [.slice Al7 l7.length cl7]])) ?_ ?_
  ·
    rintro _ wl1 ⟨l7, Al7, cl7, F, rfl, H⟩
    have R0 := H.ext
    unfold level_forest_k3 at F
    refine CW.seq fun K2 hK2 => ?_
    refine CW.region ?_
    refine LW.pure rfl rfl (RV.makeFunc (fs := []) (cs := [.pointer (some (⟨b2, 0, none⟩))]) rfl rfl) ?_
    refine LW.pure rfl rfl (RV.assign rfl) ?_
    refine LW.nil (hK2 _ _ ?_)
    refine CW.seqJ (fun ρ wl2 => (∃ (l1 : List Int) (l2 : List Int) (Al1 : Option Addr) (cl1 : Nat), level_forest_k1 l1 l2 = some res ∧ ρ = [(2, .pointer (some (⟨b2, 0, none⟩))), (3, .slice Al1 l1.length cl1)] ∧ Hp w wl2 [.own Al1 cl1 3 1 (List.map encN l1), .own Al7 cl7 3 1 (List.map encN l2), .blk b2 39 [.slice Al7 l2.length cl7]])) ?_ ?_
    ·
      rintro _ wl2 ⟨l1, l2, Al1, cl1, F, rfl, H⟩
      have R0 := H.ext
      unfold level_forest_k1 at F
      refine CW.seq fun K3 hK3 => ?_
      refine CW.region ?_
      refine LW.pure rfl rfl (RV.load1 Tk39 rfl (H.blk 2 rfl).cells rfl) ?_
      refine LW.pure rfl rfl (RV.move rfl) ?_
      refine LW.go rfl rfl (OW.store Tk39 rfl rfl (H.blk 2 rfl) (off := 0) (vs := [.slice Al7 l2.length cl7]) rfl rfl rfl rfl rfl fun w3 S1 => ?_)
      replace H : Hp w w3 [.own Al1 cl1 3 1 (List.map encN l1), .own Al7 cl7 3 1 (List.map encN l2), .blk b2 39 [.slice Al7 l2.length cl7]] := H.stored 2 rfl S1
      replace R0 := H.ext
      refine LW.pure rfl rfl (RV.assign rfl) ?_
      refine LW.nil (hK3 _ _ ?_)
      refine CW.ret ?_
      obtain rfl := Option.some.inj F
      refine ⟨_, (ResOK.two ⟨_, rfl, run_loadVar_cell Tk39 ((H.blk 2 rfl).cells 0 _ rfl)⟩ rfl), ?_⟩
      replace H := H.pick (L' := [.own Al7 cl7 3 1 (List.map encN l2), .own Al1 cl1 3 1 (List.map encN l1)]) [1, 0] (by decide) rfl
      replace R0 := H.ext
      exact ⟨Al7, cl7, Al1, cl1, (by first | rfl | (simp; done) | (simp; omega)), H⟩
    ·
      intro K4 hK4 jK114
      refine CW.seq fun K5 hK5 => ?_
      refine CW.region ?_
      refine LW.pure rfl rfl (RV.fieldAddr Tf24_1 rfl) ?_
      refine LW.pure rfl rfl (RV.load1 Tk22 rfl ((H.blk 1 rfl).cells.off 1) rfl) ?_
      refine LW.pure rfl rfl (RV.len Ts22 rfl) ?_
      refine LW.pure rfl rfl (RV.move rfl) ?_
      refine LW.nil (hK5 _ _ ?_)
      refine CW.block ?_
      replace H := H.nilOwn 3 1
      replace R0 := H.ext
      replace H := H.pick (L' := [.own none 0 3 1 (List.map encN (([] : List Int))), .own Al7 cl7 3 1 (List.map encN l7), .blk b2 39 [.slice Al7 l7.length cl7]]) [0, 1, 3] (by decide) rfl
      replace R0 := H.ext
      refine CW.loop (fun meas ρ wl3 => ∃ (t22_1 : Int) (l5 : List Int) (l6 : List Int) (Al5 : Option Addr) (cl5 : Nat), level_forest_L1 a0 meas t22_1 l5 l6 = some res ∧ ρ = [(2, .pointer (some (⟨b2, 0, none⟩))), (3, .slice Al5 l5.length cl5), (5, .func (.func 93) #[] #[.pointer (some (⟨b2, 0, none⟩))]), (20, .slice A_a0_readings a0.readings.length c_a0_readings), (21, .int .i64 ((a0.readings.length : Int))), (22, .int .i64 t22_1)] ∧ Hp w wl3 [.own Al5 cl5 3 1 (List.map encN l5), .own Al7 cl7 3 1 (List.map encN l6), .blk b2 39 [.slice Al7 l6.length cl7]]) FU ⟨_, ?_, ((0 : Int)), (([] : List Int)), l7, none, 0, F, rfl, H⟩ ?_
      · exact ⟨rfl, (look_slice rfl (by first | rfl | (simp; done) | omega | (simp; omega))), rfl, rfl, rfl, rfl, trivial⟩
      rintro mk1 _ wl3 ⟨t22_1, l5, l6, Al5, cl5, F, rfl, H⟩
      have R0 := H.ext
      replace F := level_forest_L1_s F
      obtain ⟨mk1, rfl, F⟩ := F
      generalize hrec1 : level_forest_L1 a0 mk1 = rec1 at F
      unfold level_forest_B1 at F
      refine CW.seq fun K6 hK6 => ?_
      refine CW.region ?_
      refine LW.pure rfl rfl (RV.lss rfl rfl) ?_
      refine LW.nil (hK6 _ _ ?_)
      refine CW.seq fun K7 hK7 => ?_
      by_cases hp1 : t22_1 < ((a0.readings.length : Int))
      ·
        replace F := ite_y hp1 F
        have hq1 := dec_t hp1
        refine CW.condT rfl hq1 ?_
        refine CW.skip (hK7 _ _ ?_)
        refine CW.seqJ (fun ρ wl4 => (∃ (l3 : List Int) (l4 : List Int) (Al3 : Option Addr) (cl3 : Nat), level_forest_k2 t22_1 rec1 l3 l4 = some res ∧ ρ = [(2, .pointer (some (⟨b2, 0, none⟩))), (3, .slice Al3 l3.length cl3), (5, .func (.func 93) #[] #[.pointer (some (⟨b2, 0, none⟩))]), (20, .slice A_a0_readings a0.readings.length c_a0_readings), (21, .int .i64 ((a0.readings.length : Int))), (22, .int .i64 t22_1)] ∧ Hp w wl4 [.own Al3 cl3 3 1 (List.map encN l3), .own Al7 cl7 3 1 (List.map encN l4), .blk b2 39 [.slice Al7 l4.length cl7]])) ?_ ?_
        ·
          rintro _ wl4 ⟨l3, l4, Al3, cl3, F, rfl, H⟩
          have R0 := H.ext
          unfold level_forest_k2 at F
          obtain ⟨hg1, F⟩ := gd_some F
          refine CW.region ?_
          refine LW.pure rfl rfl (RV.add rfl rfl hg1) ?_
          refine LW.pure rfl rfl (RV.move rfl) ?_
          refine LW.nil ?_
          subst hrec1
          refine ⟨mk1, Nat.lt_succ_self _, _, ?_, (t22_1 + 1), l3, l4, Al3, cl3, F, rfl, H⟩
          exact ⟨rfl, (look_slice rfl (by first | rfl | (simp; done) | omega | (simp; omega))), rfl, rfl, rfl, rfl, trivial⟩
        ·
          intro K8 hK8 jK134
          refine CW.block ?_
          refine CW.seq fun K9 hK9 => ?_
          obtain ⟨x1, hbx1, hx1, F⟩ := ix_some F
          refine CW.region ?_
          refine LW.pure rfl rfl (RV.move rfl) ?_
          refine LW.pure rfl rfl (RV.indexAddr Ts22 rfl rfl hbx1 (h_a0_readings.addr_ hx1)) ?_
          refine LW.pure rfl rfl (RV.loadA [.int .i64 x1.from_, .int .i64 x1.to_, .int .i64 x1.rise, .int .i64 x1.weight] Tk46 rfl ((h_a0_readings.at_ hx1).ext R0) rfl rfl) ?_
          refine LW.go rfl rfl (OW.alloc Tz46 fun b3 w4 N3 => ?_)
          replace H := H.new N3 N3.blk
          replace R0 := H.ext
          refine LW.pure rfl rfl (RV.assign rfl) ?_
          refine LW.go rfl rfl (OW.store Tk46 rfl rfl (H.blk 0 rfl) (off := 0) (vs := [.int .i64 x1.from_, .int .i64 x1.to_, .int .i64 x1.rise, .int .i64 x1.weight]) rfl rfl rfl rfl rfl fun w5 S2 => ?_)
          replace H : Hp w w5 [.blk b3 46 [.int .i64 x1.from_, .int .i64 x1.to_, .int .i64 x1.rise, .int .i64 x1.weight], .own Al5 cl5 3 1 (List.map encN l5), .own Al7 cl7 3 1 (List.map encN l6), .blk b2 39 [.slice Al7 l6.length cl7]] := H.stored 0 rfl S2
          replace R0 := H.ext
          refine LW.nil (hK9 _ _ ?_)
          refine CW.seq fun K10 hK10 => ?_
          obtain ⟨r1, hr1, F⟩ := bnd_some F
          refine CW.region ?_
          refine LW.pure rfl rfl (RV.move rfl) ?_
          refine LW.pure rfl rfl (RV.fieldAddr Tf46_0 rfl) ?_
          refine LW.pure rfl rfl (RV.load1 Tk3 rfl ((H.blk 0 rfl).cells.off 0) rfl) ?_
          refine LW.pure rfl rfl (RV.fieldAddr Tf46_1 rfl) ?_
          refine LW.pure rfl rfl (RV.load1 Tk3 rfl ((H.blk 0 rfl).cells.off 1) rfl) ?_
          replace H := H.pick (L' := [.own Al7 cl7 3 1 (List.map encN l6), .blk b2 39 [.slice Al7 l6.length cl7], .blk b3 46 [.int .i64 x1.from_, .int .i64 x1.to_, .int .i64 x1.rise, .int .i64 x1.weight], .own Al5 cl5 3 1 (List.map encN l5)]) [2, 3, 0, 1] (by decide) rfl
          replace R0 := H.ext
          refine LW.go rfl rfl (OW.callV2 rfl rfl rfl (CallsV.cap Tc93 (by simp) (level_forest_1_ok (cap0 := l6) (a0 := x1.from_) (a1 := x1.to_) (R := [.blk b3 46 [.int .i64 x1.from_, .int .i64 x1.to_, .int .i64 x1.rise, .int .i64 x1.weight], .own Al5 cl5 3 1 (List.map encN l5)]) H hr1)) ?_)
          rintro _ w6 ⟨rfl, hlm25_cap0, Hq1⟩
          refine ⟨_, rfl, ?_⟩
          replace H : Hp w w6 [.own Al7 cl7 3 1 (List.map encN r1.2), .blk b2 39 [.slice Al7 l6.length cl7], .blk b3 46 [.int .i64 x1.from_, .int .i64 x1.to_, .int .i64 x1.rise, .int .i64 x1.weight], .own Al5 cl5 3 1 (List.map encN l5)] := Hq1
          replace R0 := H.ext
          refine LW.nil (hK10 _ _ ?_)
          by_cases hp2 : r1.1 = true
          ·
            replace F := ite_y hp2 F
            have hq2 : r1.1 = true := hp2
            refine CW.condT rfl hq2 ?_
            obtain ⟨hg2, F⟩ := gd_some F
            refine CW.region ?_
            refine LW.pure rfl rfl (RV.move rfl) ?_
            refine LW.pure rfl rfl (RV.move rfl) ?_
            refine LW.go rfl rfl (OW.buildSlice (e := 3) (vs := [.int .i64 t22_1]) (cs := [.int .i64 t22_1]) rfl (fun _ => by kernel_rfl) fun b4 w7 N4 => ?_)
            replace H := H.made' (k := 1) (t := 3) (enc := encN) (l := ([t22_1] : List Int)) N4 N4.blk (fun _ => rfl) rfl (by first | decide | omega | (simp; done) | (simp; omega))
            replace R0 := H.ext
            refine LW.go rfl rfl (OW.appendG (enc := encN) (l := l5) (xs := ([t22_1] : List Int)) Ts39 rfl (look_slice rfl (by first | rfl | (simp; done) | (simp; omega))) (H.own 4 rfl) (H.own 0 rfl).sl (fun _ => rfl) rfl rfl hg2 (by decide) fun A3 c3 w8 O1 M1 D1 => ?_)
            replace H : Hp w w8 [.own (some ⟨b4, 0, none⟩) ((([t22_1] : List Int)).length) 3 1 (List.map encN (([t22_1] : List Int))), .own Al7 cl7 3 1 (List.map encN r1.2), .blk b2 39 [.slice Al7 l6.length cl7], .blk b3 46 [.int .i64 x1.from_, .int .i64 x1.to_, .int .i64 x1.rise, .int .i64 x1.weight], .own A3 c3 3 1 (List.map encN ((l5 ++ ([t22_1] : List Int))))] := H.mod 4 rfl M1 O1 D1
            replace R0 := H.ext
            refine LW.pure rfl rfl (RV.assign rfl) ?_
            replace H := H.pick (L' := [.own A3 c3 3 1 (List.map encN ((l5 ++ ([t22_1] : List Int)))), .own Al7 cl7 3 1 (List.map encN r1.2), .blk b2 39 [.slice Al7 l6.length cl7]]) [4, 1, 2] (by decide) rfl
            replace R0 := H.ext
            have hce1 : l6.length = r1.2.length := by first | omega | (simp; done) | (simp; omega) | rfl | assumption
            replace H := H.cast (L' := [.own A3 c3 3 1 (List.map encN ((l5 ++ ([t22_1] : List Int)))), .own Al7 cl7 3 1 (List.map encN r1.2), .blk b2 39 [.slice Al7 r1.2.length cl7]]) (by first | (rw [hce1]; done) | simp [hce1] | rfl)
            refine LW.nil (jK134 _ _ ⟨_, ?_, ⟨((l5 ++ ([t22_1] : List Int))), r1.2, A3, c3, F, rfl, H⟩⟩)
            exact ⟨rfl, (look_slice rfl (by first | rfl | (simp; done) | omega | (simp; omega))), rfl, rfl, rfl, rfl, trivial⟩
          ·
            replace F := ite_n hp2 F
            have hq2 : r1.1 = false := raw_f hp2
            refine CW.condF rfl hq2 ?_
            replace H := H.pick (L' := [.own Al5 cl5 3 1 (List.map encN l5), .own Al7 cl7 3 1 (List.map encN r1.2), .blk b2 39 [.slice Al7 l6.length cl7]]) [3, 0, 1] (by decide) rfl
            replace R0 := H.ext
            have hce2 : l6.length = r1.2.length := by first | omega | (simp; done) | (simp; omega) | rfl | assumption
            replace H := H.cast (L' := [.own Al5 cl5 3 1 (List.map encN l5), .own Al7 cl7 3 1 (List.map encN r1.2), .blk b2 39 [.slice Al7 r1.2.length cl7]]) (by first | (rw [hce2]; done) | simp [hce2] | rfl)
            refine CW.skip (jK134 _ _ ⟨_, ?_, ⟨l5, r1.2, Al5, cl5, F, rfl, H⟩⟩)
            exact ⟨rfl, (look_slice rfl (by first | rfl | (simp; done) | omega | (simp; omega))), rfl, rfl, rfl, rfl, trivial⟩
      ·
        replace F := ite_n hp1 F
        have hq1 := dec_f hp1
        refine CW.condF rfl hq1 ?_
        refine CW.exit (jK114 _ _ ⟨_, ?_, ⟨l5, l6, Al5, cl5, F, rfl, H⟩⟩)
        exact ⟨rfl, (look_slice rfl (by first | rfl | (simp; done) | omega | (simp; omega))), trivial⟩
  ·
    intro K11 hK11 jK137
    refine CW.seq fun K12 hK12 => ?_
    refine CW.region ?_
    refine LW.pure rfl rfl (RV.fieldAddr Tf24_0 rfl) ?_
    refine LW.pure rfl rfl (RV.load1 Tk3 rfl ((H.blk 1 rfl).cells.off 0) rfl) ?_
    refine LW.pure rfl rfl (RV.move rfl) ?_
    refine LW.nil (hK12 _ _ ?_)
    refine CW.block ?_
    replace H := H.nilOwn 3 1
    replace R0 := H.ext
    replace H := H.pick (L' := [.own none 0 3 1 (List.map encN (([] : List Int))), .blk b1 24 [.int .i64 a0.points, .slice A_a0_readings a0.readings.length c_a0_readings], .blk b2 39 [.slice none 0 0]]) [0, 2, 1] (by decide) rfl
    replace R0 := H.ext
    have hce3 : 0 = (([] : List Int)).length := by first | omega | (simp; done) | (simp; omega) | rfl | assumption
    replace H := H.cast (L' := [.own none 0 3 1 (List.map encN (([] : List Int))), .blk b1 24 [.int .i64 a0.points, .slice A_a0_readings a0.readings.length c_a0_readings], .blk b2 39 [.slice none ((([] : List Int)).length) 0]]) (by first | (rw [hce3]; done) | simp [hce3] | rfl)
    refine CW.loop (fun meas ρ wl5 => ∃ (t10_1 : Int) (l8 : List Int) (Al8 : Option Addr) (cl8 : Nat), level_forest_L2 a0 meas t10_1 l8 = some res ∧ ρ = [(1, .pointer (some (⟨b1, 0, none⟩))), (2, .pointer (some (⟨b2, 0, none⟩))), (3, .slice none 0 0), (9, .int .i64 a0.points), (10, .int .i64 t10_1)] ∧ Hp w wl5 [.own Al8 cl8 3 1 (List.map encN l8), .blk b1 24 [.int .i64 a0.points, .slice A_a0_readings a0.readings.length c_a0_readings], .blk b2 39 [.slice Al8 l8.length cl8]]) FU ⟨_, ?_, ((0 : Int)), (([] : List Int)), none, 0, F, rfl, H⟩ ?_
    · exact ⟨rfl, rfl, rfl, rfl, rfl, trivial⟩
    rintro mk2 _ wl5 ⟨t10_1, l8, Al8, cl8, F, rfl, H⟩
    have R0 := H.ext
    replace F := level_forest_L2_s F
    obtain ⟨mk2, rfl, F⟩ := F
    generalize hrec2 : level_forest_L2 a0 mk2 = rec2 at F
    unfold level_forest_B2 at F
    refine CW.seq fun K13 hK13 => ?_
    refine CW.region ?_
    refine LW.pure rfl rfl (RV.lss rfl rfl) ?_
    refine LW.nil (hK13 _ _ ?_)
    refine CW.seq fun K14 hK14 => ?_
    by_cases hp3 : t10_1 < a0.points
    ·
      replace F := ite_y hp3 F
      have hq3 := dec_t hp3
      refine CW.condT rfl hq3 ?_
      refine CW.skip (hK14 _ _ ?_)
      refine CW.seq fun K15 hK15 => ?_
      refine CW.block ?_
      refine CW.seq fun K16 hK16 => ?_
      refine CW.region ?_
      refine LW.pure rfl rfl (RV.move rfl) ?_
      refine LW.pure rfl rfl (RV.assign rfl) ?_
      refine LW.nil (hK16 _ _ ?_)
      obtain ⟨hg3, F⟩ := gd_some F
      refine CW.region ?_
      refine LW.pure rfl rfl (RV.load1 Tk39 rfl (H.blk 2 rfl).cells rfl) ?_
      refine LW.pure rfl rfl (RV.move rfl) ?_
      refine LW.go rfl rfl (OW.buildSlice (e := 3) (vs := [.int .i64 t10_1]) (cs := [.int .i64 t10_1]) rfl (fun _ => by kernel_rfl) fun b5 w9 N5 => ?_)
      replace H := H.made' (k := 1) (t := 3) (enc := encN) (l := ([t10_1] : List Int)) N5 N5.blk (fun _ => rfl) rfl (by first | decide | omega | (simp; done) | (simp; omega))
      replace R0 := H.ext
      refine LW.go rfl rfl (OW.appendG (enc := encN) (l := l8) (xs := ([t10_1] : List Int)) Ts39 rfl (look_slice rfl (by first | rfl | (simp; done) | (simp; omega))) (H.own 1 rfl) (H.own 0 rfl).sl (fun _ => rfl) rfl rfl hg3 (by decide) fun A4 c4 w10 O2 M2 D2 => ?_)
      replace H : Hp w w10 [.own (some ⟨b5, 0, none⟩) ((([t10_1] : List Int)).length) 3 1 (List.map encN (([t10_1] : List Int))), .own A4 c4 3 1 (List.map encN ((l8 ++ ([t10_1] : List Int)))), .blk b1 24 [.int .i64 a0.points, .slice A_a0_readings a0.readings.length c_a0_readings], .blk b2 39 [.slice Al8 l8.length cl8]] := H.mod 1 rfl M2 O2 D2
      replace R0 := H.ext
      refine LW.go rfl rfl (OW.store Tk39 rfl rfl (H.blk 3 rfl) (off := 0) (vs := [.slice A4 (((l8 ++ ([t10_1] : List Int))).length) c4]) rfl rfl rfl rfl rfl fun w11 S3 => ?_)
      replace H : Hp w w11 [.own (some ⟨b5, 0, none⟩) ((([t10_1] : List Int)).length) 3 1 (List.map encN (([t10_1] : List Int))), .own A4 c4 3 1 (List.map encN ((l8 ++ ([t10_1] : List Int)))), .blk b1 24 [.int .i64 a0.points, .slice A_a0_readings a0.readings.length c_a0_readings], .blk b2 39 [.slice A4 (((l8 ++ ([t10_1] : List Int))).length) c4]] := H.stored 3 rfl S3
      replace R0 := H.ext
      refine LW.nil (hK15 _ _ ?_)
      obtain ⟨hg4, F⟩ := gd_some F
      refine CW.region ?_
      refine LW.pure rfl rfl (RV.add rfl rfl hg4) ?_
      refine LW.pure rfl rfl (RV.move rfl) ?_
      refine LW.nil ?_
      replace H := H.pick (L' := [.own A4 c4 3 1 (List.map encN ((l8 ++ ([t10_1] : List Int)))), .blk b1 24 [.int .i64 a0.points, .slice A_a0_readings a0.readings.length c_a0_readings], .blk b2 39 [.slice A4 (((l8 ++ ([t10_1] : List Int))).length) c4]]) [1, 2, 3] (by decide) rfl
      replace R0 := H.ext
      subst hrec2
      refine ⟨mk2, Nat.lt_succ_self _, _, ?_, (t10_1 + 1), ((l8 ++ ([t10_1] : List Int))), A4, c4, F, rfl, H⟩
      exact ⟨rfl, rfl, rfl, rfl, rfl, trivial⟩
    ·
      replace F := ite_n hp3 F
      have hq3 := dec_f hp3
      refine CW.condF rfl hq3 ?_
      refine CW.exit (jK137 _ _ ⟨_, ?_, ⟨l8, Al8, cl8, F, rfl, H⟩⟩)
      exact ⟨rfl, rfl, rfl, trivial⟩
end Go.D1

set_option linter.unusedVariables false
set_option linter.unusedSimpArgs false
namespace Go.D1
open Go.Tb Go.Proofs Go.RowKit
theorem Ta113 : tyA Try.prog 113 = some (3, 2, 1) := by kernel_rfl
theorem Ta114 : tyA Try.prog 114 = some (113, 2, 2) := by kernel_rfl
theorem Tc102 : callable Try.prog 102 = true := by kernel_rfl
theorem Tc109 : callable Try.prog 109 = true := by kernel_rfl
theorem Tc110 : callable Try.prog 110 = true := by kernel_rfl
theorem Tc62 : callable Try.prog 62 = true := by kernel_rfl
theorem Tc94 : callable Try.prog 94 = true := by kernel_rfl
theorem Tf28_0 : tyF Try.prog 28 0 = some 0 := by kernel_rfl
theorem Tk113 : tyK Try.prog 113 = some (true, 2) := by kernel_rfl
theorem Tk24 : tyK Try.prog 24 = some (true, 2) := by kernel_rfl
theorem Tk53 : tyK Try.prog 53 = some (false, 1) := by kernel_rfl
theorem Ts101 : tyS Try.prog 101 = some (53, 1, 24, [.slice none 0 0]) := by kernel_rfl
theorem Ts36 : tyS Try.prog 36 = some (39, 1, 24, [.slice none 0 0]) := by kernel_rfl
theorem Ts53 : tyS Try.prog 53 = some (28, 2, 16, [.int .i64 0, .int .i64 0]) := by kernel_rfl
theorem Tu115 : Try.prog.underlying 115 = some (.int .u64) := by kernel_rfl
theorem Tu115s : (Try.prog.underlying 115).isSome = true := by kernel_rfl
theorem Tu3 : Try.prog.underlying 3 = some (.int .i64) := by kernel_rfl
theorem Tu3s : (Try.prog.underlying 3).isSome = true := by kernel_rfl
theorem Tz113 : tyZ Try.prog 113 = some (.agg #[.int .i64 0, .int .i64 0]) := by kernel_rfl
theorem Tz53 : tyZ Try.prog 53 = some (.slice none 0 0) := by kernel_rfl
set_option maxRecDepth 20000 in
set_option maxHeartbeats 1000000 in
theorem level_parts_ok {a0 : Survey} {A_a0_readings : Option Addr} {c_a0_readings : Nat} {w : World} {res : (List (List Int))} (h_a0_readings : Sl w A_a0_readings c_a0_readings 4 (a0.readings.map encReading)) (F : level_parts a0 = some res) : Calls Try.prog 66 #[.agg #[.int .i64 a0.points, .slice A_a0_readings a0.readings.length c_a0_readings]] w (fun e w' => ∃ (A1 : Option Addr) (c1 : Nat) (hs0 : List (Option Addr × Nat)), e = .returned (.slice A1 res.length c1) ∧ Hp w w' [.tab A1 c1 39 hs0 3 1 (encM encN res)]) := by
  refine calls_of_cw (args := [.agg #[.int .i64 a0.points, .slice A_a0_readings a0.readings.length c_a0_readings]]) Try.func66 rfl rfl rfl rfl ?_
  have H := Hp.start w
  have R0 := H.ext
  unfold level_parts at F
  refine CW.seq fun K1 hK1 => ?_
  refine CW.region ?_
  refine LW.go rfl rfl (OW.box rfl fun b1 w1 N1 => ?_)
  replace H := H.new N1 N1.blk
  replace R0 := H.ext
  refine LW.pure rfl rfl (RV.assign rfl) ?_
  refine LW.nil (hK1 _ _ ?_)
  refine CW.seq fun K2 hK2 => ?_
  obtain ⟨r1, hr1, F⟩ := bnd_some F
  refine CW.region ?_
  refine LW.pure rfl rfl (RV.loadA [.int .i64 a0.points, .slice A_a0_readings a0.readings.length c_a0_readings] Tk24 rfl (H.blk 0 rfl).cells rfl rfl) ?_
  refine LW.go rfl rfl (OW.call Tc62 rfl (level_forest_ok (a0 := a0) (h_a0_readings.ext R0) hr1) ?_)
  rintro _ w2 ⟨A3_0, c3_0, A3_1, c3_1, rfl, E1⟩
  refine ⟨_, rfl, ?_⟩
  replace H : Hp w w2 [.own A3_0 c3_0 3 1 (List.map encN r1.1), .own A3_1 c3_1 3 1 (List.map encN r1.2), .blk b1 24 [.int .i64 a0.points, .slice A_a0_readings a0.readings.length c_a0_readings]] := H.append E1
  replace R0 := H.ext
  refine LW.pure rfl rfl (RV.move rfl) ?_
  refine LW.pure rfl rfl (RV.extract rfl rfl) ?_
  refine LW.pure rfl rfl (RV.extract rfl rfl) ?_
  refine LW.pure rfl rfl (RV.assign rfl) ?_
  refine LW.pure rfl rfl (RV.assign rfl) ?_
  refine LW.nil (hK2 _ _ ?_)
  refine CW.seq fun K3 hK3 => ?_
  refine CW.region ?_
  refine LW.pure rfl rfl (RV.assign rfl) ?_
  refine LW.nil (hK3 _ _ ?_)
  refine CW.seqJ (fun ρ wl1 => (∃ (m1 : List (List Int)) (hsm1 : List (Option Addr × Nat)) (Am1 : Option Addr) (cm1 : Nat), level_parts_k1 m1 = some res ∧ ρ = [(2, .slice none 0 0), (5, .slice Am1 m1.length cm1)] ∧ Hp w wl1 [.tab Am1 cm1 39 hsm1 3 1 (encM encN m1)])) ?_ ?_
  ·
    rintro _ wl1 ⟨m1, hsm1, Am1, cm1, F, rfl, H⟩
    have R0 := H.ext
    unfold level_parts_k1 at F
    refine CW.seq fun K4 hK4 => ?_
    refine CW.region ?_
    refine LW.pure rfl rfl (RV.move rfl) ?_
    refine LW.pure rfl rfl (RV.assign rfl) ?_
    refine LW.nil (hK4 _ _ ?_)
    refine CW.ret ?_
    obtain rfl := Option.some.inj F
    refine ⟨_, (ResOK.one rfl), ?_⟩
    exact ⟨Am1, cm1, hsm1, (by first | rfl | (simp; done) | (simp; omega)), H⟩
  ·
    intro K5 hK5 jK922
    refine CW.seq fun K6 hK6 => ?_
    refine CW.region ?_
    refine LW.pure rfl rfl (RV.move rfl) ?_
    refine LW.pure rfl rfl (RV.len Ts39 rfl) ?_
    refine LW.pure rfl rfl (RV.move rfl) ?_
    refine LW.nil (hK6 _ _ ?_)
    refine CW.block ?_
    replace H := H.nilTab encN 39 3 1
    replace R0 := H.ext
    replace H := H.pick (L' := [.own A3_0 c3_0 3 1 (List.map encN r1.1), .tab none 0 39 ([]) 3 1 (encM encN (([] : List (List Int))))]) [1, 0] (by decide) rfl
    replace R0 := H.ext
    refine CW.loop (fun meas ρ wl2 => ∃ (t16_1 : Int) (m3 : List (List Int)) (hsm3 : List (Option Addr × Nat)) (Am3 : Option Addr) (cm3 : Nat), level_parts_L2 r1 meas t16_1 m3 = some res ∧ ρ = [(2, .slice none 0 0), (3, .slice A3_0 r1.1.length c3_0), (5, .slice Am3 m3.length cm3), (15, .int .i64 ((r1.1.length : Int))), (16, .int .i64 t16_1)] ∧ Hp w wl2 [.own A3_0 c3_0 3 1 (List.map encN r1.1), .tab Am3 cm3 39 hsm3 3 1 (encM encN m3)]) FU ⟨_, ?_, ((0 : Int)), (([] : List (List Int))), ([]), none, 0, F, rfl, H⟩ ?_
    · exact ⟨rfl, (look_slice rfl (by first | rfl | (simp; done) | omega | (simp; omega))), (look_slice rfl (by first | rfl | (simp; done) | omega | (simp; omega))), rfl, rfl, trivial⟩
    rintro mk1 _ wl2 ⟨t16_1, m3, hsm3, Am3, cm3, F, rfl, H⟩
    have R0 := H.ext
    replace F := level_parts_L2_s F
    obtain ⟨mk1, rfl, F⟩ := F
    generalize hrec1 : level_parts_L2 r1 mk1 = rec1 at F
    unfold level_parts_B2 at F
    refine CW.seq fun K7 hK7 => ?_
    refine CW.region ?_
    refine LW.pure rfl rfl (RV.lss rfl rfl) ?_
    refine LW.nil (hK7 _ _ ?_)
    refine CW.seq fun K8 hK8 => ?_
    by_cases hp1 : t16_1 < ((r1.1.length : Int))
    ·
      replace F := ite_y hp1 F
      have hq1 := dec_t hp1
      refine CW.condT rfl hq1 ?_
      refine CW.skip (hK8 _ _ ?_)
      refine CW.seqJ (fun ρ wl3 => (∃ (m2 : List (List Int)) (hsm2 : List (Option Addr × Nat)) (Am2 : Option Addr) (cm2 : Nat), level_parts_k2 t16_1 rec1 m2 = some res ∧ ρ = [(2, .slice none 0 0), (3, .slice A3_0 r1.1.length c3_0), (5, .slice Am2 m2.length cm2), (15, .int .i64 ((r1.1.length : Int))), (16, .int .i64 t16_1)] ∧ Hp w wl3 [.own A3_0 c3_0 3 1 (List.map encN r1.1), .tab Am2 cm2 39 hsm2 3 1 (encM encN m2)])) ?_ ?_
      ·
        rintro _ wl3 ⟨m2, hsm2, Am2, cm2, F, rfl, H⟩
        have R0 := H.ext
        unfold level_parts_k2 at F
        obtain ⟨hg1, F⟩ := gd_some F
        refine CW.region ?_
        refine LW.pure rfl rfl (RV.add rfl rfl hg1) ?_
        refine LW.pure rfl rfl (RV.move rfl) ?_
        refine LW.nil ?_
        subst hrec1
        refine ⟨mk1, Nat.lt_succ_self _, _, ?_, (t16_1 + 1), m2, hsm2, Am2, cm2, F, rfl, H⟩
        exact ⟨rfl, (look_slice rfl (by first | rfl | (simp; done) | omega | (simp; omega))), (look_slice rfl (by first | rfl | (simp; done) | omega | (simp; omega))), rfl, rfl, trivial⟩
      ·
        intro K9 hK9 jK1177
        refine CW.block ?_
        refine CW.seq fun K10 hK10 => ?_
        refine CW.region ?_
        refine LW.pure rfl rfl (RV.move rfl) ?_
        refine LW.pure rfl rfl (RV.assign rfl) ?_
        refine LW.nil (hK10 _ _ ?_)
        refine CW.seq fun K11 hK11 => ?_
        refine CW.seq fun K12 hK12 => ?_
        obtain ⟨x2, hbx2, hx2, F⟩ := ix_some F
        refine CW.region ?_
        refine LW.pure rfl rfl (RV.move rfl) ?_
        refine LW.pure rfl rfl (RV.move rfl) ?_
        refine LW.pure rfl rfl (RV.indexAddr Ts39 rfl rfl hbx2 ((H.own 0 rfl).sl.addr_ hx2)) ?_
        refine LW.pure rfl rfl (RV.load1 Tk3 rfl ((H.own 0 rfl).sl.at_ hx2) rfl) ?_
        refine LW.pure rfl rfl (RV.move rfl) ?_
        refine LW.pure rfl rfl (RV.nei rfl rfl) ?_
        refine LW.nil (hK12 _ _ ?_)
        by_cases hp2 : x2 = t16_1
        ·
          replace F := ite_y hp2 F
          have hq2 := dec_t hp2
          refine CW.condF rfl (not_f hq2) ?_
          refine CW.skip (hK11 _ _ ?_)
          refine CW.seq fun K13 hK13 => ?_
          refine CW.region ?_
          refine LW.pure rfl rfl (RV.assign rfl) ?_
          refine LW.nil (hK13 _ _ ?_)
          refine CW.seqJ (fun ρ wl4 => (∃ (l1 : List Int) (Al1 : Option Addr) (cl1 : Nat), level_parts_k3 t16_1 m3 rec1 l1 = some res ∧ ρ = [(2, .slice none 0 0), (3, .slice A3_0 r1.1.length c3_0), (5, .slice Am3 m3.length cm3), (7, .slice Al1 l1.length cl1), (15, .int .i64 ((r1.1.length : Int))), (16, .int .i64 t16_1)] ∧ Hp w wl4 [.own A3_0 c3_0 3 1 (List.map encN r1.1), .tab Am3 cm3 39 hsm3 3 1 (encM encN m3), .own Al1 cl1 3 1 (List.map encN l1)])) ?_ ?_
          ·
            rintro _ wl4 ⟨l1, Al1, cl1, F, rfl, H⟩
            have R0 := H.ext
            unfold level_parts_k3 at F
            obtain ⟨hg2, F⟩ := gd_some F
            refine CW.region ?_
            refine LW.pure rfl rfl (RV.move rfl) ?_
            refine LW.pure rfl rfl (RV.move rfl) ?_
            refine LW.go rfl rfl (OW.buildSlice (e := 39) (vs := [.slice Al1 l1.length cl1]) (cs := [.slice Al1 l1.length cl1]) rfl (fun _ => by kernel_rfl) fun b2 w3 N2 => ?_)
            replace H := H.made' (k := 1) (t := 39) (enc := encH) (l := ([((Al1, cl1), List.map encN l1)] : List ((Option Addr × Nat) × List (List Value)))) N2 (by have q := N2.blk; simp only [List.flatMap_cons, List.flatMap_nil, encH, List.length_map, List.append_nil, List.cons_append, List.nil_append]; first | done | exact q) (fun _ => rfl) rfl (by first | decide | omega | (simp; done) | (simp; omega))
            replace R0 := H.ext
            refine LW.go rfl rfl (OW.appendT (enc := encN) (m := m3) (l := l1) Ts36 rfl rfl (H.tab 2 rfl) (H.own 0 rfl).sl rfl hg2 (by decide) fun A2 c2 w4 O1 M1 D1 => ?_)
            replace H : Hp w w4 [.own (some ⟨b2, 0, none⟩) ((([((Al1, cl1), List.map encN l1)] : List ((Option Addr × Nat) × List (List Value)))).length) 39 1 (List.map encH (([((Al1, cl1), List.map encN l1)] : List ((Option Addr × Nat) × List (List Value))))), .own A3_0 c3_0 3 1 (List.map encN r1.1), .tab A2 c2 39 ((hsm3 ++ [(Al1, cl1)])) 3 1 (encM encN ((m3 ++ [l1])))] := H.tabPush 2 3 (by decide) rfl rfl M1 D1 O1
            replace R0 := H.ext
            refine LW.pure rfl rfl (RV.assign rfl) ?_
            replace H := H.pick (L' := [.own A3_0 c3_0 3 1 (List.map encN r1.1), .tab A2 c2 39 ((hsm3 ++ [(Al1, cl1)])) 3 1 (encM encN ((m3 ++ [l1])))]) [1, 2] (by decide) rfl
            replace R0 := H.ext
            refine LW.nil (jK1177 _ _ ⟨_, ?_, ⟨((m3 ++ [l1])), ((hsm3 ++ [(Al1, cl1)])), A2, c2, F, rfl, H⟩⟩)
            exact ⟨rfl, (look_slice rfl (by first | rfl | (simp; done) | omega | (simp; omega))), (look_slice rfl (by first | rfl | (simp; done) | omega | (simp; omega))), rfl, rfl, trivial⟩
          ·
            intro K14 hK14 jK1204
            refine CW.seq fun K15 hK15 => ?_
            refine CW.region ?_
            refine LW.pure rfl rfl (RV.move rfl) ?_
            refine LW.pure rfl rfl (RV.len Ts39 rfl) ?_
            refine LW.pure rfl rfl (RV.move rfl) ?_
            refine LW.nil (hK15 _ _ ?_)
            refine CW.block ?_
            replace H := H.nilOwn 3 1
            replace R0 := H.ext
            replace H := H.pick (L' := [.own A3_0 c3_0 3 1 (List.map encN r1.1), .tab Am3 cm3 39 hsm3 3 1 (encM encN m3), .own none 0 3 1 (List.map encN (([] : List Int)))]) [1, 2, 0] (by decide) rfl
            replace R0 := H.ext
            refine CW.loop (fun meas ρ wl5 => ∃ (t27_1 : Int) (l3 : List Int) (Al3 : Option Addr) (cl3 : Nat), level_parts_L1 r1 t16_1 m3 rec1 meas t27_1 l3 = some res ∧ ρ = [(2, .slice none 0 0), (3, .slice A3_0 r1.1.length c3_0), (5, .slice Am3 m3.length cm3), (6, .int .i64 t16_1), (7, .slice Al3 l3.length cl3), (15, .int .i64 ((r1.1.length : Int))), (16, .int .i64 t16_1), (26, .int .i64 ((r1.1.length : Int))), (27, .int .i64 t27_1)] ∧ Hp w wl5 [.own A3_0 c3_0 3 1 (List.map encN r1.1), .tab Am3 cm3 39 hsm3 3 1 (encM encN m3), .own Al3 cl3 3 1 (List.map encN l3)]) FU ⟨_, ?_, ((0 : Int)), (([] : List Int)), none, 0, F, rfl, H⟩ ?_
            · exact ⟨rfl, (look_slice rfl (by first | rfl | (simp; done) | omega | (simp; omega))), (look_slice rfl (by first | rfl | (simp; done) | omega | (simp; omega))), rfl, (look_slice rfl (by first | rfl | (simp; done) | omega | (simp; omega))), rfl, rfl, rfl, rfl, trivial⟩
            rintro mk2 _ wl5 ⟨t27_1, l3, Al3, cl3, F, rfl, H⟩
            have R0 := H.ext
            replace F := level_parts_L1_s F
            obtain ⟨mk2, rfl, F⟩ := F
            generalize hrec2 : level_parts_L1 r1 t16_1 m3 rec1 mk2 = rec2 at F
            unfold level_parts_B1 at F
            refine CW.seq fun K16 hK16 => ?_
            refine CW.region ?_
            refine LW.pure rfl rfl (RV.lss rfl rfl) ?_
            refine LW.nil (hK16 _ _ ?_)
            refine CW.seq fun K17 hK17 => ?_
            by_cases hp3 : t27_1 < ((r1.1.length : Int))
            ·
              replace F := ite_y hp3 F
              have hq3 := dec_t hp3
              refine CW.condT rfl hq3 ?_
              refine CW.skip (hK17 _ _ ?_)
              refine CW.seqJ (fun ρ wl6 => (∃ (l2 : List Int) (Al2 : Option Addr) (cl2 : Nat), level_parts_k4 t27_1 rec2 l2 = some res ∧ ρ = [(2, .slice none 0 0), (3, .slice A3_0 r1.1.length c3_0), (5, .slice Am3 m3.length cm3), (6, .int .i64 t16_1), (7, .slice Al2 l2.length cl2), (15, .int .i64 ((r1.1.length : Int))), (16, .int .i64 t16_1), (26, .int .i64 ((r1.1.length : Int))), (27, .int .i64 t27_1)] ∧ Hp w wl6 [.own A3_0 c3_0 3 1 (List.map encN r1.1), .tab Am3 cm3 39 hsm3 3 1 (encM encN m3), .own Al2 cl2 3 1 (List.map encN l2)])) ?_ ?_
              ·
                rintro _ wl6 ⟨l2, Al2, cl2, F, rfl, H⟩
                have R0 := H.ext
                unfold level_parts_k4 at F
                obtain ⟨hg3, F⟩ := gd_some F
                refine CW.region ?_
                refine LW.pure rfl rfl (RV.add rfl rfl hg3) ?_
                refine LW.pure rfl rfl (RV.move rfl) ?_
                refine LW.nil ?_
                subst hrec2
                refine ⟨mk2, Nat.lt_succ_self _, _, ?_, (t27_1 + 1), l2, Al2, cl2, F, rfl, H⟩
                exact ⟨rfl, (look_slice rfl (by first | rfl | (simp; done) | omega | (simp; omega))), (look_slice rfl (by first | rfl | (simp; done) | omega | (simp; omega))), rfl, (look_slice rfl (by first | rfl | (simp; done) | omega | (simp; omega))), rfl, rfl, rfl, rfl, trivial⟩
              ·
                intro K18 hK18 jK1224
                refine CW.block ?_
                refine CW.seq fun K19 hK19 => ?_
                refine CW.region ?_
                refine LW.pure rfl rfl (RV.move rfl) ?_
                refine LW.pure rfl rfl (RV.assign rfl) ?_
                refine LW.nil (hK19 _ _ ?_)
                refine CW.seq fun K20 hK20 => ?_
                obtain ⟨x1, hbx1, hx1, F⟩ := ix_some F
                refine CW.region ?_
                refine LW.pure rfl rfl (RV.move rfl) ?_
                refine LW.pure rfl rfl (RV.move rfl) ?_
                refine LW.pure rfl rfl (RV.indexAddr Ts39 rfl rfl hbx1 ((H.own 0 rfl).sl.addr_ hx1)) ?_
                refine LW.pure rfl rfl (RV.load1 Tk3 rfl ((H.own 0 rfl).sl.at_ hx1) rfl) ?_
                refine LW.pure rfl rfl (RV.move rfl) ?_
                refine LW.pure rfl rfl (RV.eqi rfl rfl) ?_
                refine LW.nil (hK20 _ _ ?_)
                by_cases hp4 : x1 = t16_1
                ·
                  replace F := ite_y hp4 F
                  have hq4 := dec_t hp4
                  refine CW.condT rfl hq4 ?_
                  obtain ⟨hg4, F⟩ := gd_some F
                  refine CW.region ?_
                  refine LW.pure rfl rfl (RV.move rfl) ?_
                  refine LW.pure rfl rfl (RV.move rfl) ?_
                  refine LW.go rfl rfl (OW.buildSlice (e := 3) (vs := [.int .i64 t27_1]) (cs := [.int .i64 t27_1]) rfl (fun _ => by kernel_rfl) fun b3 w5 N3 => ?_)
                  replace H := H.made' (k := 1) (t := 3) (enc := encN) (l := ([t27_1] : List Int)) N3 N3.blk (fun _ => rfl) rfl (by first | decide | omega | (simp; done) | (simp; omega))
                  replace R0 := H.ext
                  refine LW.go rfl rfl (OW.appendG (enc := encN) (l := l3) (xs := ([t27_1] : List Int)) Ts39 rfl (look_slice rfl (by first | rfl | (simp; done) | (simp; omega))) (H.own 3 rfl) (H.own 0 rfl).sl (fun _ => rfl) rfl rfl hg4 (by decide) fun A3 c3 w6 O2 M2 D2 => ?_)
                  replace H : Hp w w6 [.own (some ⟨b3, 0, none⟩) ((([t27_1] : List Int)).length) 3 1 (List.map encN (([t27_1] : List Int))), .own A3_0 c3_0 3 1 (List.map encN r1.1), .tab Am3 cm3 39 hsm3 3 1 (encM encN m3), .own A3 c3 3 1 (List.map encN ((l3 ++ ([t27_1] : List Int))))] := H.mod 3 rfl M2 O2 D2
                  replace R0 := H.ext
                  refine LW.pure rfl rfl (RV.assign rfl) ?_
                  replace H := H.pick (L' := [.own A3_0 c3_0 3 1 (List.map encN r1.1), .tab Am3 cm3 39 hsm3 3 1 (encM encN m3), .own A3 c3 3 1 (List.map encN ((l3 ++ ([t27_1] : List Int))))]) [1, 2, 3] (by decide) rfl
                  replace R0 := H.ext
                  refine LW.nil (jK1224 _ _ ⟨_, ?_, ⟨((l3 ++ ([t27_1] : List Int))), A3, c3, F, rfl, H⟩⟩)
                  exact ⟨rfl, (look_slice rfl (by first | rfl | (simp; done) | omega | (simp; omega))), (look_slice rfl (by first | rfl | (simp; done) | omega | (simp; omega))), rfl, (look_slice rfl (by first | rfl | (simp; done) | omega | (simp; omega))), rfl, rfl, rfl, rfl, trivial⟩
                ·
                  replace F := ite_n hp4 F
                  have hq4 := dec_f hp4
                  refine CW.condF rfl hq4 ?_
                  refine CW.skip (jK1224 _ _ ⟨_, ?_, ⟨l3, Al3, cl3, F, rfl, H⟩⟩)
                  exact ⟨rfl, (look_slice rfl (by first | rfl | (simp; done) | omega | (simp; omega))), (look_slice rfl (by first | rfl | (simp; done) | omega | (simp; omega))), rfl, (look_slice rfl (by first | rfl | (simp; done) | omega | (simp; omega))), rfl, rfl, rfl, rfl, trivial⟩
            ·
              replace F := ite_n hp3 F
              have hq3 := dec_f hp3
              refine CW.condF rfl hq3 ?_
              refine CW.exit (jK1204 _ _ ⟨_, ?_, ⟨l3, Al3, cl3, F, rfl, H⟩⟩)
              exact ⟨rfl, (look_slice rfl (by first | rfl | (simp; done) | omega | (simp; omega))), (look_slice rfl (by first | rfl | (simp; done) | omega | (simp; omega))), (look_slice rfl (by first | rfl | (simp; done) | omega | (simp; omega))), rfl, rfl, trivial⟩
        ·
          replace F := ite_n hp2 F
          have hq2 := dec_f hp2
          refine CW.condT rfl (not_t hq2) ?_
          refine CW.exit (jK1177 _ _ ⟨_, ?_, ⟨m3, hsm3, Am3, cm3, F, rfl, H⟩⟩)
          exact ⟨rfl, (look_slice rfl (by first | rfl | (simp; done) | omega | (simp; omega))), (look_slice rfl (by first | rfl | (simp; done) | omega | (simp; omega))), rfl, rfl, trivial⟩
    ·
      replace F := ite_n hp1 F
      have hq1 := dec_f hp1
      refine CW.condF rfl hq1 ?_
      replace H := H.pick (L' := [.tab Am3 cm3 39 hsm3 3 1 (encM encN m3)]) [1] (by decide) rfl
      replace R0 := H.ext
      refine CW.exit (jK922 _ _ ⟨_, ?_, ⟨m3, hsm3, Am3, cm3, F, rfl, H⟩⟩)
      exact ⟨rfl, (look_slice rfl (by first | rfl | (simp; done) | omega | (simp; omega))), trivial⟩
set_option maxRecDepth 20000 in
set_option maxHeartbeats 1000000 in
theorem slices_Index_int_ok {a0 : List Int} {a1 : Int} {A_a0 : Option Addr} {c_a0 : Nat} {w : World} {res : Int} (h_a0 : Sl w A_a0 c_a0 1 (a0.map encN)) (F : slices_Index_int a0 a1 = some res) : Calls Try.prog 94 #[.slice A_a0 a0.length c_a0, .int .i64 a1] w (Rt w (.int .i64 res)) := by
  refine calls_of_cw (args := [.slice A_a0 a0.length c_a0, .int .i64 a1]) Try.func94 rfl rfl rfl rfl ?_
  have H := Hp.start w
  have R0 := H.ext
  unfold slices_Index_int at F
  refine CW.seq fun K1 hK1 => ?_
  refine CW.region ?_
  refine LW.pure rfl rfl (RV.assign rfl) ?_
  refine LW.nil (hK1 _ _ ?_)
  refine CW.seqJ (fun ρ wl1 => (slices_Index_int_k1 = some res ∧ ρ = [(4, .int .i64 0)] ∧ Hp w wl1 [])) ?_ ?_
  ·
    rintro _ wl1 ⟨F, rfl, H⟩
    have R0 := H.ext
    unfold slices_Index_int_k1 at F
    refine CW.seq fun K2 hK2 => ?_
    refine CW.region ?_
    refine LW.pure rfl rfl (RV.assign rfl) ?_
    refine LW.nil (hK2 _ _ ?_)
    refine CW.ret ?_
    obtain rfl := Option.some.inj F
    refine ⟨_, (ResOK.one rfl), ?_⟩
    refine ⟨(by first | rfl | simp), R0⟩
  ·
    intro K3 hK3 jK63
    refine CW.seq fun K4 hK4 => ?_
    refine CW.region ?_
    refine LW.pure rfl rfl (RV.move rfl) ?_
    refine LW.pure rfl rfl (RV.len Ts39 rfl) ?_
    refine LW.pure rfl rfl (RV.move rfl) ?_
    refine LW.nil (hK4 _ _ ?_)
    refine CW.block ?_
    refine CW.loop (fun meas ρ wl2 => ∃ (t8_1 : Int), slices_Index_int_L1 a0 a1 meas t8_1 = some res ∧ ρ = [(0, .slice A_a0 a0.length c_a0), (1, .int .i64 a1), (4, .int .i64 0), (7, .int .i64 ((a0.length : Int))), (8, .int .i64 t8_1)] ∧ Hp w wl2 []) FU ⟨_, ?_, ((0 : Int)), F, rfl, H⟩ ?_
    · exact ⟨rfl, rfl, rfl, rfl, rfl, trivial⟩
    rintro mk1 _ wl2 ⟨t8_1, F, rfl, H⟩
    have R0 := H.ext
    replace F := slices_Index_int_L1_s F
    obtain ⟨mk1, rfl, F⟩ := F
    generalize hrec1 : slices_Index_int_L1 a0 a1 mk1 = rec1 at F
    unfold slices_Index_int_B1 at F
    refine CW.seq fun K5 hK5 => ?_
    refine CW.region ?_
    refine LW.pure rfl rfl (RV.lss rfl rfl) ?_
    refine LW.nil (hK5 _ _ ?_)
    refine CW.seq fun K6 hK6 => ?_
    by_cases hp1 : t8_1 < ((a0.length : Int))
    ·
      replace F := ite_y hp1 F
      have hq1 := dec_t hp1
      refine CW.condT rfl hq1 ?_
      refine CW.skip (hK6 _ _ ?_)
      refine CW.seq fun K7 hK7 => ?_
      refine CW.block ?_
      refine CW.seq fun K8 hK8 => ?_
      refine CW.region ?_
      refine LW.pure rfl rfl (RV.move rfl) ?_
      refine LW.pure rfl rfl (RV.assign rfl) ?_
      refine LW.nil (hK8 _ _ ?_)
      refine CW.seq fun K9 hK9 => ?_
      obtain ⟨x1, hbx1, hx1, F⟩ := ix_some F
      refine CW.region ?_
      refine LW.pure rfl rfl (RV.move rfl) ?_
      refine LW.pure rfl rfl (RV.move rfl) ?_
      refine LW.pure rfl rfl (RV.move rfl) ?_
      refine LW.pure rfl rfl (RV.indexAddr Ts39 rfl rfl hbx1 (h_a0.addr_ hx1)) ?_
      refine LW.pure rfl rfl (RV.load1 Tk3 rfl ((h_a0.at_ hx1).ext R0) rfl) ?_
      refine LW.pure rfl rfl (RV.eqi rfl rfl) ?_
      refine LW.nil (hK9 _ _ ?_)
      by_cases hp2 : a1 = x1
      ·
        replace F := ite_y hp2 F
        have hq2 := dec_t hp2
        refine CW.condT rfl hq2 ?_
        refine CW.seq fun K10 hK10 => ?_
        refine CW.region ?_
        refine LW.pure rfl rfl (RV.move rfl) ?_
        refine LW.pure rfl rfl (RV.assign rfl) ?_
        refine LW.nil (hK10 _ _ ?_)
        refine CW.ret ?_
        obtain rfl := Option.some.inj F
        refine ⟨_, (ResOK.one rfl), ?_⟩
        refine ⟨(by first | rfl | simp), R0⟩
      ·
        replace F := ite_n hp2 F
        have hq2 := dec_f hp2
        refine CW.condF rfl hq2 ?_
        refine CW.skip (hK7 _ _ ?_)
        obtain ⟨hg1, F⟩ := gd_some F
        refine CW.region ?_
        refine LW.pure rfl rfl (RV.add rfl rfl hg1) ?_
        refine LW.pure rfl rfl (RV.move rfl) ?_
        refine LW.nil ?_
        subst hrec1
        refine ⟨mk1, Nat.lt_succ_self _, _, ?_, (t8_1 + 1), F, rfl, H⟩
        exact ⟨rfl, rfl, rfl, rfl, rfl, trivial⟩
    ·
      replace F := ite_n hp1 F
      have hq1 := dec_f hp1
      refine CW.condF rfl hq1 ?_
      refine CW.exit (jK63 _ _ ⟨_, ?_, ⟨F, rfl, H⟩⟩)
      exact ⟨rfl, trivial⟩
set_option maxRecDepth 20000 in
theorem slices_Delete_int_core {l : List Int} {A : Option Addr} {c i j : Nat} {w : World} (o : Own w A c 3 1 (l.map encN)) (hij : i ≤ j) (hj : j ≤ l.length) : Calls Try.prog 95 #[.slice A l.length c, .int .i64 (i : Int), .int .i64 (j : Int)] w (fun e w' => e = .returned (.slice A (l.take i ++ l.drop j).length c) ∧ Own w' A c 3 1 ((l.take i ++ l.drop j).map encN) ∧ Mod w w' A) := by
  have hc : l.length ≤ c := o.sl.le
  refine calls_of_cw (args := [.slice A l.length c, .int .i64 (i : Int), .int .i64 (j : Int)]) Try.func95 rfl rfl rfl rfl ?_
  refine CW.seq fun K1 hK1 => ?_
  refine CW.region ?_
  refine LW.pure rfl rfl (RV.assign rfl) ?_
  refine LW.nil (hK1 _ _ ?_)
  refine CW.seq fun K2 hK2 => ?_
  refine CW.region ?_
  refine LW.pure rfl rfl (RV.move rfl) ?_
  refine LW.pure rfl rfl (RV.move rfl) ?_
  refine LW.pure rfl rfl (RV.move rfl) ?_
  refine LW.pure rfl rfl (RV.move rfl) ?_
  refine LW.pure rfl rfl (RV.len Ts39 rfl) ?_
  refine LW.pure rfl rfl (RV.sliceLHM Ts39 rfl rfl rfl rfl ⟨by omega, by omega, by omega, by omega⟩) ?_
  refine LW.nil (hK2 _ _ ?_)
  refine CW.seq fun K3 hK3 => ?_
  refine CW.seq fun K4 hK4 => ?_
  refine CW.region ?_
  refine LW.pure rfl rfl (RV.move rfl) ?_
  refine LW.pure rfl rfl (RV.move rfl) ?_
  refine LW.pure rfl rfl (RV.eqi rfl rfl) ?_
  refine LW.nil (hK4 _ _ ?_)
  by_cases he : (i : Int) = (j : Int)
  · refine CW.condT rfl (dec_t he) ?_
    refine CW.seq fun K5 hK5 => ?_
    refine CW.region ?_
    refine LW.pure rfl rfl (RV.move rfl) ?_
    refine LW.pure rfl rfl (RV.assign rfl) ?_
    refine LW.nil (hK5 _ _ ?_)
    refine CW.ret ?_
    obtain rfl : i = j := by omega
    have e1 : l.take i ++ l.drop i = l := List.take_append_drop i l
    refine ⟨_, (ResOK.one rfl), ?_⟩
    rw [e1]
    exact ⟨rfl, o, Mod.refl _ _⟩
  · refine CW.condF rfl (dec_f he) ?_
    refine CW.skip (hK3 _ _ ?_)
    obtain ⟨b, rfl⟩ := o.at0 (by omega)
    refine CW.seq fun K6 hK6 => ?_
    refine CW.region ?_
    refine LW.pure rfl rfl (RV.move rfl) ?_
    refine LW.pure rfl rfl (RV.len Ts39 rfl) ?_
    refine LW.pure rfl rfl (RV.assign rfl) ?_
    refine LW.nil (hK6 _ _ ?_)
    refine CW.seq fun K7 hK7 => ?_
    have hl1 : (l.drop j).length = l.length - j := by simp
    have hl2 : (l.take i).length = i := by simp; omega
    have hAj : ∃ a, cutA (some (⟨b, 0, none⟩ : Addr)) c 1 j = some a := by unfold cutA; split <;> exact ⟨_, rfl⟩
    refine CW.draw [6] (fun _ => True) (.cons 0 2 (.cons 1 2 (.cons 2 1 (.cons 3 2 (.cons 4 2 (.cons 5 1 (.cons 6 0 (.cons 7 2 .nil)))))))) mixed (by kernel_rfl) fun w2 E => ?_
    have o2 := o.ext E
    refine DW.thru rfl rfl rfl (fun _ EQ => RV.move rfl) ?_
    refine DW.thru rfl rfl rfl (fun _ EQ => RV.move rfl) ?_
    refine DW.fix rfl rfl rfl (fun _ EQ => RV.sliceHi Ts39 rfl rfl ⟨by omega, by omega⟩) ?_
    refine DW.thru rfl rfl rfl (fun _ EQ => RV.move rfl) ?_
    refine DW.thru rfl rfl rfl (fun _ EQ => RV.move rfl) ?_
    refine DW.fix rfl rfl rfl (fun _ EQ => RV.sliceLo Ts39 rfl rfl ⟨Int.natCast_nonneg _, by omega⟩ hc) ?_
    have src := o2.sl.cut j l.length hj (Nat.le_refl _)
    rw [List.take_length] at src
    refine DW.sole rfl rfl rfl (OW.appendOver (l := l.take i) (xs := l.drop j) (zs := l.drop i) Ts39 rfl (by simp; omega) rfl (by rw [hl1]; simp) (by rw [List.take_append_drop]; exact o2) hAj src (fun _ => rfl) (fun _ => rfl) (by decide) (by simp; omega) fun w3 o3 M3 => ?_)
    refine ⟨fun h => absurd h (by decide), M3.modx (fun _ _ => trivial), ?_⟩
    refine DW.thru rfl rfl rfl (fun _ EQ => RV.assign rfl) ?_
    refine DW.nil (hK7 _ _ ?_)
    have hn : (l.take i ++ l.drop j).length = i + (l.length - j) := by rw [List.length_append, hl1, hl2]
    have hd : (List.drop (l.drop j).length (l.drop i)) = l.drop (i + (l.length - j)) := by rw [List.drop_drop, hl1]
    rw [hd] at o3
    refine CW.seq fun K8 hK8 => ?_
    refine CW.region ?_
    refine LW.pure rfl rfl (RV.move rfl) ?_
    refine LW.pure rfl rfl (RV.move rfl) ?_
    refine LW.pure rfl rfl (RV.len Ts39 rfl) ?_
    refine LW.pure rfl rfl (RV.move rfl) ?_
    refine LW.pure rfl rfl (RV.sliceLH Ts39 rfl rfl rfl ⟨by omega, by omega, by omega⟩) ?_
    have hlen : (l.take i ++ l.drop j ++ l.drop (i + (l.length - j))).length = l.length := by simp; omega
    refine LW.go rfl rfl (OW.clearSub (lo := i + (l.length - j)) (hi := l.length) (0 : Int) Ts39 rfl o3 (fun _ => rfl) rfl rfl (by decide) (by simp only [hn, Int.toNat_natCast]) (by simp only [hn, Int.toNat_natCast]) (by omega) (by rw [hlen]; exact Nat.le_refl _) rfl fun v w4 M4 o4 => ?_)
    refine LW.nil (hK8 _ _ ?_)
    have htk : List.take (i + (l.length - j)) (l.take i ++ l.drop j ++ l.drop (i + (l.length - j))) = l.take i ++ l.drop j := by rw [← hn, List.take_left]
    rw [htk, List.append_assoc, List.map_append] at o4
    have o5 := o4.shrink (by simp)
    refine CW.seq fun K9 hK9 => ?_
    refine CW.region ?_
    refine LW.pure rfl rfl (RV.move rfl) ?_
    refine LW.pure rfl rfl (RV.assign rfl) ?_
    refine LW.nil (hK9 _ _ ?_)
    refine CW.ret ?_
    exact ⟨_, (ResOK.one rfl), rfl, o5, (Mod.of_ext E).trans (M3.trans M4)⟩
set_option maxRecDepth 20000 in
theorem slices_Delete_int_ok {a0 : List Int} {a1 : Int} {a2 : Int} {A_a0 : Option Addr} {c_a0 : Nat} {wb : World} {R : List Ck} {w : World} {res : List Int} (H : Hp wb w ([.own A_a0 c_a0 3 1 (List.map encN a0)] ++ R)) (F : slices_Delete_int a0 a1 a2 = some res) : Calls Try.prog 95 #[.slice A_a0 a0.length c_a0, .int .i64 a1, .int .i64 a2] w (fun e w' => e = .returned (.slice A_a0 res.length c_a0) ∧ Hp wb w' ([.own A_a0 c_a0 3 1 (List.map encN res)] ++ R)) := by
  unfold slices_Delete_int at F
  obtain ⟨hg, F⟩ := gd_some F
  cases F
  obtain ⟨i, rfl⟩ : ∃ i : Nat, a1 = (i : Int) := ⟨Int.toNat a1, by omega⟩
  obtain ⟨j, rfl⟩ : ∃ j : Nat, a2 = (j : Int) := ⟨Int.toNat a2, by omega⟩
  rw [Int.toNat_natCast, Int.toNat_natCast]
  refine (slices_Delete_int_core (H.own 0 rfl) (i := i) (j := j) (by omega) (by omega)).mono ?_
  rintro _ w' ⟨rfl, o, M⟩
  exact ⟨rfl, H.mod 0 rfl M o (.inl rfl)⟩
set_option maxRecDepth 20000 in
set_option maxHeartbeats 1000000 in
theorem level_resist_1_ok {cap0 : Int} {a0 : Int} {b_cap0 : Nat} {w : World} {res : Int} (hc_cap0 : Cells w ⟨b_cap0, 0, none⟩ [.int .i64 cap0]) (F : level_resist_1 cap0 a0 = some res) : Calls Try.prog 98 #[.int .i64 a0, .pointer (some (⟨b_cap0, 0, none⟩))] w (Rt w (.int .i64 res)) := by
  refine calls_of_cw (args := [.int .i64 a0, .pointer (some (⟨b_cap0, 0, none⟩))]) Try.func98 rfl rfl rfl rfl ?_
  have H := Hp.start w
  have R0 := H.ext
  unfold level_resist_1 at F
  refine CW.seq fun K1 hK1 => ?_
  refine CW.region ?_
  refine LW.pure rfl rfl (RV.assign rfl) ?_
  refine LW.nil (hK1 _ _ ?_)
  refine CW.seq fun K2 hK2 => ?_
  refine CW.seq fun K3 hK3 => ?_
  refine CW.region ?_
  refine LW.pure rfl rfl (RV.move rfl) ?_
  refine LW.pure rfl rfl (RV.load1 Tk3 rfl (hc_cap0.ext R0) rfl) ?_
  refine LW.pure rfl rfl (RV.eqi rfl rfl) ?_
  refine LW.nil (hK3 _ _ ?_)
  by_cases hp1 : a0 = cap0
  ·
    replace F := ite_y hp1 F
    have hq1 := dec_t hp1
    refine CW.condT rfl hq1 ?_
    refine CW.seq fun K4 hK4 => ?_
    refine CW.region ?_
    refine LW.pure rfl rfl (RV.assign rfl) ?_
    refine LW.nil (hK4 _ _ ?_)
    refine CW.ret ?_
    obtain rfl := Option.some.inj F
    refine ⟨_, (ResOK.one rfl), ?_⟩
    refine ⟨(by first | rfl | simp), R0⟩
  ·
    replace F := ite_n hp1 F
    have hq1 := dec_f hp1
    refine CW.condF rfl hq1 ?_
    refine CW.skip (hK2 _ _ ?_)
    refine CW.seq fun K5 hK5 => ?_
    refine CW.region ?_
    refine LW.pure rfl rfl (RV.assign rfl) ?_
    refine LW.nil (hK5 _ _ ?_)
    refine CW.ret ?_
    obtain rfl := Option.some.inj F
    refine ⟨_, (ResOK.one rfl), ?_⟩
    refine ⟨(by first | rfl | simp), R0⟩
theorem slices_Repeat_Rat_mul {x : Int} {y : Int} {w : World} (hx : 0 ≤ x ∧ x ≤ 1000) (hy : 0 ≤ y ∧ y ≤ 1000) : Calls Try.prog 110 #[.int .u64 x, .int .u64 y] w (Rt w (.tuple #[.int .u64 0, .int .u64 (x * y)])) := by
  obtain ⟨a, rfl⟩ := Int.eq_ofNat_of_zero_le hx.1
  obtain ⟨b, rfl⟩ := Int.eq_ofNat_of_zero_le hy.1
  have ha : a ≤ 1000 := by omega
  have hb : b ≤ 1000 := by omega
  have hab : a * b ≤ 1000000 := Nat.mul_le_mul ha hb
  refine (Try.bits_Mul a b (by omega) (by omega) w).mono fun e w' ⟨he, hw⟩ => ?_
  subst hw
  refine ⟨?_, Ext.refl _⟩
  rw [he, Nat.div_eq_of_lt (by omega), Nat.mod_eq_of_lt (by omega)]
  simp
set_option maxRecDepth 20000 in
theorem slices_Repeat_Rat_core {x : List Rat} {A_x : Option Addr} {c_x : Nat} {count : Int} {v : Rat} {w : World} (h_x : Sl w A_x c_x 2 (x.map encRat)) (hx : x = [v]) (hc : 1 ≤ count ∧ count ≤ 8) : Calls Try.prog 102 #[.slice A_x x.length c_x, .int .i64 count] w (fun e w' => ∃ (b0 : Nat), e = .returned (.slice (some ⟨b0, 0, none⟩) ((List.replicate (Int.toNat count) v).length) ((List.replicate (Int.toNat count) v).length)) ∧ Blk w' b0 28 ((List.replicate (Int.toNat count) v).flatMap encRat) ∧ w.heap.size ≤ b0 ∧ Ext w w') := by
  refine calls_of_cw (args := [.slice A_x x.length c_x, .int .i64 count]) Try.func102 rfl rfl rfl rfl ?_
  have R0 := Ext.refl w
  have hxl : (x.length : Int) = 1 := by rw [hx]; rfl
  refine CW.seq fun K1 hK1 => ?_
  refine CW.region ?_
  refine LW.pure rfl rfl (RV.assign rfl) ?_
  refine LW.nil (hK1 _ _ ?_)
  refine CW.seq fun K2 hK2 => ?_
  refine CW.seq fun K3 hK3 => ?_
  refine CW.region ?_
  refine LW.pure rfl rfl (RV.move rfl) ?_
  refine LW.pure rfl rfl (RV.lss rfl rfl) ?_
  refine LW.nil (hK3 _ _ ?_)
  refine CW.cond rfl (fun h1 => ?_) (fun h1 => ?_)
  ·
    have h1 := of_decide_eq_true h1
    exfalso; omega
  ·
    have h1 := of_decide_eq_false h1
    refine CW.skip (hK2 _ _ ?_)
    refine CW.seq fun K4 hK4 => ?_
    refine CW.region ?_
    refine LW.pure rfl rfl (RV.move rfl) ?_
    refine LW.pure rfl rfl (RV.len Ts53 rfl) ?_
    refine LW.pure rfl rfl (RV.convII Tu3s Tu115 rfl (IntWalk.u64_in _ (by omega))) ?_
    refine LW.pure rfl rfl (RV.move rfl) ?_
    refine LW.pure rfl rfl (RV.convII Tu3s Tu115 rfl (IntWalk.u64_in _ (by omega))) ?_
    refine LW.go rfl rfl (OW.call Tc110 rfl (slices_Repeat_Rat_mul (x := ((x.length : Nat) : Int)) (y := count) (by omega) (by omega)) ?_)
    rintro _ w1 ⟨rfl, E1⟩
    refine ⟨_, rfl, ?_⟩
    have R0 := R0.trans E1
    rw [show ((x.length : Int) * count) = count from by rw [hxl, Int.one_mul]]
    refine LW.pure rfl rfl (RV.move rfl) ?_
    refine LW.pure rfl rfl (RV.extract rfl rfl) ?_
    refine LW.pure rfl rfl (RV.extract rfl rfl) ?_
    refine LW.pure rfl rfl (RV.assign rfl) ?_
    refine LW.pure rfl rfl (RV.assign rfl) ?_
    refine LW.nil (hK4 _ _ ?_)
    refine CW.seq fun K5 hK5 => ?_
    refine CW.seq fun K6 hK6 => ?_
    refine CW.region ?_
    refine LW.pure rfl rfl (RV.move rfl) ?_
    refine LW.pure rfl rfl (RV.gtr rfl rfl) ?_
    refine LW.pure rfl rfl (RV.move rfl) ?_
    cases h2 : decide (0 < 0)
    ·
      have h2 := of_decide_eq_false h2
      refine LW.pureY rfl rfl rfl rfl (RV.move rfl) ?_
      refine LW.pureY rfl rfl rfl rfl (RV.gtr rfl rfl) ?_
      refine LW.pure rfl rfl (RV.pickF rfl rfl) ?_
      refine LW.nil (hK6 _ _ ?_)
      refine CW.cond rfl (fun h3 => ?_) (fun h3 => ?_)
      ·
        have h3 := of_decide_eq_true h3
        exfalso; omega
      ·
        have h3 := of_decide_eq_false h3
        refine CW.skip (hK5 _ _ ?_)
        refine CW.seq fun K7 hK7 => ?_
        refine CW.region ?_
        refine LW.pure rfl rfl (RV.move rfl) ?_
        refine LW.pure rfl rfl (RV.convII Tu115s Tu3 rfl (IntWalk.i64_in _ (by omega))) ?_
        refine LW.go rfl rfl (OW.makeL (enc := encRat) ((⟨0, 0⟩ : Rat) : Rat) Ts53 rfl rfl rfl rfl rfl (by omega) (by omega) (by omega) fun b1 w2 N1 => ?_)
        have Gb1 : w.heap.size ≤ b1 := N1.ge R0
        have R0 := R0.trans N1.ext
        have Bb1 : Blk w2 b1 28 ((List.replicate (Int.toNat count) ((⟨0, 0⟩ : Rat) : Rat)).flatMap encRat) := N1.blk
        refine LW.pure rfl rfl (RV.assign rfl) ?_
        refine LW.nil (hK7 _ _ ?_)
        refine CW.seq fun K8 hK8 => ?_
        refine CW.region ?_
        refine LW.pure rfl rfl (RV.move rfl) ?_
        refine LW.pure rfl rfl (RV.move rfl) ?_
        have hov : over ((List.replicate (Int.toNat count) ((⟨0, 0⟩ : Rat) : Rat)).flatMap encRat) 0 (encRat v) = (List.replicate 1 v ++ List.replicate (Int.toNat count - 1) ((⟨0, 0⟩ : Rat) : Rat)).flatMap encRat := by
          have h := rep_step (enc := encRat) (k := 2) (fun _ => rfl) v ((⟨0, 0⟩ : Rat) : Rat) (Int.toNat count) 0 1 (by omega) (by omega)
          simpa using h
        refine LW.go rfl rfl (OW.copyM (o := 0) (vs := encRat v) Ts53 rfl (rfl) rfl Bb1 (by rw [len_flatMap (k := 2) (fun _ => rfl)]; simp) (by rw [hx]; have e : min [v].length (Int.toNat count) = 1 := (by simp; omega); rw [e]; rfl) (fun _ => by obtain ⟨a, ha⟩ := (h_x.addr (i := 0) (by omega)); exact ⟨a, ha, fun j u hj => by have := (h_x.ext R0).at_ (j := 0) (x := v) (by rw [hx]; rfl); subst ha; simpa [elemPtr, Addr.add] using this j u hj⟩) (rfl) fun w3 S1 => ?_)
        have R0 := R0.stored S1 Gb1
        have Bb1 : Blk w3 b1 28 ((List.replicate 1 v ++ List.replicate (Int.toNat count - 1) ((⟨0, 0⟩ : Rat) : Rat)).flatMap encRat) := by have h := S1.blk; rw [hov] at h; exact h
        rw [show ((min x.length (Int.toNat count) : Nat) : Int) = ((1 : Nat) : Int) by rw [hx]; simp; omega]
        refine LW.pure rfl rfl (RV.assign rfl) ?_
        refine LW.nil (hK8 _ _ ?_)
        refine CW.seq fun K9 hK9 => ?_
        refine CW.block ?_
        refine CW.loop (fun meas ρ wl1 => ∃ (m : Nat), meas = Int.toNat count - m ∧ ρ = [(4, .slice none 0 0), (7, .slice (some ⟨b1, 0, none⟩) (Int.toNat count) (Int.toNat count)), (8, .int .i64 (↑m))] ∧ Ext w wl1 ∧ Blk wl1 b1 28 ((List.replicate m v ++ List.replicate (Int.toNat count - m) ((⟨0, 0⟩ : Rat) : Rat)).flatMap encRat) ∧ (1 ≤ m ∧ m ≤ Int.toNat count)) (Int.toNat count - 1) ⟨_, ?_, 1, rfl, rfl, R0, Bb1, ?_⟩ ?_
        · exact ⟨rfl, rfl, look_int rfl (by first | rfl | omega | (simp; omega)), trivial⟩
        · omega
        rintro _ _ wl1 ⟨m, rfl, rfl, R0, Bb1, hI1⟩
        refine CW.seq fun K10 hK10 => ?_
        refine CW.seq fun K11 hK11 => ?_
        refine CW.region ?_
        refine LW.pure rfl rfl (RV.move rfl) ?_
        refine LW.pure rfl rfl (RV.move rfl) ?_
        refine LW.pure rfl rfl (RV.len Ts53 rfl) ?_
        refine LW.pure rfl rfl (RV.lss rfl rfl) ?_
        refine LW.nil (hK11 _ _ ?_)
        refine CW.cond rfl (fun h4 => ?_) (fun h4 => ?_)
        ·
          have h4 := of_decide_eq_true h4
          refine CW.skip (hK10 _ _ ?_)
          refine CW.block ?_
          refine CW.draw [7] (fun _ => True) (.cons 0 2 (.cons 1 2 (.cons 2 2 (.cons 3 1 (.cons 4 2 (.cons 5 2 (.cons 6 1 (.cons 7 0 (.cons 8 2 (.cons 9 2 (.nil))))))))))) mixed (by kernel_rfl) fun w4 E2 => ?_
          have R0 := R0.trans E2
          have Bb1 := Bb1.ext E2
          refine DW.thru rfl rfl rfl (fun _ EQ => RV.move rfl) ?_
          refine DW.thru rfl rfl rfl (fun _ EQ => RV.move rfl) ?_
          refine DW.thru rfl rfl rfl (fun _ EQ => RV.move rfl) ?_
          refine DW.fix rfl rfl rfl (fun _ EQ => RV.sliceLoO Ts53 rfl rfl (by omega) (by omega) (by omega)) ?_
          refine DW.thru rfl rfl rfl (fun _ EQ => RV.move rfl) ?_
          refine DW.thru rfl rfl rfl (fun _ EQ => RV.move rfl) ?_
          refine DW.fix rfl rfl rfl (fun _ EQ => RV.sliceHi Ts53 rfl rfl (by omega)) ?_
          have hsrc := rep_src (enc := encRat) (k := 2) (q := min m (Int.toNat count - m)) (fun _ => rfl) (Nat.min_le_left _ _) Bb1
          refine DW.sole rfl rfl rfl (OW.copyM (o := m * 2) (vs := (List.replicate (min m (Int.toNat count - m)) v).flatMap encRat) Ts53 rfl (by simp) rfl Bb1 (by rw [len_flatMap (k := 2) (fun _ => rfl)]; simp <;> omega) (by rw [len_flatMap (k := 2) (fun _ => rfl)]; simp) (fun _ => ⟨_, rfl, fun j u hj => hsrc j u hj⟩) (rep_one (fun _ => rfl) _ _) fun w5 S2 => ?_)
          refine ⟨fun h => absurd h (by decide), S2.modx trivial, ?_⟩
          have R0 := R0.stored S2 Gb1
          have Bb1 : Blk w5 b1 28 ((List.replicate (m + min m (Int.toNat count - m)) v ++ List.replicate (Int.toNat count - (m + min m (Int.toNat count - m))) ((⟨0, 0⟩ : Rat) : Rat)).flatMap encRat) := by have h := S2.blk; rw [rep_step (enc := encRat) (k := 2) (fun _ => rfl) v ((⟨0, 0⟩ : Rat) : Rat) (Int.toNat count) m _ (by omega) (Nat.min_le_right _ _)] at h; exact h
          refine DW.thru rfl rfl rfl (fun _ EQ => RV.add rfl rfl (by omega)) ?_
          refine DW.thru rfl rfl rfl (fun _ EQ => RV.assign rfl) ?_
          refine DW.nil ?_
          refine ⟨_, ?_, _, ?_, m + min m (Int.toNat count - m), rfl, rfl, R0, Bb1, ?_⟩
          · omega
          · exact ⟨rfl, rfl, look_int rfl (by first | rfl | omega | (simp; omega)), trivial⟩
          · omega
        ·
          have h4 := of_decide_eq_false h4
          refine CW.exit (hK9 _ _ ?_)
          refine CW.seq fun K12 hK12 => ?_
          refine CW.region ?_
          refine LW.pure rfl rfl (RV.move rfl) ?_
          refine LW.pure rfl rfl (RV.assign rfl) ?_
          refine LW.nil (hK12 _ _ ?_)
          refine CW.ret ?_
          refine ⟨_, (ResOK.one rfl), ?_⟩
          refine ⟨b1, ?_, ?_, ?_, R0⟩
          · simp
          · have e : m = Int.toNat count := by omega
            subst e; simpa using Bb1
          · exact Gb1
    ·
      have h2 := of_decide_eq_true h2
      exfalso; simp at h2
theorem slices_Repeat_Rat_ok {a0 : List Rat} {a1 : Int} {A_a0 : Option Addr} {c_a0 : Nat} {w : World} {res : List Rat} (h_a0 : Sl w A_a0 c_a0 2 (a0.map encRat)) (F : slices_Repeat_Rat a0 a1 = some res) : Calls Try.prog 102 #[.slice A_a0 a0.length c_a0, .int .i64 a1] w (fun e w' => ∃ (A0 : Option Addr) (c0 : Nat), e = .returned (.slice A0 res.length c0) ∧ Hp w w' [.own A0 c0 28 2 (List.map encRat res)]) := by
  unfold slices_Repeat_Rat at F
  split at F
  · rename_i v
    obtain ⟨hc, F⟩ := gd_some F
    cases F
    refine (slices_Repeat_Rat_core (x := [v]) h_a0 rfl hc).mono fun e w' ⟨b, he, hB, hG, hE⟩ => ⟨some ⟨b, 0, none⟩, (List.replicate (Int.toNat a1) v).length, he, ?_⟩
    exact (Hp.start w).newOwn hE (Blk.own_ hB (fun _ => rfl) (by simp; omega)) (by intro a ha; cases ha; exact hG)
  · cases F
set_option maxRecDepth 20000 in
set_option maxHeartbeats 1000000 in
theorem level_balance_1_ok {cap0 : List Rat} {a0 : Int} {a1 : Int} {A_cap0 : Option Addr} {c_cap0 : Nat} {b_cap0 : Nat} {wb : World} {R : List Ck} {w : World} {res : (List Rat)} (H : Hp wb w ([.own A_cap0 c_cap0 28 2 (List.map encRat cap0), .blk b_cap0 53 [.slice A_cap0 cap0.length c_cap0]] ++ R)) (F : level_balance_1 cap0 a0 a1 = some res) : Calls Try.prog 109 #[.int .i64 a0, .int .i64 a1, .pointer (some (⟨b_cap0, 0, none⟩))] w (fun e w' => e = .returned (.tuple #[]) ∧ res.length = cap0.length ∧ Hp wb w' ([.own A_cap0 c_cap0 28 2 (List.map encRat res), .blk b_cap0 53 [.slice A_cap0 cap0.length c_cap0]] ++ R)) := by
  refine calls_of_cw (args := [.int .i64 a0, .int .i64 a1, .pointer (some (⟨b_cap0, 0, none⟩))]) Try.func109 rfl rfl rfl rfl ?_
  have R0 := H.ext
  unfold level_balance_1 at F
  refine CW.seq fun K1 hK1 => ?_
  refine CW.region ?_
  refine LW.pure rfl rfl (RV.move rfl) ?_
  refine LW.pure rfl rfl (RV.geq rfl rfl) ?_
  refine LW.nil (hK1 _ _ ?_)
  by_cases hp1 : (0 : Int) ≤ a0
  ·
    replace F := ite_y hp1 F
    have hq1 := dec_t hp1
    refine CW.condT rfl hq1 ?_
    obtain ⟨x1, hbx1, hx1, F⟩ := ix_some F
    obtain ⟨hg1, F⟩ := gd_some F
    obtain ⟨x2, hbx2, hx2, F⟩ := ix_some F
    refine CW.region ?_
    refine LW.pure rfl rfl (RV.load1 Tk53 rfl (H.blk 1 rfl).cells rfl) ?_
    refine LW.pure rfl rfl (RV.move rfl) ?_
    refine LW.pure rfl rfl (RV.indexAddr Ts53 rfl rfl hbx1 ((H.own 0 rfl).sl.addr_ hx1)) ?_
    refine LW.pure rfl rfl (RV.fieldAddr Tf28_0 rfl) ?_
    refine LW.pure rfl rfl (RV.load1 Tk3 rfl (((H.own 0 rfl).sl.at_ hx1).off 0) rfl) ?_
    refine LW.pure rfl rfl (RV.move rfl) ?_
    refine LW.pure rfl rfl (RV.add rfl rfl hg1) ?_
    refine LW.pure rfl rfl (RV.indexAddr Ts53 rfl rfl hbx2 ((H.own 0 rfl).sl.addr_ hx2)) ?_
    refine LW.pure rfl rfl (RV.fieldAddr Tf28_0 rfl) ?_
    refine LW.go rfl rfl (OW.storeO (enc := encRat) (vs := [.int .i64 (x1.num + a1)]) 0 ((⟨x1.num + a1, x2.den⟩ : Rat)) Tk3 rfl rfl (H.own 0 rfl) (fun _ => rfl) rfl hx2 rfl rfl (by decide) rfl rfl fun w1 M1 O1 => ?_)
    replace H : Hp wb w1 ([.own A_cap0 c_cap0 28 2 (List.map encRat ((cap0.set (Int.toNat a0) ((⟨x1.num + a1, x2.den⟩ : Rat))))), .blk b_cap0 53 [.slice A_cap0 cap0.length c_cap0]] ++ R) := H.mod 0 rfl M1 O1 (.inl rfl)
    replace R0 := H.ext
    refine LW.nil ?_
    obtain rfl := Option.some.inj F
    refine ⟨_, ResOK.none_, ?_⟩
    exact ⟨(by first | rfl | (simp; done) | (simp; omega)), (by first | rfl | assumption | omega | (simp; done) | (simp; assumption) | (simp; omega)), H⟩
  ·
    replace F := ite_n hp1 F
    have hq1 := dec_f hp1
    refine CW.condF rfl hq1 ?_
    refine CW.skip ?_
    obtain rfl := Option.some.inj F
    refine ⟨_, ResOK.none_, ?_⟩
    exact ⟨(by first | rfl | (simp; done) | (simp; omega)), (by first | rfl | assumption | omega | (simp; done) | (simp; assumption) | (simp; omega)), H⟩
set_option maxRecDepth 20000 in
set_option maxHeartbeats 1000000 in
theorem level_balance_ok {a0 : Survey} {a1 : List Int} {a2 : Int → Option Int} {A_a0_readings : Option Addr} {c_a0_readings : Nat} {A_a1 : Option Addr} {c_a1 : Nat} {f_a2 : Nat} {p_a2 : Array Value} {q_a2 : Array Value} {w : World} {res : (List (List Rat))} (h_a0_readings : Sl w A_a0_readings c_a0_readings 4 (a0.readings.map encReading)) (h_a1 : Sl w A_a1 c_a1 1 (a1.map encN)) (h_a2 : ∀ (x7 : Int) (r : Int), a2 x7 = some r → ∀ w1, Ext w w1 → CallsV Try.prog f_a2 p_a2 q_a2 #[.int .i64 x7] w1 (Rt w1 (.int .i64 r))) (F : level_balance a0 a1 a2 = some res) : Calls Try.prog 97 #[.agg #[.int .i64 a0.points, .slice A_a0_readings a0.readings.length c_a0_readings], .slice A_a1 a1.length c_a1, .func (.func f_a2) p_a2 q_a2] w (fun e w' => ∃ (A1 : Option Addr) (c1 : Nat) (hs0 : List (Option Addr × Nat)), e = .returned (.slice A1 res.length c1) ∧ Hp w w' [.tab A1 c1 53 hs0 28 2 (encM encRat res)]) := by
  refine calls_of_cw (args := [.agg #[.int .i64 a0.points, .slice A_a0_readings a0.readings.length c_a0_readings], .slice A_a1 a1.length c_a1, .func (.func f_a2) p_a2 q_a2]) Try.func97 rfl rfl rfl rfl ?_
  have H := Hp.start w
  have R0 := H.ext
  unfold level_balance at F
  refine CW.seq fun K1 hK1 => ?_
  refine CW.region ?_
  refine LW.go rfl rfl (OW.box rfl fun b1 w2 N1 => ?_)
  replace H := H.new N1 N1.blk
  replace R0 := H.ext
  refine LW.pure rfl rfl (RV.assign rfl) ?_
  refine LW.nil (hK1 _ _ ?_)
  refine CW.seq fun K2 hK2 => ?_
  refine CW.region ?_
  refine LW.pure rfl rfl (RV.assign rfl) ?_
  refine LW.nil (hK2 _ _ ?_)
  refine CW.seqJ (fun ρ wl1 => (∃ (m1 : List (List Rat)) (hsm1 : List (Option Addr × Nat)) (Am1 : Option Addr) (cm1 : Nat), level_balance_k1 m1 = some res ∧ ρ = [(6, .slice none 0 0), (7, .slice Am1 m1.length cm1)] ∧ Hp w wl1 [.tab Am1 cm1 53 hsm1 28 2 (encM encRat m1)])) ?_ ?_
  ·
    rintro _ wl1 ⟨m1, hsm1, Am1, cm1, F, rfl, H⟩
    have R0 := H.ext
    unfold level_balance_k1 at F
    refine CW.seq fun K3 hK3 => ?_
    refine CW.region ?_
    refine LW.pure rfl rfl (RV.move rfl) ?_
    refine LW.pure rfl rfl (RV.assign rfl) ?_
    refine LW.nil (hK3 _ _ ?_)
    refine CW.ret ?_
    obtain rfl := Option.some.inj F
    refine ⟨_, (ResOK.one rfl), ?_⟩
    exact ⟨Am1, cm1, hsm1, (by first | rfl | (simp; done) | (simp; omega)), H⟩
  ·
    intro K4 hK4 jK6752
    refine CW.seq fun K5 hK5 => ?_
    refine CW.region ?_
    refine LW.pure rfl rfl (RV.move rfl) ?_
    refine LW.pure rfl rfl (RV.len Ts39 rfl) ?_
    refine LW.pure rfl rfl (RV.move rfl) ?_
    refine LW.nil (hK5 _ _ ?_)
    refine CW.block ?_
    replace H := H.nilTab encRat 53 28 2
    replace R0 := H.ext
    refine CW.loop (fun meas ρ wl2 => ∃ (t18_1 : Int) (m3 : List (List Rat)) (hsm3 : List (Option Addr × Nat)) (Am3 : Option Addr) (cm3 : Nat), level_balance_L3 a0 a1 a2 meas t18_1 m3 = some res ∧ ρ = [(1, .slice A_a1 a1.length c_a1), (2, .func (.func f_a2) p_a2 q_a2), (3, .pointer (some (⟨b1, 0, none⟩))), (6, .slice none 0 0), (7, .slice Am3 m3.length cm3), (16, .slice A_a1 a1.length c_a1), (17, .int .i64 ((a1.length : Int))), (18, .int .i64 t18_1)] ∧ Hp w wl2 [.tab Am3 cm3 53 hsm3 28 2 (encM encRat m3), .blk b1 24 [.int .i64 a0.points, .slice A_a0_readings a0.readings.length c_a0_readings]]) FU ⟨_, ?_, ((0 : Int)), (([] : List (List Rat))), ([]), none, 0, F, rfl, H⟩ ?_
    · exact ⟨rfl, rfl, rfl, rfl, (look_slice rfl (by first | rfl | (simp; done) | omega | (simp; omega))), rfl, rfl, rfl, trivial⟩
    rintro mk1 _ wl2 ⟨t18_1, m3, hsm3, Am3, cm3, F, rfl, H⟩
    have R0 := H.ext
    replace F := level_balance_L3_s F
    obtain ⟨mk1, rfl, F⟩ := F
    generalize hrec1 : level_balance_L3 a0 a1 a2 mk1 = rec1 at F
    unfold level_balance_B3 at F
    refine CW.seq fun K6 hK6 => ?_
    refine CW.region ?_
    refine LW.pure rfl rfl (RV.lss rfl rfl) ?_
    refine LW.nil (hK6 _ _ ?_)
    refine CW.seq fun K7 hK7 => ?_
    by_cases hp1 : t18_1 < ((a1.length : Int))
    ·
      replace F := ite_y hp1 F
      have hq1 := dec_t hp1
      refine CW.condT rfl hq1 ?_
      refine CW.skip (hK7 _ _ ?_)
      refine CW.seqJ (fun ρ wl3 => (∃ (m2 : List (List Rat)) (hsm2 : List (Option Addr × Nat)) (Am2 : Option Addr) (cm2 : Nat), level_balance_k2 t18_1 rec1 m2 = some res ∧ ρ = [(1, .slice A_a1 a1.length c_a1), (2, .func (.func f_a2) p_a2 q_a2), (3, .pointer (some (⟨b1, 0, none⟩))), (6, .slice none 0 0), (7, .slice Am2 m2.length cm2), (16, .slice A_a1 a1.length c_a1), (17, .int .i64 ((a1.length : Int))), (18, .int .i64 t18_1)] ∧ Hp w wl3 [.tab Am2 cm2 53 hsm2 28 2 (encM encRat m2), .blk b1 24 [.int .i64 a0.points, .slice A_a0_readings a0.readings.length c_a0_readings]])) ?_ ?_
      ·
        rintro _ wl3 ⟨m2, hsm2, Am2, cm2, F, rfl, H⟩
        have R0 := H.ext
        unfold level_balance_k2 at F
        obtain ⟨hg1, F⟩ := gd_some F
        refine CW.region ?_
        refine LW.pure rfl rfl (RV.add rfl rfl hg1) ?_
        refine LW.pure rfl rfl (RV.move rfl) ?_
        refine LW.nil ?_
        subst hrec1
        refine ⟨mk1, Nat.lt_succ_self _, _, ?_, (t18_1 + 1), m2, hsm2, Am2, cm2, F, rfl, H⟩
        exact ⟨rfl, rfl, rfl, rfl, (look_slice rfl (by first | rfl | (simp; done) | omega | (simp; omega))), rfl, rfl, rfl, trivial⟩
      ·
        intro K8 hK8 jK8627
        refine CW.block ?_
        refine CW.seq fun K9 hK9 => ?_
        obtain ⟨x1, hbx1, hx1, F⟩ := ix_some F
        refine CW.region ?_
        refine LW.pure rfl rfl (RV.indexAddr Ts39 rfl rfl hbx1 (h_a1.addr_ hx1)) ?_
        refine LW.pure rfl rfl (RV.load1 Tk3 rfl ((h_a1.at_ hx1).ext R0) rfl) ?_
        refine LW.pure rfl rfl (RV.assign rfl) ?_
        refine LW.nil (hK9 _ _ ?_)
        refine CW.seq fun K10 hK10 => ?_
        obtain ⟨hg2, F⟩ := gd_some F
        obtain ⟨r6, hr6, F⟩ := bnd_some F
        refine CW.region ?_
        refine LW.pure rfl rfl (RV.build (vs := [.int .i64 1]) (cs := [.int .i64 0, .int .i64 1]) rfl (fun _ => by kernel_rfl)) ?_
        refine LW.go rfl rfl (OW.buildSlice (e := 28) (vs := [.agg #[.int .i64 0, .int .i64 1]]) (cs := [.int .i64 0, .int .i64 1]) rfl (fun _ => by kernel_rfl) fun b2 w3 N2 => ?_)
        replace H := H.made' (k := 2) (t := 28) (enc := encRat) (l := ([(⟨0, 1⟩ : Rat)] : List Rat)) N2 N2.blk (fun _ => rfl) rfl (by first | decide | omega | (simp; done) | (simp; omega))
        replace R0 := H.ext
        refine LW.pure rfl rfl (RV.move rfl) ?_
        refine LW.pure rfl rfl (RV.len Ts39 rfl) ?_
        refine LW.pure rfl rfl (RV.add rfl rfl hg2) ?_
        refine LW.go rfl rfl (OW.call Tc102 (evs_cast rfl (by first | rfl | (simp; done) | (simp; omega))) (slices_Repeat_Rat_ok (a0 := ([(⟨0, 1⟩ : Rat)] : List Rat)) (a1 := ((a1.length : Int)) + 1) (H.own 0 rfl).sl hr6) ?_)
        rintro _ w4 ⟨A6649_0, c6649_0, rfl, E1⟩
        refine ⟨_, rfl, ?_⟩
        replace H : Hp w w4 [.own A6649_0 c6649_0 28 2 (List.map encRat r6), .own (some ⟨b2, 0, none⟩) ((([(⟨0, 1⟩ : Rat)] : List Rat)).length) 28 2 (List.map encRat (([(⟨0, 1⟩ : Rat)] : List Rat))), .tab Am3 cm3 53 hsm3 28 2 (encM encRat m3), .blk b1 24 [.int .i64 a0.points, .slice A_a0_readings a0.readings.length c_a0_readings]] := H.append E1
        replace R0 := H.ext
        refine LW.go rfl rfl (OW.alloc Tz53 fun b3 w5 N3 => ?_)
        replace H := H.new N3 N3.blk
        replace R0 := H.ext
        refine LW.go rfl rfl (OW.store Tk53 rfl rfl (H.blk 0 rfl) (off := 0) (vs := [.slice A6649_0 r6.length c6649_0]) rfl rfl rfl rfl rfl fun w6 S1 => ?_)
        replace H : Hp w w6 [.blk b3 53 [.slice A6649_0 r6.length c6649_0], .own A6649_0 c6649_0 28 2 (List.map encRat r6), .own (some ⟨b2, 0, none⟩) ((([(⟨0, 1⟩ : Rat)] : List Rat)).length) 28 2 (List.map encRat (([(⟨0, 1⟩ : Rat)] : List Rat))), .tab Am3 cm3 53 hsm3 28 2 (encM encRat m3), .blk b1 24 [.int .i64 a0.points, .slice A_a0_readings a0.readings.length c_a0_readings]] := H.stored 0 rfl S1
        replace R0 := H.ext
        refine LW.nil (hK10 _ _ ?_)
        refine CW.seq fun K11 hK11 => ?_
        refine CW.region ?_
        refine LW.pure rfl rfl (RV.makeFunc (fs := []) (cs := [.pointer (some (⟨b3, 0, none⟩))]) rfl rfl) ?_
        refine LW.pure rfl rfl (RV.assign rfl) ?_
        refine LW.nil (hK11 _ _ ?_)
        refine CW.seqJ (fun ρ wl4 => (∃ (l1 : List Rat), level_balance_k3 a1 a2 t18_1 m3 rec1 x1 l1 = some res ∧ ρ = [(1, .slice A_a1 a1.length c_a1), (2, .func (.func f_a2) p_a2 q_a2), (3, .pointer (some (⟨b1, 0, none⟩))), (6, .slice none 0 0), (7, .slice Am3 m3.length cm3), (9, .int .i64 x1), (10, .pointer (some (⟨b3, 0, none⟩))), (16, .slice A_a1 a1.length c_a1), (17, .int .i64 ((a1.length : Int))), (18, .int .i64 t18_1)] ∧ Hp w wl4 [.tab Am3 cm3 53 hsm3 28 2 (encM encRat m3), .own A6649_0 c6649_0 28 2 (List.map encRat l1), .blk b1 24 [.int .i64 a0.points, .slice A_a0_readings a0.readings.length c_a0_readings], .blk b3 53 [.slice A6649_0 l1.length c6649_0]])) ?_ ?_
        ·
          rintro _ wl4 ⟨l1, F, rfl, H⟩
          have R0 := H.ext
          unfold level_balance_k3 at F
          refine CW.seq fun K12 hK12 => ?_
          obtain ⟨r1, hr1, F⟩ := bnd_some F
          obtain ⟨x2, hbx2, hx2, F⟩ := ix_some F
          refine CW.draw [8] (fun _ => True) (.cons 0 1 (.cons 1 1 (.cons 2 1 (.cons 3 1 (.cons 4 1 (.cons 5 0 (.cons 6 2 (.cons 7 1 (.cons 8 0 .nil))))))))) mixed (by kernel_rfl) fun w7 E2 => ?_
          replace H := H.grow E2
          replace R0 := H.ext
          refine DW.fix rfl rfl rfl (fun _ EQ => RV.load1 Tk53 rfl ((H.grow EQ).blk 3 rfl).cells rfl) ?_
          refine DW.fix rfl rfl rfl (fun _ EQ => RV.move rfl) ?_
          refine DW.fix rfl rfl rfl (fun _ EQ => RV.len Ts39 rfl) ?_
          refine DW.fix rfl rfl rfl (fun _ EQ => RV.move rfl) ?_
          refine DW.fix rfl rfl rfl (fun _ EQ => RV.move rfl) ?_
          refine DW.sole rfl rfl rfl (OW.callV2 rfl rfl rfl (h_a2 _ _ hr1 _ R0) ?_)
          rintro _ w8 ⟨rfl, E3⟩
          refine ⟨_, rfl, fun _ => E3, ModX.ext E3, ?_⟩
          replace H := H.grow E3
          replace R0 := H.ext
          refine DW.thru rfl rfl rfl (fun _ EQ => RV.indexAddr Ts53 rfl rfl hbx2 ((H.own 1 rfl).sl.addr_ hx2)) ?_
          refine DW.fix rfl rfl rfl (fun _ EQ => RV.fieldAddr Tf28_0 rfl) ?_
          refine DW.sole rfl rfl rfl (OW.storeO (enc := encRat) (vs := [.int .i64 r1]) 0 ((⟨r1, x2.den⟩ : Rat)) Tk3 rfl rfl (H.own 1 rfl) (fun _ => rfl) rfl hx2 rfl rfl (by decide) rfl rfl fun w9 M1 O1 => ?_)
          refine ⟨fun h => absurd h (by decide), M1.modx (fun _ _ => trivial), ?_⟩
          replace H : Hp w w9 [.tab Am3 cm3 53 hsm3 28 2 (encM encRat m3), .own A6649_0 c6649_0 28 2 (List.map encRat ((l1.set (Int.toNat ((a1.length : Int))) ((⟨r1, x2.den⟩ : Rat))))), .blk b1 24 [.int .i64 a0.points, .slice A_a0_readings a0.readings.length c_a0_readings], .blk b3 53 [.slice A6649_0 l1.length c6649_0]] := H.mod 1 rfl M1 O1 (.inl rfl)
          replace R0 := H.ext
          refine DW.nil (hK12 _ _ ?_)
          obtain ⟨hg3, F⟩ := gd_some F
          refine CW.region ?_
          refine LW.pure rfl rfl (RV.move rfl) ?_
          refine LW.pure rfl rfl (RV.load1 Tk53 rfl (H.blk 3 rfl).cells rfl) ?_
          refine LW.go rfl rfl (OW.buildSlice (e := 53) (vs := [.slice A6649_0 l1.length c6649_0]) (cs := [.slice A6649_0 l1.length c6649_0]) rfl (fun _ => by kernel_rfl) fun b4 w10 N4 => ?_)
          have hce1 : l1.length = ((l1.set (Int.toNat ((a1.length : Int))) ((⟨r1, x2.den⟩ : Rat)))).length := by first | omega | (simp; done) | (simp; omega) | rfl
          replace H := H.made' (k := 1) (t := 53) (enc := encH) (l := ([((A6649_0, c6649_0), List.map encRat ((l1.set (Int.toNat ((a1.length : Int))) ((⟨r1, x2.den⟩ : Rat)))))] : List ((Option Addr × Nat) × List (List Value)))) N4 (by have q := N4.blk; simp only [List.flatMap_cons, List.flatMap_nil, encH, List.length_map, List.append_nil, List.cons_append, List.nil_append]; first | done | exact q | (rw [← hce1]; exact q) | (simp only [List.nil_append, List.append_nil, List.cons_append] at hce1 q; rw [← hce1]; exact q)) (fun _ => rfl) rfl (by first | decide | omega | (simp; done) | (simp; omega))
          replace R0 := H.ext
          refine LW.go rfl rfl (OW.appendT (enc := encRat) (m := m3) (l := (l1.set (Int.toNat ((a1.length : Int))) ((⟨r1, x2.den⟩ : Rat)))) Ts101 rfl rfl (H.tab 1 rfl) (H.own 0 rfl).sl rfl hg3 (by decide) fun A2 c2 w11 O2 M2 D1 => ?_)
          replace H : Hp w w11 [.own (some ⟨b4, 0, none⟩) ((([((A6649_0, c6649_0), List.map encRat ((l1.set (Int.toNat ((a1.length : Int))) ((⟨r1, x2.den⟩ : Rat)))))] : List ((Option Addr × Nat) × List (List Value)))).length) 53 1 (List.map encH (([((A6649_0, c6649_0), List.map encRat ((l1.set (Int.toNat ((a1.length : Int))) ((⟨r1, x2.den⟩ : Rat)))))] : List ((Option Addr × Nat) × List (List Value))))), .tab A2 c2 53 ((hsm3 ++ [(A6649_0, c6649_0)])) 28 2 (encM encRat ((m3 ++ [(l1.set (Int.toNat ((a1.length : Int))) ((⟨r1, x2.den⟩ : Rat)))]))), .blk b1 24 [.int .i64 a0.points, .slice A_a0_readings a0.readings.length c_a0_readings], .blk b3 53 [.slice A6649_0 l1.length c6649_0]] := H.tabPush 1 2 (by decide) rfl rfl M2 D1 O2
          replace R0 := H.ext
          refine LW.pure rfl rfl (RV.assign rfl) ?_
          replace H := H.pick (L' := [.tab A2 c2 53 ((hsm3 ++ [(A6649_0, c6649_0)])) 28 2 (encM encRat ((m3 ++ [(l1.set (Int.toNat ((a1.length : Int))) ((⟨r1, x2.den⟩ : Rat)))]))), .blk b1 24 [.int .i64 a0.points, .slice A_a0_readings a0.readings.length c_a0_readings]]) [1, 2] (by decide) rfl
          replace R0 := H.ext
          refine LW.nil (jK8627 _ _ ⟨_, ?_, ⟨((m3 ++ [(l1.set (Int.toNat ((a1.length : Int))) ((⟨r1, x2.den⟩ : Rat)))])), ((hsm3 ++ [(A6649_0, c6649_0)])), A2, c2, F, rfl, H⟩⟩)
          exact ⟨rfl, rfl, rfl, rfl, (look_slice rfl (by first | rfl | (simp; done) | omega | (simp; omega))), rfl, rfl, rfl, trivial⟩
        ·
          intro K13 hK13 jK8816
          refine CW.seq fun K14 hK14 => ?_
          refine CW.region ?_
          refine LW.pure rfl rfl (RV.fieldAddr Tf24_1 rfl) ?_
          refine LW.pure rfl rfl (RV.load1 Tk22 rfl ((H.blk 4 rfl).cells.off 1) rfl) ?_
          refine LW.pure rfl rfl (RV.len Ts22 rfl) ?_
          refine LW.pure rfl rfl (RV.move rfl) ?_
          refine LW.nil (hK14 _ _ ?_)
          refine CW.block ?_
          replace H := H.pick (L' := [.tab Am3 cm3 53 hsm3 28 2 (encM encRat m3), .own A6649_0 c6649_0 28 2 (List.map encRat r6), .blk b1 24 [.int .i64 a0.points, .slice A_a0_readings a0.readings.length c_a0_readings], .blk b3 53 [.slice A6649_0 r6.length c6649_0]]) [3, 1, 4, 0] (by decide) rfl
          replace R0 := H.ext
          refine CW.loop (fun meas ρ wl5 => ∃ (t32_1 : Int) (l5 : List Rat), level_balance_L2 a0 a1 a2 t18_1 m3 rec1 x1 meas t32_1 l5 = some res ∧ ρ = [(1, .slice A_a1 a1.length c_a1), (2, .func (.func f_a2) p_a2 q_a2), (3, .pointer (some (⟨b1, 0, none⟩))), (6, .slice none 0 0), (7, .slice Am3 m3.length cm3), (9, .int .i64 x1), (10, .pointer (some (⟨b3, 0, none⟩))), (11, .func (.func 109) #[] #[.pointer (some (⟨b3, 0, none⟩))]), (16, .slice A_a1 a1.length c_a1), (17, .int .i64 ((a1.length : Int))), (18, .int .i64 t18_1), (30, .slice A_a0_readings a0.readings.length c_a0_readings), (31, .int .i64 ((a0.readings.length : Int))), (32, .int .i64 t32_1)] ∧ Hp w wl5 [.tab Am3 cm3 53 hsm3 28 2 (encM encRat m3), .own A6649_0 c6649_0 28 2 (List.map encRat l5), .blk b1 24 [.int .i64 a0.points, .slice A_a0_readings a0.readings.length c_a0_readings], .blk b3 53 [.slice A6649_0 l5.length c6649_0]]) FU ⟨_, ?_, ((0 : Int)), r6, F, rfl, H⟩ ?_
          · exact ⟨rfl, rfl, rfl, rfl, (look_slice rfl (by first | rfl | (simp; done) | omega | (simp; omega))), rfl, rfl, rfl, rfl, rfl, rfl, rfl, rfl, rfl, trivial⟩
          rintro mk2 _ wl5 ⟨t32_1, l5, F, rfl, H⟩
          have R0 := H.ext
          replace F := level_balance_L2_s F
          obtain ⟨mk2, rfl, F⟩ := F
          generalize hrec2 : level_balance_L2 a0 a1 a2 t18_1 m3 rec1 x1 mk2 = rec2 at F
          unfold level_balance_B2 at F
          refine CW.seq fun K15 hK15 => ?_
          refine CW.region ?_
          refine LW.pure rfl rfl (RV.lss rfl rfl) ?_
          refine LW.nil (hK15 _ _ ?_)
          refine CW.seq fun K16 hK16 => ?_
          by_cases hp2 : t32_1 < ((a0.readings.length : Int))
          ·
            replace F := ite_y hp2 F
            have hq2 := dec_t hp2
            refine CW.condT rfl hq2 ?_
            refine CW.skip (hK16 _ _ ?_)
            refine CW.seqJ (fun ρ wl6 => (∃ (l2 : List Rat), level_balance_k4 t32_1 rec2 l2 = some res ∧ ρ = [(1, .slice A_a1 a1.length c_a1), (2, .func (.func f_a2) p_a2 q_a2), (3, .pointer (some (⟨b1, 0, none⟩))), (6, .slice none 0 0), (7, .slice Am3 m3.length cm3), (9, .int .i64 x1), (10, .pointer (some (⟨b3, 0, none⟩))), (11, .func (.func 109) #[] #[.pointer (some (⟨b3, 0, none⟩))]), (16, .slice A_a1 a1.length c_a1), (17, .int .i64 ((a1.length : Int))), (18, .int .i64 t18_1), (30, .slice A_a0_readings a0.readings.length c_a0_readings), (31, .int .i64 ((a0.readings.length : Int))), (32, .int .i64 t32_1)] ∧ Hp w wl6 [.tab Am3 cm3 53 hsm3 28 2 (encM encRat m3), .own A6649_0 c6649_0 28 2 (List.map encRat l2), .blk b1 24 [.int .i64 a0.points, .slice A_a0_readings a0.readings.length c_a0_readings], .blk b3 53 [.slice A6649_0 l2.length c6649_0]])) ?_ ?_
            ·
              rintro _ wl6 ⟨l2, F, rfl, H⟩
              have R0 := H.ext
              unfold level_balance_k4 at F
              obtain ⟨hg4, F⟩ := gd_some F
              refine CW.region ?_
              refine LW.pure rfl rfl (RV.add rfl rfl hg4) ?_
              refine LW.pure rfl rfl (RV.move rfl) ?_
              refine LW.nil ?_
              subst hrec2
              refine ⟨mk2, Nat.lt_succ_self _, _, ?_, (t32_1 + 1), l2, F, rfl, H⟩
              exact ⟨rfl, rfl, rfl, rfl, (look_slice rfl (by first | rfl | (simp; done) | omega | (simp; omega))), rfl, rfl, rfl, rfl, rfl, rfl, rfl, rfl, rfl, trivial⟩
            ·
              intro K17 hK17 jK8971
              refine CW.block ?_
              refine CW.seq fun K18 hK18 => ?_
              obtain ⟨x3, hbx3, hx3, F⟩ := ix_some F
              refine CW.region ?_
              refine LW.pure rfl rfl (RV.indexAddr Ts22 rfl rfl hbx3 (h_a0_readings.addr_ hx3)) ?_
              refine LW.pure rfl rfl (RV.loadA [.int .i64 x3.from_, .int .i64 x3.to_, .int .i64 x3.rise, .int .i64 x3.weight] Tk46 rfl ((h_a0_readings.at_ hx3).ext R0) rfl rfl) ?_
              refine LW.go rfl rfl (OW.alloc Tz46 fun b5 w12 N5 => ?_)
              replace H := H.new N5 N5.blk
              replace R0 := H.ext
              refine LW.go rfl rfl (OW.store Tk46 rfl rfl (H.blk 0 rfl) (off := 0) (vs := [.int .i64 x3.from_, .int .i64 x3.to_, .int .i64 x3.rise, .int .i64 x3.weight]) rfl rfl rfl rfl rfl fun w13 S2 => ?_)
              replace H : Hp w w13 [.blk b5 46 [.int .i64 x3.from_, .int .i64 x3.to_, .int .i64 x3.rise, .int .i64 x3.weight], .tab Am3 cm3 53 hsm3 28 2 (encM encRat m3), .own A6649_0 c6649_0 28 2 (List.map encRat l5), .blk b1 24 [.int .i64 a0.points, .slice A_a0_readings a0.readings.length c_a0_readings], .blk b3 53 [.slice A6649_0 l5.length c6649_0]] := H.stored 0 rfl S2
              replace R0 := H.ext
              refine LW.nil (hK18 _ _ ?_)
              refine CW.seq fun K19 hK19 => ?_
              refine CW.region ?_
              refine LW.pure rfl rfl (RV.fieldAddr Tf46_0 rfl) ?_
              refine LW.pure rfl rfl (RV.load1 Tk3 rfl ((H.blk 0 rfl).cells.off 0) rfl) ?_
              refine LW.pure rfl rfl (RV.fieldAddr Tf46_1 rfl) ?_
              refine LW.pure rfl rfl (RV.load1 Tk3 rfl ((H.blk 0 rfl).cells.off 1) rfl) ?_
              refine LW.pure rfl rfl (RV.build (vs := [.int .i64 x3.from_, .int .i64 x3.to_]) (cs := [.int .i64 x3.from_, .int .i64 x3.to_]) rfl (fun _ => by kernel_rfl)) ?_
              refine LW.pure rfl rfl (RV.fieldAddr Tf46_1 rfl) ?_
              refine LW.pure rfl rfl (RV.load1 Tk3 rfl ((H.blk 0 rfl).cells.off 1) rfl) ?_
              refine LW.pure rfl rfl (RV.fieldAddr Tf46_0 rfl) ?_
              refine LW.pure rfl rfl (RV.load1 Tk3 rfl ((H.blk 0 rfl).cells.off 0) rfl) ?_
              refine LW.pure rfl rfl (RV.build (vs := [.int .i64 x3.to_, .int .i64 x3.from_]) (cs := [.int .i64 x3.to_, .int .i64 x3.from_]) rfl (fun _ => by kernel_rfl)) ?_
              refine LW.pure rfl rfl (RV.build (vs := [.agg #[.int .i64 x3.from_, .int .i64 x3.to_], .agg #[.int .i64 x3.to_, .int .i64 x3.from_]]) (cs := [.int .i64 x3.from_, .int .i64 x3.to_, .int .i64 x3.to_, .int .i64 x3.from_]) rfl (fun _ => by kernel_rfl)) ?_
              refine LW.pure rfl rfl (RV.move rfl) ?_
              refine LW.nil (hK19 _ _ ?_)
              refine CW.block ?_
              replace H := H.pick (L' := [.tab Am3 cm3 53 hsm3 28 2 (encM encRat m3), .own A6649_0 c6649_0 28 2 (List.map encRat l5), .blk b1 24 [.int .i64 a0.points, .slice A_a0_readings a0.readings.length c_a0_readings], .blk b3 53 [.slice A6649_0 l5.length c6649_0], .blk b5 46 [.int .i64 x3.from_, .int .i64 x3.to_, .int .i64 x3.rise, .int .i64 x3.weight]]) [1, 2, 3, 4, 0] (by decide) rfl
              replace R0 := H.ext
              refine CW.loop (fun meas ρ wl7 => ∃ (t47_1 : Int) (l4 : List Rat), level_balance_L1 a1 x1 t32_1 rec2 x3 meas t47_1 l4 = some res ∧ ρ = [(1, .slice A_a1 a1.length c_a1), (2, .func (.func f_a2) p_a2 q_a2), (3, .pointer (some (⟨b1, 0, none⟩))), (6, .slice none 0 0), (7, .slice Am3 m3.length cm3), (9, .int .i64 x1), (10, .pointer (some (⟨b3, 0, none⟩))), (11, .func (.func 109) #[] #[.pointer (some (⟨b3, 0, none⟩))]), (13, .pointer (some (⟨b5, 0, none⟩))), (16, .slice A_a1 a1.length c_a1), (17, .int .i64 ((a1.length : Int))), (18, .int .i64 t18_1), (30, .slice A_a0_readings a0.readings.length c_a0_readings), (31, .int .i64 ((a0.readings.length : Int))), (32, .int .i64 t32_1), (46, .agg #[.int .i64 x3.from_, .int .i64 x3.to_, .int .i64 x3.to_, .int .i64 x3.from_]), (47, .int .i64 t47_1)] ∧ Hp w wl7 [.tab Am3 cm3 53 hsm3 28 2 (encM encRat m3), .own A6649_0 c6649_0 28 2 (List.map encRat l4), .blk b1 24 [.int .i64 a0.points, .slice A_a0_readings a0.readings.length c_a0_readings], .blk b3 53 [.slice A6649_0 l4.length c6649_0], .blk b5 46 [.int .i64 x3.from_, .int .i64 x3.to_, .int .i64 x3.rise, .int .i64 x3.weight]]) FU ⟨_, ?_, ((0 : Int)), l5, F, rfl, H⟩ ?_
              · exact ⟨rfl, rfl, rfl, rfl, (look_slice rfl (by first | rfl | (simp; done) | omega | (simp; omega))), rfl, rfl, rfl, rfl, rfl, rfl, rfl, rfl, rfl, rfl, rfl, rfl, trivial⟩
              rintro mk3 _ wl7 ⟨t47_1, l4, F, rfl, H⟩
              have R0 := H.ext
              replace F := level_balance_L1_s F
              obtain ⟨mk3, rfl, F⟩ := F
              generalize hrec3 : level_balance_L1 a1 x1 t32_1 rec2 x3 mk3 = rec3 at F
              unfold level_balance_B1 at F
              refine CW.seq fun K20 hK20 => ?_
              refine CW.region ?_
              refine LW.pure rfl rfl (RV.lss rfl rfl) ?_
              refine LW.nil (hK20 _ _ ?_)
              refine CW.seq fun K21 hK21 => ?_
              by_cases hp3 : t47_1 < 2
              ·
                replace F := ite_y hp3 F
                have hq3 := dec_t hp3
                refine CW.condT rfl hq3 ?_
                refine CW.skip (hK21 _ _ ?_)
                refine CW.seqJ (fun ρ wl8 => (∃ (l3 : List Rat), level_balance_k5 t47_1 rec3 l3 = some res ∧ ρ = [(1, .slice A_a1 a1.length c_a1), (2, .func (.func f_a2) p_a2 q_a2), (3, .pointer (some (⟨b1, 0, none⟩))), (6, .slice none 0 0), (7, .slice Am3 m3.length cm3), (9, .int .i64 x1), (10, .pointer (some (⟨b3, 0, none⟩))), (11, .func (.func 109) #[] #[.pointer (some (⟨b3, 0, none⟩))]), (13, .pointer (some (⟨b5, 0, none⟩))), (16, .slice A_a1 a1.length c_a1), (17, .int .i64 ((a1.length : Int))), (18, .int .i64 t18_1), (30, .slice A_a0_readings a0.readings.length c_a0_readings), (31, .int .i64 ((a0.readings.length : Int))), (32, .int .i64 t32_1), (46, .agg #[.int .i64 x3.from_, .int .i64 x3.to_, .int .i64 x3.to_, .int .i64 x3.from_]), (47, .int .i64 t47_1)] ∧ Hp w wl8 [.tab Am3 cm3 53 hsm3 28 2 (encM encRat m3), .own A6649_0 c6649_0 28 2 (List.map encRat l3), .blk b1 24 [.int .i64 a0.points, .slice A_a0_readings a0.readings.length c_a0_readings], .blk b3 53 [.slice A6649_0 l3.length c6649_0], .blk b5 46 [.int .i64 x3.from_, .int .i64 x3.to_, .int .i64 x3.rise, .int .i64 x3.weight]])) ?_ ?_
                ·
                  rintro _ wl8 ⟨l3, F, rfl, H⟩
                  have R0 := H.ext
                  unfold level_balance_k5 at F
                  obtain ⟨hg5, F⟩ := gd_some F
                  refine CW.region ?_
                  refine LW.pure rfl rfl (RV.add rfl rfl hg5) ?_
                  refine LW.pure rfl rfl (RV.move rfl) ?_
                  refine LW.nil ?_
                  subst hrec3
                  refine ⟨mk3, Nat.lt_succ_self _, _, ?_, (t47_1 + 1), l3, F, rfl, H⟩
                  exact ⟨rfl, rfl, rfl, rfl, (look_slice rfl (by first | rfl | (simp; done) | omega | (simp; omega))), rfl, rfl, rfl, rfl, rfl, rfl, rfl, rfl, rfl, rfl, rfl, rfl, trivial⟩
                ·
                  intro K22 hK22 jK8997
                  refine CW.block ?_
                  refine CW.seq fun K23 hK23 => ?_
                  obtain ⟨x4, hbx4, hx4, F⟩ := ix_some F
                  refine CW.region ?_
                  refine LW.pure rfl rfl (RV.indexV (enc := encArr2) (l := ([(⟨x3.from_, x3.to_⟩ : Arr2), (⟨x3.to_, x3.from_⟩ : Arr2)] : List Arr2)) (vs := [.int .i64 x3.from_, .int .i64 x3.to_, .int .i64 x3.to_, .int .i64 x3.from_]) Ta114 Tk113 rfl rfl (fun _ => rfl) rfl rfl hbx4.1 hx4) ?_
                  refine LW.go rfl rfl (OW.alloc Tz113 fun b6 w14 N6 => ?_)
                  replace H := H.made' (k := 1) (t := 113) (enc := encN) (l := ([0, 0] : List Int)) N6 N6.blk (fun _ => rfl) rfl (by first | decide | (simp; done) | (simp; omega))
                  replace R0 := H.ext
                  refine LW.go rfl rfl (OW.storeArr (l' := ([x4.at0, x4.at1] : List Int)) (vs := [.int .i64 x4.at0, .int .i64 x4.at1]) Tk113 rfl rfl (H.own 0 rfl) (fun _ => rfl) (by first | rfl | omega | (simp; done) | (simp; omega)) rfl rfl rfl rfl fun w15 M3 O3 => ?_)
                  replace H : Hp w w15 [.own (some ⟨b6, 0, none⟩) 2 113 1 (List.map encN (([x4.at0, x4.at1] : List Int))), .tab Am3 cm3 53 hsm3 28 2 (encM encRat m3), .own A6649_0 c6649_0 28 2 (List.map encRat l4), .blk b1 24 [.int .i64 a0.points, .slice A_a0_readings a0.readings.length c_a0_readings], .blk b3 53 [.slice A6649_0 l4.length c6649_0], .blk b5 46 [.int .i64 x3.from_, .int .i64 x3.to_, .int .i64 x3.rise, .int .i64 x3.weight]] := H.mod 0 rfl M3 O3 (.inl rfl)
                  replace R0 := H.ext
                  refine LW.nil (hK23 _ _ ?_)
                  refine CW.seq fun K24 hK24 => ?_
                  obtain ⟨x5, hbx5, hx5, F⟩ := ix_some F
                  refine CW.region ?_
                  refine LW.pure rfl rfl (RV.indexArr Ta113 rfl rfl ⟨hbx5.1, (by first | exact hbx5.2 | omega | (have q := hbx5.2; simp at q; omega))⟩) ?_
                  refine LW.pure rfl rfl (RV.load1 Tk3 rfl ((H.own 0 rfl).sl.at_ hx5) rfl) ?_
                  refine LW.pure rfl rfl (RV.move rfl) ?_
                  refine LW.pure rfl rfl (RV.eqi rfl rfl) ?_
                  refine LW.nil (hK24 _ _ ?_)
                  by_cases hp4 : x5 = x1
                  ·
                    replace F := ite_y hp4 F
                    have hq4 := dec_t hp4
                    refine CW.condT rfl hq4 ?_
                    refine CW.seq fun K25 hK25 => ?_
                    obtain ⟨r2, hr2, F⟩ := bnd_some F
                    obtain ⟨r3, hr3, F⟩ := bnd_some F
                    refine CW.draw [6] (fun _ => True) (.cons 0 1 (.cons 1 2 (.cons 2 2 (.cons 4 2 (.cons 5 1 (.cons 3 0 (.cons 6 0 .nil))))))) mixed (by kernel_rfl) fun w16 E4 => ?_
                    replace H := H.grow E4
                    replace R0 := H.ext
                    refine DW.fix rfl rfl rfl (fun _ EQ => RV.move rfl) ?_
                    refine DW.thru rfl rfl rfl (fun _ EQ => RV.move rfl) ?_
                    refine DW.thru rfl rfl rfl (fun _ EQ => RV.move rfl) ?_
                    refine DW.thru rfl rfl rfl (fun _ EQ => RV.fieldAddr Tf46_3 rfl) ?_
                    refine DW.fix rfl rfl rfl (fun _ EQ => RV.load1 Tk3 rfl (((H.grow EQ).blk 5 rfl).cells.off 3) rfl) ?_
                    refine DW.sole rfl rfl rfl (OW.call Tc94 rfl (slices_Index_int_ok (a0 := a1) (a1 := x1) (h_a1.ext R0) hr2) ?_)
                    rintro _ w17 ⟨rfl, E5⟩
                    refine ⟨_, rfl, fun _ => E5, ModX.ext E5, ?_⟩
                    replace H := H.grow E5
                    replace R0 := H.ext
                    replace H := H.pick (L' := [.own A6649_0 c6649_0 28 2 (List.map encRat l4), .blk b3 53 [.slice A6649_0 l4.length c6649_0], .own (some ⟨b6, 0, none⟩) 2 113 1 (List.map encN (([x4.at0, x4.at1] : List Int))), .tab Am3 cm3 53 hsm3 28 2 (encM encRat m3), .blk b1 24 [.int .i64 a0.points, .slice A_a0_readings a0.readings.length c_a0_readings], .blk b5 46 [.int .i64 x3.from_, .int .i64 x3.to_, .int .i64 x3.rise, .int .i64 x3.weight]]) [2, 4, 0, 1, 3, 5] (by decide) rfl
                    replace R0 := H.ext
                    obtain ⟨Ex1, HE1, Hz1⟩ := Hp.freeze2 (a := .own A6649_0 c6649_0 28 2 (List.map encRat l4)) (L := [.own (some ⟨b6, 0, none⟩) 2 113 1 (List.map encN (([x4.at0, x4.at1] : List Int))), .tab Am3 cm3 53 hsm3 28 2 (encM encRat m3), .blk b1 24 [.int .i64 a0.points, .slice A_a0_readings a0.readings.length c_a0_readings], .blk b5 46 [.int .i64 x3.from_, .int .i64 x3.to_, .int .i64 x3.rise, .int .i64 x3.weight]]) H
                    refine DW.sole rfl rfl rfl (OW.callV2 rfl rfl rfl (CallsV.cap Tc109 (by simp) (level_balance_1_ok (cap0 := l4) (a0 := r2) (a1 := x3.weight) (R := Ex1) HE1 hr3)) ?_)
                    rintro _ w18 ⟨rfl, hlm6937_cap0, Hq1⟩
                    obtain ⟨Hq1, hz1s, hz1k⟩ := Hz1 w18 (.own A6649_0 c6649_0 28 2 (List.map encRat r3)) [] rfl Hq1
                    refine ⟨_, rfl, fun h => absurd h (by decide), ModX.frz hz1s hz1k (fun _ _ => trivial), ?_⟩
                    replace H : Hp w w18 [.own A6649_0 c6649_0 28 2 (List.map encRat r3), .blk b3 53 [.slice A6649_0 l4.length c6649_0], .own (some ⟨b6, 0, none⟩) 2 113 1 (List.map encN (([x4.at0, x4.at1] : List Int))), .tab Am3 cm3 53 hsm3 28 2 (encM encRat m3), .blk b1 24 [.int .i64 a0.points, .slice A_a0_readings a0.readings.length c_a0_readings], .blk b5 46 [.int .i64 x3.from_, .int .i64 x3.to_, .int .i64 x3.rise, .int .i64 x3.weight]] := Hq1
                    replace R0 := H.ext
                    refine DW.nil (hK25 _ _ ?_)
                    obtain ⟨x6, hbx6, hx6, F⟩ := ix_some F
                    obtain ⟨r4, hr4, F⟩ := bnd_some F
                    obtain ⟨hg6, F⟩ := gd_some F
                    obtain ⟨r5, hr5, F⟩ := bnd_some F
                    have H0 := H
                    have hz : w18.heap.size ≤ w18.heap.size := Nat.le_refl _
                    refine CW.draw [8] (XB w18 [.own A6649_0 c6649_0 28 2 (List.map encRat r3), .blk b3 53 [.slice A6649_0 l4.length c6649_0], .own (some ⟨b6, 0, none⟩) 2 113 1 (List.map encN (([x4.at0, x4.at1] : List Int))), .tab Am3 cm3 53 hsm3 28 2 (encM encRat m3), .blk b1 24 [.int .i64 a0.points, .slice A_a0_readings a0.readings.length c_a0_readings], .blk b5 46 [.int .i64 x3.from_, .int .i64 x3.to_, .int .i64 x3.rise, .int .i64 x3.weight]] [0, 1]) (.cons 0 1 (.cons 1 2 (.cons 2 2 (.cons 3 2 (.cons 5 2 (.cons 6 2 (.cons 7 1 (.cons 4 0 (.cons 8 0 .nil))))))))) mixed (by kernel_rfl) fun w19 E6 => ?_
                    replace H := H.grow E6
                    replace R0 := H.ext
                    replace hz := Nat.le_trans hz (Ext.size E6)
                    refine DW.fix rfl rfl rfl (fun _ EQ => RV.move rfl) ?_
                    refine DW.thru rfl rfl rfl (fun _ EQ => RV.move rfl) ?_
                    refine DW.thru rfl rfl rfl (fun _ EQ => RV.indexArr Ta113 rfl rfl ⟨hbx6.1, (by first | exact hbx6.2 | omega | (have q := hbx6.2; simp at q; omega))⟩) ?_
                    refine DW.thru rfl rfl rfl (fun _ EQ => RV.load1 Tk3 rfl ((H.thruO 2 rfl EQ (H0.notX [0, 1] 2 rfl (by decide))).sl.at_ hx6) rfl) ?_
                    refine DW.thru rfl rfl rfl (fun _ EQ => RV.fieldAddr Tf46_3 rfl) ?_
                    refine DW.thru rfl rfl rfl (fun _ EQ => RV.load1 Tk3 rfl ((H.thruB 5 rfl EQ (H0.notX [0, 1] 5 rfl (by decide))).cells.off 3) rfl) ?_
                    refine DW.fix rfl rfl rfl (fun _ EQ => RV.neg rfl hg6) ?_
                    refine DW.sole rfl rfl rfl (OW.call Tc94 rfl (slices_Index_int_ok (a0 := a1) (a1 := x6) (h_a1.ext R0) hr4) ?_)
                    rintro _ w20 ⟨rfl, E7⟩
                    refine ⟨_, rfl, fun _ => E7, ModX.ext E7, ?_⟩
                    replace H := H.grow E7
                    replace R0 := H.ext
                    replace hz := Nat.le_trans hz (Ext.size E7)
                    replace H := H.pick (L' := [.own A6649_0 c6649_0 28 2 (List.map encRat r3), .blk b3 53 [.slice A6649_0 l4.length c6649_0], .own (some ⟨b6, 0, none⟩) 2 113 1 (List.map encN (([x4.at0, x4.at1] : List Int))), .tab Am3 cm3 53 hsm3 28 2 (encM encRat m3), .blk b1 24 [.int .i64 a0.points, .slice A_a0_readings a0.readings.length c_a0_readings], .blk b5 46 [.int .i64 x3.from_, .int .i64 x3.to_, .int .i64 x3.rise, .int .i64 x3.weight]]) [0, 1, 2, 3, 4, 5] (by decide) rfl
                    replace R0 := H.ext
                    have hce2 : l4.length = r3.length := by first | omega | (simp; done) | (simp; omega) | rfl | assumption
                    replace H := H.cast (L' := [.own A6649_0 c6649_0 28 2 (List.map encRat r3), .blk b3 53 [.slice A6649_0 r3.length c6649_0], .own (some ⟨b6, 0, none⟩) 2 113 1 (List.map encN (([x4.at0, x4.at1] : List Int))), .tab Am3 cm3 53 hsm3 28 2 (encM encRat m3), .blk b1 24 [.int .i64 a0.points, .slice A_a0_readings a0.readings.length c_a0_readings], .blk b5 46 [.int .i64 x3.from_, .int .i64 x3.to_, .int .i64 x3.rise, .int .i64 x3.weight]]) (by first | (rw [hce2]; done) | simp [hce2] | rfl)
                    obtain ⟨Ex2, HE2, Hz2⟩ := Hp.freeze2 (a := .own A6649_0 c6649_0 28 2 (List.map encRat r3)) (L := [.own (some ⟨b6, 0, none⟩) 2 113 1 (List.map encN (([x4.at0, x4.at1] : List Int))), .tab Am3 cm3 53 hsm3 28 2 (encM encRat m3), .blk b1 24 [.int .i64 a0.points, .slice A_a0_readings a0.readings.length c_a0_readings], .blk b5 46 [.int .i64 x3.from_, .int .i64 x3.to_, .int .i64 x3.rise, .int .i64 x3.weight]]) H
                    refine DW.sole rfl rfl rfl (OW.callV2 rfl rfl rfl (CallsV.cap Tc109 (by simp) (level_balance_1_ok (cap0 := r3) (a0 := r4) (a1 := -x3.weight) (R := Ex2) HE2 hr5)) ?_)
                    rintro _ w21 ⟨rfl, hlm6943_cap0, Hq2⟩
                    obtain ⟨Hq2, hz2s, hz2k⟩ := Hz2 w21 (.own A6649_0 c6649_0 28 2 (List.map encRat r5)) [] rfl Hq2
                    refine ⟨_, rfl, fun h => absurd h (by decide), ModX.frz hz2s hz2k (XB.own_ 0 (by decide) rfl), ?_⟩
                    replace H : Hp w w21 [.own A6649_0 c6649_0 28 2 (List.map encRat r5), .blk b3 53 [.slice A6649_0 r3.length c6649_0], .own (some ⟨b6, 0, none⟩) 2 113 1 (List.map encN (([x4.at0, x4.at1] : List Int))), .tab Am3 cm3 53 hsm3 28 2 (encM encRat m3), .blk b1 24 [.int .i64 a0.points, .slice A_a0_readings a0.readings.length c_a0_readings], .blk b5 46 [.int .i64 x3.from_, .int .i64 x3.to_, .int .i64 x3.rise, .int .i64 x3.weight]] := Hq2
                    replace R0 := H.ext
                    replace hz := Nat.le_trans hz hz2s
                    replace H := H.pick (L' := [.tab Am3 cm3 53 hsm3 28 2 (encM encRat m3), .own A6649_0 c6649_0 28 2 (List.map encRat r5), .blk b1 24 [.int .i64 a0.points, .slice A_a0_readings a0.readings.length c_a0_readings], .blk b3 53 [.slice A6649_0 r3.length c6649_0], .blk b5 46 [.int .i64 x3.from_, .int .i64 x3.to_, .int .i64 x3.rise, .int .i64 x3.weight]]) [3, 0, 4, 1, 5] (by decide) rfl
                    replace R0 := H.ext
                    have hce3 : r3.length = r5.length := by first | omega | (simp; done) | (simp; omega) | rfl | assumption
                    replace H := H.cast (L' := [.tab Am3 cm3 53 hsm3 28 2 (encM encRat m3), .own A6649_0 c6649_0 28 2 (List.map encRat r5), .blk b1 24 [.int .i64 a0.points, .slice A_a0_readings a0.readings.length c_a0_readings], .blk b3 53 [.slice A6649_0 r5.length c6649_0], .blk b5 46 [.int .i64 x3.from_, .int .i64 x3.to_, .int .i64 x3.rise, .int .i64 x3.weight]]) (by first | (rw [hce3]; done) | simp [hce3] | rfl)
                    refine DW.nil (jK8997 _ _ ⟨_, ?_, ⟨r5, F, rfl, H⟩⟩)
                    exact ⟨rfl, rfl, rfl, rfl, (look_slice rfl (by first | rfl | (simp; done) | omega | (simp; omega))), rfl, rfl, rfl, rfl, rfl, rfl, rfl, rfl, rfl, rfl, rfl, rfl, trivial⟩
                  ·
                    replace F := ite_n hp4 F
                    have hq4 := dec_f hp4
                    refine CW.condF rfl hq4 ?_
                    replace H := H.pick (L' := [.tab Am3 cm3 53 hsm3 28 2 (encM encRat m3), .own A6649_0 c6649_0 28 2 (List.map encRat l4), .blk b1 24 [.int .i64 a0.points, .slice A_a0_readings a0.readings.length c_a0_readings], .blk b3 53 [.slice A6649_0 l4.length c6649_0], .blk b5 46 [.int .i64 x3.from_, .int .i64 x3.to_, .int .i64 x3.rise, .int .i64 x3.weight]]) [1, 2, 3, 4, 5] (by decide) rfl
                    replace R0 := H.ext
                    refine CW.skip (jK8997 _ _ ⟨_, ?_, ⟨l4, F, rfl, H⟩⟩)
                    exact ⟨rfl, rfl, rfl, rfl, (look_slice rfl (by first | rfl | (simp; done) | omega | (simp; omega))), rfl, rfl, rfl, rfl, rfl, rfl, rfl, rfl, rfl, rfl, rfl, rfl, trivial⟩
              ·
                replace F := ite_n hp3 F
                have hq3 := dec_f hp3
                refine CW.condF rfl hq3 ?_
                replace H := H.pick (L' := [.tab Am3 cm3 53 hsm3 28 2 (encM encRat m3), .own A6649_0 c6649_0 28 2 (List.map encRat l4), .blk b1 24 [.int .i64 a0.points, .slice A_a0_readings a0.readings.length c_a0_readings], .blk b3 53 [.slice A6649_0 l4.length c6649_0]]) [0, 1, 2, 3] (by decide) rfl
                replace R0 := H.ext
                refine CW.exit (jK8971 _ _ ⟨_, ?_, ⟨l4, F, rfl, H⟩⟩)
                exact ⟨rfl, rfl, rfl, rfl, (look_slice rfl (by first | rfl | (simp; done) | omega | (simp; omega))), rfl, rfl, rfl, rfl, rfl, rfl, rfl, rfl, rfl, trivial⟩
          ·
            replace F := ite_n hp2 F
            have hq2 := dec_f hp2
            refine CW.condF rfl hq2 ?_
            refine CW.exit (jK8816 _ _ ⟨_, ?_, ⟨l5, F, rfl, H⟩⟩)
            exact ⟨rfl, rfl, rfl, rfl, (look_slice rfl (by first | rfl | (simp; done) | omega | (simp; omega))), rfl, rfl, rfl, rfl, rfl, trivial⟩
    ·
      replace F := ite_n hp1 F
      have hq1 := dec_f hp1
      refine CW.condF rfl hq1 ?_
      replace H := H.pick (L' := [.tab Am3 cm3 53 hsm3 28 2 (encM encRat m3)]) [0] (by decide) rfl
      replace R0 := H.ext
      refine CW.exit (jK6752 _ _ ⟨_, ?_, ⟨m3, hsm3, Am3, cm3, F, rfl, H⟩⟩)
      exact ⟨rfl, (look_slice rfl (by first | rfl | (simp; done) | omega | (simp; omega))), trivial⟩
end Go.D1
