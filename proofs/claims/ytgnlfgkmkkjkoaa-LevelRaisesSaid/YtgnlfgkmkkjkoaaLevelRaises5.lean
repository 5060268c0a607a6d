/- Lemmas and walks that the proof of this claim uses: D1m26, Tb22, D1p1, D1p2, D1p3, D1p8, D1q1, D1q2, D1q3. -/
import Derived.Test.YtgnlfgkmkkjkoaaLevelRaises4
set_option linter.unusedVariables false
set_option linter.unusedSimpArgs false
namespace Go.D1
open Go.Tb Go.Proofs Go.RowKit
theorem Tc57 : callable Try.prog 57 = true := by kernel_rfl
theorem Tc58 : callable Try.prog 58 = true := by kernel_rfl
set_option maxRecDepth 20000 in
set_option maxHeartbeats 1000000 in
theorem law01_LevelRaises_ok {a0 : Survey} {a1 : List Int} {a2 : Three} {A_a0_readings : Option Addr} {c_a0_readings : Nat} {A_a1 : Option Addr} {c_a1 : Nat} {w : World} {res : Bool} (h_a0_readings : Sl w A_a0_readings c_a0_readings 4 (a0.readings.map encReading)) (h_a1 : Sl w A_a1 c_a1 1 (a1.map encN)) (F : law01_LevelRaises a0 a1 a2 = some res) : Calls Try.prog 14 #[.agg #[.int .i64 a0.points, .slice A_a0_readings a0.readings.length c_a0_readings], .slice A_a1 a1.length c_a1, .agg #[.int .i64 a2.i, .int .i64 a2.j, .int .i64 a2.k]] w (Rt w (.bool res)) := by
  refine calls_of_cw (args := [.agg #[.int .i64 a0.points, .slice A_a0_readings a0.readings.length c_a0_readings], .slice A_a1 a1.length c_a1, .agg #[.int .i64 a2.i, .int .i64 a2.j, .int .i64 a2.k]]) Try.func14 rfl rfl rfl rfl ?_
  have H := Hp.start w
  have R0 := H.ext
  unfold law01_LevelRaises at F
  refine CW.seq fun K1 hK1 => ?_
  refine CW.region ?_
  refine LW.go rfl rfl (OW.box rfl fun b1 w1 N1 => ?_)
  replace H := H.new N1 N1.blk
  replace R0 := H.ext
  refine LW.go rfl rfl (OW.box rfl fun b2 w2 N2 => ?_)
  replace H := H.new N2 N2.blk
  replace R0 := H.ext
  refine LW.pure rfl rfl (RV.assign rfl) ?_
  refine LW.nil (hK1 _ _ ?_)
  refine CW.seq fun K2 hK2 => ?_
  refine CW.seqJ (fun ρ wl1 => (∃ (t34_1 : Bool), law01_LevelRaises_k7 a0 a1 a2 t34_1 = some res ∧ ρ = [(1, .slice A_a1 a1.length c_a1), (3, .pointer (some (⟨b1, 0, none⟩))), (5, .pointer (some (⟨b2, 0, none⟩))), (6, .bool false), (34, .bool t34_1)] ∧ Hp w wl1 [.blk b1 24 [.int .i64 a0.points, .slice A_a0_readings a0.readings.length c_a0_readings], .blk b2 34 [.int .i64 a2.i, .int .i64 a2.j, .int .i64 a2.k]])) ?_ ?_
  ·
    rintro _ wl1 ⟨t34_1, F, rfl, H⟩
    have R0 := H.ext
    unfold law01_LevelRaises_k7 at F
    by_cases hp1 : t34_1 = true
    ·
      replace F := ite_y hp1 F
      have hq1 : t34_1 = true := hp1
      refine CW.condT rfl hq1 ?_
      refine CW.seq fun K3 hK3 => ?_
      obtain ⟨r12, hr12, F⟩ := bnd_some F
      refine CW.region ?_
      refine LW.go rfl rfl (OW.call Tc18 rfl (law01_known_ok hr12) ?_)
      rintro _ w3 ⟨rfl, E1⟩
      refine ⟨_, rfl, ?_⟩
      replace H := H.grow E1
      replace R0 := H.ext
      refine LW.pure rfl rfl (RV.assign rfl) ?_
      refine LW.nil (hK3 _ _ ?_)
      refine CW.ret ?_
      obtain rfl := Option.some.inj F
      refine ⟨_, (ResOK.one rfl), ?_⟩
      refine ⟨(by first | rfl | simp), R0⟩
    ·
      replace F := ite_n hp1 F
      have hq1 : t34_1 = false := raw_f hp1
      refine CW.condF rfl hq1 ?_
      refine CW.skip (hK2 _ _ ?_)
      refine CW.seq fun K4 hK4 => ?_
      obtain ⟨r6, hr6, F⟩ := bnd_some F
      refine CW.region ?_
      refine LW.pure rfl rfl (RV.loadA [.int .i64 a0.points, .slice A_a0_readings a0.readings.length c_a0_readings] Tk24 rfl (H.blk 0 rfl).cells rfl rfl) ?_
      refine LW.pure rfl rfl (RV.move rfl) ?_
      refine LW.go rfl rfl (OW.call Tc57 rfl (level_Raise_ok (a0 := a0) (a1 := a1) (h_a0_readings.ext R0) (h_a1.ext R0) hr6) ?_)
      rintro _ w4 ⟨A93_0_readings, c93_0_readings, rfl, E2⟩
      refine ⟨_, rfl, ?_⟩
      replace H : Hp w w4 [.own A93_0_readings c93_0_readings 46 4 (List.map encReading r6.1.readings), .blk b1 24 [.int .i64 a0.points, .slice A_a0_readings a0.readings.length c_a0_readings], .blk b2 34 [.int .i64 a2.i, .int .i64 a2.j, .int .i64 a2.k]] := H.append E2
      replace R0 := H.ext
      refine LW.pure rfl rfl (RV.move rfl) ?_
      refine LW.pure rfl rfl (RV.extract rfl rfl) ?_
      refine LW.pure rfl rfl (RV.extract rfl rfl) ?_
      refine LW.go rfl rfl (OW.alloc Tz24 fun b3 w5 N3 => ?_)
      replace H := H.new N3 N3.blk
      replace R0 := H.ext
      refine LW.go rfl rfl (OW.store Tk24 rfl rfl (H.blk 0 rfl) (off := 0) (vs := [.int .i64 r6.1.points, .slice A93_0_readings r6.1.readings.length c93_0_readings]) rfl rfl rfl rfl rfl fun w6 S1 => ?_)
      replace H : Hp w w6 [.blk b3 24 [.int .i64 r6.1.points, .slice A93_0_readings r6.1.readings.length c93_0_readings], .own A93_0_readings c93_0_readings 46 4 (List.map encReading r6.1.readings), .blk b1 24 [.int .i64 a0.points, .slice A_a0_readings a0.readings.length c_a0_readings], .blk b2 34 [.int .i64 a2.i, .int .i64 a2.j, .int .i64 a2.k]] := H.stored 0 rfl S1
      replace R0 := H.ext
      refine LW.pure rfl rfl (RV.assign rfl) ?_
      refine LW.nil (hK4 _ _ ?_)
      refine CW.seq fun K5 hK5 => ?_
      obtain ⟨r13, hr13, F⟩ := bnd_some F
      refine CW.region ?_
      refine LW.pure rfl rfl (RV.loadA [.int .i64 a0.points, .slice A_a0_readings a0.readings.length c_a0_readings] Tk24 rfl (H.blk 2 rfl).cells rfl rfl) ?_
      refine LW.pure rfl rfl (RV.move rfl) ?_
      refine LW.go rfl rfl (OW.call Tc58 rfl (ref01_Raise_ok (a0 := a0) (a1 := a1) (h_a0_readings.ext R0) (h_a1.ext R0) hr13) ?_)
      rintro _ w7 ⟨A95_0_readings, c95_0_readings, rfl, E3⟩
      refine ⟨_, rfl, ?_⟩
      replace H : Hp w w7 [.own A95_0_readings c95_0_readings 46 4 (List.map encReading r13.1.readings), .blk b3 24 [.int .i64 r6.1.points, .slice A93_0_readings r6.1.readings.length c93_0_readings], .own A93_0_readings c93_0_readings 46 4 (List.map encReading r6.1.readings), .blk b1 24 [.int .i64 a0.points, .slice A_a0_readings a0.readings.length c_a0_readings], .blk b2 34 [.int .i64 a2.i, .int .i64 a2.j, .int .i64 a2.k]] := H.append E3
      replace R0 := H.ext
      refine LW.pure rfl rfl (RV.move rfl) ?_
      refine LW.pure rfl rfl (RV.extract rfl rfl) ?_
      refine LW.pure rfl rfl (RV.extract rfl rfl) ?_
      refine LW.go rfl rfl (OW.alloc Tz24 fun b4 w8 N4 => ?_)
      replace H := H.new N4 N4.blk
      replace R0 := H.ext
      refine LW.go rfl rfl (OW.store Tk24 rfl rfl (H.blk 0 rfl) (off := 0) (vs := [.int .i64 r13.1.points, .slice A95_0_readings r13.1.readings.length c95_0_readings]) rfl rfl rfl rfl rfl fun w9 S2 => ?_)
      replace H : Hp w w9 [.blk b4 24 [.int .i64 r13.1.points, .slice A95_0_readings r13.1.readings.length c95_0_readings], .own A95_0_readings c95_0_readings 46 4 (List.map encReading r13.1.readings), .blk b3 24 [.int .i64 r6.1.points, .slice A93_0_readings r6.1.readings.length c93_0_readings], .own A93_0_readings c93_0_readings 46 4 (List.map encReading r6.1.readings), .blk b1 24 [.int .i64 a0.points, .slice A_a0_readings a0.readings.length c_a0_readings], .blk b2 34 [.int .i64 a2.i, .int .i64 a2.j, .int .i64 a2.k]] := H.stored 0 rfl S2
      replace R0 := H.ext
      refine LW.pure rfl rfl (RV.assign rfl) ?_
      refine LW.nil (hK5 _ _ ?_)
      refine CW.seq fun K6 hK6 => ?_
      refine CW.seqJ (fun ρ wl2 => (∃ (t56_1 : Bool), law01_LevelRaises_k6 a0 a1 a2 r6 t56_1 = some res ∧ ρ = [(1, .slice A_a1 a1.length c_a1), (3, .pointer (some (⟨b1, 0, none⟩))), (5, .pointer (some (⟨b2, 0, none⟩))), (6, .bool false), (7, .pointer (some (⟨b3, 0, none⟩))), (8, .int .i64 r6.2), (56, .bool t56_1)] ∧ Hp w wl2 [.own A93_0_readings c93_0_readings 46 4 (List.map encReading r6.1.readings), .blk b1 24 [.int .i64 a0.points, .slice A_a0_readings a0.readings.length c_a0_readings], .blk b2 34 [.int .i64 a2.i, .int .i64 a2.j, .int .i64 a2.k], .blk b3 24 [.int .i64 r6.1.points, .slice A93_0_readings r6.1.readings.length c93_0_readings]])) ?_ ?_
      ·
        rintro _ wl2 ⟨t56_1, F, rfl, H⟩
        have R0 := H.ext
        unfold law01_LevelRaises_k6 at F
        by_cases hp2 : t56_1 = true
        ·
          replace F := ite_y hp2 F
          have hq2 : t56_1 = true := hp2
          refine CW.condT rfl hq2 ?_
          refine CW.seq fun K7 hK7 => ?_
          refine CW.region ?_
          refine LW.pure rfl rfl (RV.assign rfl) ?_
          refine LW.nil (hK7 _ _ ?_)
          refine CW.ret ?_
          obtain rfl := Option.some.inj F
          refine ⟨_, (ResOK.one rfl), ?_⟩
          refine ⟨(by first | rfl | simp), R0⟩
        ·
          replace F := ite_n hp2 F
          have hq2 : t56_1 = false := raw_f hp2
          refine CW.condF rfl hq2 ?_
          refine CW.skip (hK6 _ _ ?_)
          refine CW.seq fun K8 hK8 => ?_
          refine CW.seq fun K9 hK9 => ?_
          refine CW.region ?_
          refine LW.pure rfl rfl (RV.move rfl) ?_
          refine LW.pure rfl rfl (RV.nei rfl rfl) ?_
          refine LW.nil (hK9 _ _ ?_)
          by_cases hp3 : r6.2 = 0
          ·
            replace F := ite_y hp3 F
            have hq3 := dec_t hp3
            refine CW.condF rfl (not_f hq3) ?_
            refine CW.skip (hK8 _ _ ?_)
            refine CW.seq fun K10 hK10 => ?_
            obtain ⟨r7, hr7, F⟩ := bnd_some F
            refine CW.region ?_
            refine LW.pure rfl rfl (RV.loadA [.int .i64 a0.points, .slice A_a0_readings a0.readings.length c_a0_readings] Tk24 rfl (H.blk 1 rfl).cells rfl rfl) ?_
            refine LW.go rfl rfl (OW.call Tc38 rfl (level_Misfit_ok (a0 := a0) (h_a0_readings.ext R0) hr7) ?_)
            rintro _ w10 ⟨rfl, E4⟩
            refine ⟨_, rfl, ?_⟩
            replace H := H.grow E4
            replace R0 := H.ext
            refine LW.pure rfl rfl (RV.move rfl) ?_
            refine LW.pure rfl rfl (RV.extract rfl rfl) ?_
            refine LW.pure rfl rfl (RV.extract rfl rfl) ?_
            refine LW.go rfl rfl (OW.alloc Tz28 fun b5 w11 N5 => ?_)
            replace H := H.new N5 N5.blk
            replace R0 := H.ext
            refine LW.go rfl rfl (OW.store Tk28 rfl rfl (H.blk 0 rfl) (off := 0) (vs := [.int .i64 r7.1.num, .int .i64 r7.1.den]) rfl rfl rfl rfl rfl fun w12 S3 => ?_)
            replace H : Hp w w12 [.blk b5 28 [.int .i64 r7.1.num, .int .i64 r7.1.den], .own A93_0_readings c93_0_readings 46 4 (List.map encReading r6.1.readings), .blk b1 24 [.int .i64 a0.points, .slice A_a0_readings a0.readings.length c_a0_readings], .blk b2 34 [.int .i64 a2.i, .int .i64 a2.j, .int .i64 a2.k], .blk b3 24 [.int .i64 r6.1.points, .slice A93_0_readings r6.1.readings.length c93_0_readings]] := H.stored 0 rfl S3
            replace R0 := H.ext
            refine LW.pure rfl rfl (RV.assign rfl) ?_
            refine LW.nil (hK10 _ _ ?_)
            refine CW.seq fun K11 hK11 => ?_
            obtain ⟨r8, hr8, F⟩ := bnd_some F
            refine CW.region ?_
            refine LW.pure rfl rfl (RV.loadA [.int .i64 r6.1.points, .slice A93_0_readings r6.1.readings.length c93_0_readings] Tk24 rfl (H.blk 4 rfl).cells rfl rfl) ?_
            refine LW.go rfl rfl (OW.call Tc38 rfl (level_Misfit_ok (a0 := r6.1) (H.own 1 rfl).sl hr8) ?_)
            rintro _ w13 ⟨rfl, E5⟩
            refine ⟨_, rfl, ?_⟩
            replace H := H.grow E5
            replace R0 := H.ext
            refine LW.pure rfl rfl (RV.move rfl) ?_
            refine LW.pure rfl rfl (RV.extract rfl rfl) ?_
            refine LW.pure rfl rfl (RV.extract rfl rfl) ?_
            refine LW.go rfl rfl (OW.alloc Tz28 fun b6 w14 N6 => ?_)
            replace H := H.new N6 N6.blk
            replace R0 := H.ext
            refine LW.go rfl rfl (OW.store Tk28 rfl rfl (H.blk 0 rfl) (off := 0) (vs := [.int .i64 r8.1.num, .int .i64 r8.1.den]) rfl rfl rfl rfl rfl fun w15 S4 => ?_)
            replace H : Hp w w15 [.blk b6 28 [.int .i64 r8.1.num, .int .i64 r8.1.den], .blk b5 28 [.int .i64 r7.1.num, .int .i64 r7.1.den], .own A93_0_readings c93_0_readings 46 4 (List.map encReading r6.1.readings), .blk b1 24 [.int .i64 a0.points, .slice A_a0_readings a0.readings.length c_a0_readings], .blk b2 34 [.int .i64 a2.i, .int .i64 a2.j, .int .i64 a2.k], .blk b3 24 [.int .i64 r6.1.points, .slice A93_0_readings r6.1.readings.length c93_0_readings]] := H.stored 0 rfl S4
            replace R0 := H.ext
            refine LW.pure rfl rfl (RV.assign rfl) ?_
            refine LW.nil (hK11 _ _ ?_)
            refine CW.seq fun K12 hK12 => ?_
            obtain ⟨r9, hr9, F⟩ := bnd_some F
            refine CW.region ?_
            refine LW.pure rfl rfl (RV.loadA [.int .i64 a0.points, .slice A_a0_readings a0.readings.length c_a0_readings] Tk24 rfl (H.blk 3 rfl).cells rfl rfl) ?_
            refine LW.pure rfl rfl (RV.fieldAddr Tf34_0 rfl) ?_
            refine LW.pure rfl rfl (RV.load1 Tk3 rfl ((H.blk 4 rfl).cells.off 0) rfl) ?_
            refine LW.pure rfl rfl (RV.fieldAddr Tf34_1 rfl) ?_
            refine LW.pure rfl rfl (RV.load1 Tk3 rfl ((H.blk 4 rfl).cells.off 1) rfl) ?_
            refine LW.go rfl rfl (OW.call Tc19 rfl (level_Error_ok (a0 := a0) (a1 := a2.i) (a2 := a2.j) (h_a0_readings.ext R0) hr9) ?_)
            rintro _ w16 ⟨rfl, E6⟩
            refine ⟨_, rfl, ?_⟩
            replace H := H.grow E6
            replace R0 := H.ext
            refine LW.pure rfl rfl (RV.move rfl) ?_
            refine LW.pure rfl rfl (RV.extract rfl rfl) ?_
            refine LW.pure rfl rfl (RV.extract rfl rfl) ?_
            refine LW.go rfl rfl (OW.alloc Tz28 fun b7 w17 N7 => ?_)
            replace H := H.new N7 N7.blk
            replace R0 := H.ext
            refine LW.go rfl rfl (OW.store Tk28 rfl rfl (H.blk 0 rfl) (off := 0) (vs := [.int .i64 r9.1.num, .int .i64 r9.1.den]) rfl rfl rfl rfl rfl fun w18 S5 => ?_)
            replace H : Hp w w18 [.blk b7 28 [.int .i64 r9.1.num, .int .i64 r9.1.den], .blk b6 28 [.int .i64 r8.1.num, .int .i64 r8.1.den], .blk b5 28 [.int .i64 r7.1.num, .int .i64 r7.1.den], .own A93_0_readings c93_0_readings 46 4 (List.map encReading r6.1.readings), .blk b1 24 [.int .i64 a0.points, .slice A_a0_readings a0.readings.length c_a0_readings], .blk b2 34 [.int .i64 a2.i, .int .i64 a2.j, .int .i64 a2.k], .blk b3 24 [.int .i64 r6.1.points, .slice A93_0_readings r6.1.readings.length c93_0_readings]] := H.stored 0 rfl S5
            replace R0 := H.ext
            refine LW.pure rfl rfl (RV.assign rfl) ?_
            refine LW.nil (hK12 _ _ ?_)
            refine CW.seq fun K13 hK13 => ?_
            obtain ⟨r10, hr10, F⟩ := bnd_some F
            refine CW.region ?_
            refine LW.pure rfl rfl (RV.loadA [.int .i64 r6.1.points, .slice A93_0_readings r6.1.readings.length c93_0_readings] Tk24 rfl (H.blk 6 rfl).cells rfl rfl) ?_
            refine LW.pure rfl rfl (RV.fieldAddr Tf34_0 rfl) ?_
            refine LW.pure rfl rfl (RV.load1 Tk3 rfl ((H.blk 5 rfl).cells.off 0) rfl) ?_
            refine LW.pure rfl rfl (RV.fieldAddr Tf34_1 rfl) ?_
            refine LW.pure rfl rfl (RV.load1 Tk3 rfl ((H.blk 5 rfl).cells.off 1) rfl) ?_
            refine LW.go rfl rfl (OW.call Tc19 rfl (level_Error_ok (a0 := r6.1) (a1 := a2.i) (a2 := a2.j) (H.own 3 rfl).sl hr10) ?_)
            rintro _ w19 ⟨rfl, E7⟩
            refine ⟨_, rfl, ?_⟩
            replace H := H.grow E7
            replace R0 := H.ext
            refine LW.pure rfl rfl (RV.move rfl) ?_
            refine LW.pure rfl rfl (RV.extract rfl rfl) ?_
            refine LW.pure rfl rfl (RV.extract rfl rfl) ?_
            refine LW.go rfl rfl (OW.alloc Tz28 fun b8 w20 N8 => ?_)
            replace H := H.new N8 N8.blk
            replace R0 := H.ext
            refine LW.go rfl rfl (OW.store Tk28 rfl rfl (H.blk 0 rfl) (off := 0) (vs := [.int .i64 r10.1.num, .int .i64 r10.1.den]) rfl rfl rfl rfl rfl fun w21 S6 => ?_)
            replace H : Hp w w21 [.blk b8 28 [.int .i64 r10.1.num, .int .i64 r10.1.den], .blk b7 28 [.int .i64 r9.1.num, .int .i64 r9.1.den], .blk b6 28 [.int .i64 r8.1.num, .int .i64 r8.1.den], .blk b5 28 [.int .i64 r7.1.num, .int .i64 r7.1.den], .own A93_0_readings c93_0_readings 46 4 (List.map encReading r6.1.readings), .blk b1 24 [.int .i64 a0.points, .slice A_a0_readings a0.readings.length c_a0_readings], .blk b2 34 [.int .i64 a2.i, .int .i64 a2.j, .int .i64 a2.k], .blk b3 24 [.int .i64 r6.1.points, .slice A93_0_readings r6.1.readings.length c93_0_readings]] := H.stored 0 rfl S6
            replace R0 := H.ext
            refine LW.pure rfl rfl (RV.assign rfl) ?_
            refine LW.nil (hK13 _ _ ?_)
            refine CW.seq fun K14 hK14 => ?_
            refine CW.seqJ (fun ρ wl3 => (∃ (t108_1 : Bool), law01_LevelRaises_k5 a0 a1 r6 t108_1 = some res ∧ ρ = [(1, .slice A_a1 a1.length c_a1), (3, .pointer (some (⟨b1, 0, none⟩))), (6, .bool false), (7, .pointer (some (⟨b3, 0, none⟩))), (108, .bool t108_1)] ∧ Hp w wl3 [.own A93_0_readings c93_0_readings 46 4 (List.map encReading r6.1.readings), .blk b1 24 [.int .i64 a0.points, .slice A_a0_readings a0.readings.length c_a0_readings], .blk b3 24 [.int .i64 r6.1.points, .slice A93_0_readings r6.1.readings.length c93_0_readings]])) ?_ ?_
            ·
              rintro _ wl3 ⟨t108_1, F, rfl, H⟩
              have R0 := H.ext
              unfold law01_LevelRaises_k5 at F
              by_cases hp4 : t108_1 = true
              ·
                replace F := ite_y hp4 F
                have hq4 : t108_1 = true := hp4
                refine CW.condT rfl hq4 ?_
                refine CW.seq fun K15 hK15 => ?_
                refine CW.region ?_
                refine LW.pure rfl rfl (RV.assign rfl) ?_
                refine LW.nil (hK15 _ _ ?_)
                refine CW.ret ?_
                obtain rfl := Option.some.inj F
                refine ⟨_, (ResOK.one rfl), ?_⟩
                refine ⟨(by first | rfl | simp), R0⟩
              ·
                replace F := ite_n hp4 F
                have hq4 : t108_1 = false := raw_f hp4
                refine CW.condF rfl hq4 ?_
                refine CW.skip (hK14 _ _ ?_)
                refine CW.seq fun K16 hK16 => ?_
                obtain ⟨r2, hr2, F⟩ := bnd_some F
                refine CW.region ?_
                refine LW.pure rfl rfl (RV.loadA [.int .i64 a0.points, .slice A_a0_readings a0.readings.length c_a0_readings] Tk24 rfl (H.blk 1 rfl).cells rfl rfl) ?_
                refine LW.go rfl rfl (OW.call Tc34 rfl (level_Best_ok (a0 := a0) (h_a0_readings.ext R0) hr2) ?_)
                rintro _ w22 ⟨A106_0, c106_0, rfl, E8⟩
                refine ⟨_, rfl, ?_⟩
                replace H : Hp w w22 [.own A106_0 c106_0 28 2 (List.map encRat r2.1), .own A93_0_readings c93_0_readings 46 4 (List.map encReading r6.1.readings), .blk b1 24 [.int .i64 a0.points, .slice A_a0_readings a0.readings.length c_a0_readings], .blk b3 24 [.int .i64 r6.1.points, .slice A93_0_readings r6.1.readings.length c93_0_readings]] := H.append E8
                replace R0 := H.ext
                refine LW.pure rfl rfl (RV.move rfl) ?_
                refine LW.pure rfl rfl (RV.extract rfl rfl) ?_
                refine LW.pure rfl rfl (RV.extract rfl rfl) ?_
                refine LW.pure rfl rfl (RV.assign rfl) ?_
                refine LW.pure rfl rfl (RV.assign rfl) ?_
                refine LW.nil (hK16 _ _ ?_)
                refine CW.seq fun K17 hK17 => ?_
                obtain ⟨r3, hr3, F⟩ := bnd_some F
                refine CW.region ?_
                refine LW.pure rfl rfl (RV.loadA [.int .i64 r6.1.points, .slice A93_0_readings r6.1.readings.length c93_0_readings] Tk24 rfl (H.blk 3 rfl).cells rfl rfl) ?_
                refine LW.go rfl rfl (OW.call Tc34 rfl (level_Best_ok (a0 := r6.1) (H.own 1 rfl).sl hr3) ?_)
                rintro _ w23 ⟨A108_0, c108_0, rfl, E9⟩
                refine ⟨_, rfl, ?_⟩
                replace H : Hp w w23 [.own A108_0 c108_0 28 2 (List.map encRat r3.1), .own A106_0 c106_0 28 2 (List.map encRat r2.1), .own A93_0_readings c93_0_readings 46 4 (List.map encReading r6.1.readings), .blk b1 24 [.int .i64 a0.points, .slice A_a0_readings a0.readings.length c_a0_readings], .blk b3 24 [.int .i64 r6.1.points, .slice A93_0_readings r6.1.readings.length c93_0_readings]] := H.append E9
                replace R0 := H.ext
                refine LW.pure rfl rfl (RV.move rfl) ?_
                refine LW.pure rfl rfl (RV.extract rfl rfl) ?_
                refine LW.pure rfl rfl (RV.extract rfl rfl) ?_
                refine LW.pure rfl rfl (RV.assign rfl) ?_
                refine LW.pure rfl rfl (RV.assign rfl) ?_
                refine LW.nil (hK17 _ _ ?_)
                refine CW.seq fun K18 hK18 => ?_
                obtain ⟨r4, hr4, F⟩ := bnd_some F
                refine CW.region ?_
                refine LW.pure rfl rfl (RV.loadA [.int .i64 a0.points, .slice A_a0_readings a0.readings.length c_a0_readings] Tk24 rfl (H.blk 3 rfl).cells rfl rfl) ?_
                refine LW.go rfl rfl (OW.call Tc21 rfl (level_Parts_ok (a0 := a0) (h_a0_readings.ext R0) hr4) ?_)
                rintro _ w24 ⟨A110_0, c110_0, hs110_0, rfl, E10⟩
                refine ⟨_, rfl, ?_⟩
                replace H : Hp w w24 [.tab A110_0 c110_0 39 hs110_0 3 1 (encM encN r4.1), .own A108_0 c108_0 28 2 (List.map encRat r3.1), .own A106_0 c106_0 28 2 (List.map encRat r2.1), .own A93_0_readings c93_0_readings 46 4 (List.map encReading r6.1.readings), .blk b1 24 [.int .i64 a0.points, .slice A_a0_readings a0.readings.length c_a0_readings], .blk b3 24 [.int .i64 r6.1.points, .slice A93_0_readings r6.1.readings.length c93_0_readings]] := H.append E10
                replace R0 := H.ext
                refine LW.pure rfl rfl (RV.move rfl) ?_
                refine LW.pure rfl rfl (RV.extract rfl rfl) ?_
                refine LW.pure rfl rfl (RV.extract rfl rfl) ?_
                refine LW.pure rfl rfl (RV.assign rfl) ?_
                refine LW.pure rfl rfl (RV.assign rfl) ?_
                refine LW.nil (hK18 _ _ ?_)
                refine CW.seq fun K19 hK19 => ?_
                refine CW.seqJ (fun ρ wl4 => (∃ (t140_1 : Bool), law01_LevelRaises_k4 a1 r2 r3 r4 t140_1 = some res ∧ ρ = [(1, .slice A_a1 a1.length c_a1), (6, .bool false), (19, .slice A106_0 r2.1.length c106_0), (21, .slice A108_0 r3.1.length c108_0), (23, .slice A110_0 r4.1.length c110_0), (140, .bool t140_1)] ∧ Hp w wl4 [.own A106_0 c106_0 28 2 (List.map encRat r2.1), .own A108_0 c108_0 28 2 (List.map encRat r3.1), .tab A110_0 c110_0 39 hs110_0 3 1 (encM encN r4.1)])) ?_ ?_
                ·
                  rintro _ wl4 ⟨t140_1, F, rfl, H⟩
                  have R0 := H.ext
                  unfold law01_LevelRaises_k4 at F
                  by_cases hp5 : t140_1 = true
                  ·
                    replace F := ite_y hp5 F
                    have hq5 : t140_1 = true := hp5
                    refine CW.condT rfl hq5 ?_
                    refine CW.seq fun K20 hK20 => ?_
                    refine CW.region ?_
                    refine LW.pure rfl rfl (RV.assign rfl) ?_
                    refine LW.nil (hK20 _ _ ?_)
                    refine CW.ret ?_
                    obtain rfl := Option.some.inj F
                    refine ⟨_, (ResOK.one rfl), ?_⟩
                    refine ⟨(by first | rfl | simp), R0⟩
                  ·
                    replace F := ite_n hp5 F
                    have hq5 : t140_1 = false := raw_f hp5
                    refine CW.condF rfl hq5 ?_
                    refine CW.skip (hK19 _ _ ?_)
                    refine CW.seqJ (fun ρ wl5 => (law01_LevelRaises_k1 = some res ∧ ρ = [(6, .bool false)] ∧ Hp w wl5 [])) ?_ ?_
                    ·
                      rintro _ wl5 ⟨F, rfl, H⟩
                      have R0 := H.ext
                      unfold law01_LevelRaises_k1 at F
                      refine CW.seq fun K21 hK21 => ?_
                      obtain ⟨r1, hr1, F⟩ := bnd_some F
                      refine CW.region ?_
                      refine LW.go rfl rfl (OW.call Tc18 rfl (law01_known_ok hr1) ?_)
                      rintro _ w25 ⟨rfl, E11⟩
                      refine ⟨_, rfl, ?_⟩
                      replace H := H.grow E11
                      replace R0 := H.ext
                      refine LW.pure rfl rfl (RV.assign rfl) ?_
                      refine LW.nil (hK21 _ _ ?_)
                      refine CW.ret ?_
                      obtain rfl := Option.some.inj F
                      refine ⟨_, (ResOK.one rfl), ?_⟩
                      refine ⟨(by first | rfl | simp), R0⟩
                    ·
                      intro K22 hK22 jK421
                      refine CW.seq fun K23 hK23 => ?_
                      refine CW.region ?_
                      refine LW.pure rfl rfl (RV.assign rfl) ?_
                      refine LW.nil (hK23 _ _ ?_)
                      refine CW.block ?_
                      refine CW.loop (fun meas ρ wl6 => ∃ (t25_1 : Int), law01_LevelRaises_L2 a1 r2 r3 r4 meas t25_1 = some res ∧ ρ = [(1, .slice A_a1 a1.length c_a1), (6, .bool false), (19, .slice A106_0 r2.1.length c106_0), (21, .slice A108_0 r3.1.length c108_0), (23, .slice A110_0 r4.1.length c110_0), (25, .int .i64 t25_1)] ∧ Hp w wl6 [.own A106_0 c106_0 28 2 (List.map encRat r2.1), .own A108_0 c108_0 28 2 (List.map encRat r3.1), .tab A110_0 c110_0 39 hs110_0 3 1 (encM encN r4.1)]) FU ⟨_, ?_, ((0 : Int)), F, rfl, H⟩ ?_
                      · exact ⟨rfl, rfl, (look_slice rfl (by first | rfl | (simp; done) | omega | (simp; omega))), (look_slice rfl (by first | rfl | (simp; done) | omega | (simp; omega))), (look_slice rfl (by first | rfl | (simp; done) | omega | (simp; omega))), rfl, trivial⟩
                      rintro mk1 _ wl6 ⟨t25_1, F, rfl, H⟩
                      have R0 := H.ext
                      replace F := law01_LevelRaises_L2_s F
                      obtain ⟨mk1, rfl, F⟩ := F
                      generalize hrec1 : law01_LevelRaises_L2 a1 r2 r3 r4 mk1 = rec1 at F
                      unfold law01_LevelRaises_B2 at F
                      refine CW.seq fun K24 hK24 => ?_
                      refine CW.seq fun K25 hK25 => ?_
                      refine CW.region ?_
                      refine LW.pure rfl rfl (RV.move rfl) ?_
                      refine LW.pure rfl rfl (RV.move rfl) ?_
                      refine LW.pure rfl rfl (RV.len Ts36 rfl) ?_
                      refine LW.pure rfl rfl (RV.lss rfl rfl) ?_
                      refine LW.nil (hK25 _ _ ?_)
                      by_cases hp6 : t25_1 < ((r4.1.length : Int))
                      ·
                        replace F := ite_y hp6 F
                        have hq6 := dec_t hp6
                        refine CW.condT rfl hq6 ?_
                        refine CW.skip (hK24 _ _ ?_)
                        refine CW.seqJ (fun ρ wl7 => (law01_LevelRaises_k2 t25_1 rec1 = some res ∧ ρ = [(1, .slice A_a1 a1.length c_a1), (6, .bool false), (19, .slice A106_0 r2.1.length c106_0), (21, .slice A108_0 r3.1.length c108_0), (23, .slice A110_0 r4.1.length c110_0), (25, .int .i64 t25_1)] ∧ Hp w wl7 [.own A106_0 c106_0 28 2 (List.map encRat r2.1), .own A108_0 c108_0 28 2 (List.map encRat r3.1), .tab A110_0 c110_0 39 hs110_0 3 1 (encM encN r4.1)])) ?_ ?_
                        ·
                          rintro _ wl7 ⟨F, rfl, H⟩
                          have R0 := H.ext
                          unfold law01_LevelRaises_k2 at F
                          obtain ⟨hg1, F⟩ := gd_some F
                          refine CW.region ?_
                          refine LW.pure rfl rfl (RV.move rfl) ?_
                          refine LW.pure rfl rfl (RV.add rfl rfl hg1) ?_
                          refine LW.pure rfl rfl (RV.assign rfl) ?_
                          refine LW.nil ?_
                          subst hrec1
                          refine ⟨mk1, Nat.lt_succ_self _, _, ?_, (t25_1 + 1), F, rfl, H⟩
                          exact ⟨rfl, rfl, (look_slice rfl (by first | rfl | (simp; done) | omega | (simp; omega))), (look_slice rfl (by first | rfl | (simp; done) | omega | (simp; omega))), (look_slice rfl (by first | rfl | (simp; done) | omega | (simp; omega))), rfl, trivial⟩
                        ·
                          intro K26 hK26 jK526
                          refine CW.block ?_
                          refine CW.seq fun K27 hK27 => ?_
                          refine CW.region ?_
                          refine LW.pure rfl rfl (RV.assign rfl) ?_
                          refine LW.nil (hK27 _ _ ?_)
                          refine CW.block ?_
                          refine CW.loop (fun meas ρ wl8 => ∃ (t26_1 : Int), law01_LevelRaises_L1 a1 r2 r3 r4 t25_1 rec1 meas t26_1 = some res ∧ ρ = [(1, .slice A_a1 a1.length c_a1), (6, .bool false), (19, .slice A106_0 r2.1.length c106_0), (21, .slice A108_0 r3.1.length c108_0), (23, .slice A110_0 r4.1.length c110_0), (25, .int .i64 t25_1), (26, .int .i64 t26_1)] ∧ Hp w wl8 [.own A106_0 c106_0 28 2 (List.map encRat r2.1), .own A108_0 c108_0 28 2 (List.map encRat r3.1), .tab A110_0 c110_0 39 hs110_0 3 1 (encM encN r4.1)]) FU ⟨_, ?_, ((0 : Int)), F, rfl, H⟩ ?_
                          · exact ⟨rfl, rfl, (look_slice rfl (by first | rfl | (simp; done) | omega | (simp; omega))), (look_slice rfl (by first | rfl | (simp; done) | omega | (simp; omega))), (look_slice rfl (by first | rfl | (simp; done) | omega | (simp; omega))), rfl, rfl, trivial⟩
                          rintro mk2 _ wl8 ⟨t26_1, F, rfl, H⟩
                          have R0 := H.ext
                          replace F := law01_LevelRaises_L1_s F
                          obtain ⟨mk2, rfl, F⟩ := F
                          generalize hrec2 : law01_LevelRaises_L1 a1 r2 r3 r4 t25_1 rec1 mk2 = rec2 at F
                          unfold law01_LevelRaises_B1 at F
                          refine CW.seq fun K28 hK28 => ?_
                          refine CW.seq fun K29 hK29 => ?_
                          obtain ⟨x1, hbx1, hx1, F⟩ := ix_some F
                          refine CW.region ?_
                          refine LW.pure rfl rfl (RV.move rfl) ?_
                          refine LW.pure rfl rfl (RV.move rfl) ?_
                          refine LW.pure rfl rfl (RV.move rfl) ?_
                          obtain ⟨B1, e1, hh1⟩ := (H.tab 2 rfl).hd hx1
                          refine LW.pure rfl rfl (RV.indexAddr Ts36 rfl rfl hbx1 ((H.tab 2 rfl).addr_ hx1)) ?_
                          refine LW.pure rfl rfl (RV.load1 Tk39 rfl ((H.tab 2 rfl).cell hx1 hh1) rfl) ?_
                          refine LW.pure rfl rfl (RV.len Ts39 rfl) ?_
                          refine LW.pure rfl rfl (RV.lss rfl rfl) ?_
                          refine LW.nil (hK29 _ _ ?_)
                          by_cases hp7 : t26_1 < ((x1.length : Int))
                          ·
                            replace F := ite_y hp7 F
                            have hq7 := dec_t hp7
                            refine CW.condT rfl hq7 ?_
                            refine CW.skip (hK28 _ _ ?_)
                            refine CW.seq fun K30 hK30 => ?_
                            refine CW.block ?_
                            refine CW.seq fun K31 hK31 => ?_
                            obtain ⟨x2, hbx2, hx2, F⟩ := ix_some F
                            obtain ⟨x3, hbx3, hx3, F⟩ := ix_some F
                            refine CW.region ?_
                            refine LW.pure rfl rfl (RV.move rfl) ?_
                            refine LW.pure rfl rfl (RV.move rfl) ?_
                            obtain ⟨B2, e2, hh2⟩ := (H.tab 2 rfl).hd hx2
                            refine LW.pure rfl rfl (RV.indexAddr Ts36 rfl rfl hbx2 ((H.tab 2 rfl).addr_ hx2)) ?_
                            refine LW.pure rfl rfl (RV.load1 Tk39 rfl ((H.tab 2 rfl).cell hx2 hh2) rfl) ?_
                            refine LW.pure rfl rfl (RV.move rfl) ?_
                            refine LW.pure rfl rfl (RV.indexAddr Ts39 rfl rfl hbx3 (((H.tab 2 rfl).rowO hx2 hh2).sl.addr_ hx3)) ?_
                            refine LW.pure rfl rfl (RV.load1 Tk3 rfl (((H.tab 2 rfl).rowO hx2 hh2).sl.at_ hx3) rfl) ?_
                            refine LW.pure rfl rfl (RV.assign rfl) ?_
                            refine LW.nil (hK31 _ _ ?_)
                            refine CW.seqJ (fun ρ wl9 => (∃ (t217_1 : Bool), law01_LevelRaises_k3 t26_1 rec2 t217_1 = some res ∧ ρ = [(1, .slice A_a1 a1.length c_a1), (6, .bool false), (19, .slice A106_0 r2.1.length c106_0), (21, .slice A108_0 r3.1.length c108_0), (23, .slice A110_0 r4.1.length c110_0), (25, .int .i64 t25_1), (26, .int .i64 t26_1), (217, .bool t217_1)] ∧ Hp w wl9 [.own A106_0 c106_0 28 2 (List.map encRat r2.1), .own A108_0 c108_0 28 2 (List.map encRat r3.1), .tab A110_0 c110_0 39 hs110_0 3 1 (encM encN r4.1)])) ?_ ?_
                            ·
                              rintro _ wl9 ⟨t217_1, F, rfl, H⟩
                              have R0 := H.ext
                              unfold law01_LevelRaises_k3 at F
                              by_cases hp8 : t217_1 = true
                              ·
                                replace F := ite_y hp8 F
                                have hq8 : t217_1 = true := hp8
                                refine CW.condT rfl hq8 ?_
                                refine CW.seq fun K32 hK32 => ?_
                                refine CW.region ?_
                                refine LW.pure rfl rfl (RV.assign rfl) ?_
                                refine LW.nil (hK32 _ _ ?_)
                                refine CW.ret ?_
                                obtain rfl := Option.some.inj F
                                refine ⟨_, (ResOK.one rfl), ?_⟩
                                refine ⟨(by first | rfl | simp), R0⟩
                              ·
                                replace F := ite_n hp8 F
                                have hq8 : t217_1 = false := raw_f hp8
                                refine CW.condF rfl hq8 ?_
                                refine CW.skip (hK30 _ _ ?_)
                                obtain ⟨hg2, F⟩ := gd_some F
                                refine CW.region ?_
                                refine LW.pure rfl rfl (RV.move rfl) ?_
                                refine LW.pure rfl rfl (RV.add rfl rfl hg2) ?_
                                refine LW.pure rfl rfl (RV.assign rfl) ?_
                                refine LW.nil ?_
                                subst hrec2
                                refine ⟨mk2, Nat.lt_succ_self _, _, ?_, (t26_1 + 1), F, rfl, H⟩
                                exact ⟨rfl, rfl, (look_slice rfl (by first | rfl | (simp; done) | omega | (simp; omega))), (look_slice rfl (by first | rfl | (simp; done) | omega | (simp; omega))), (look_slice rfl (by first | rfl | (simp; done) | omega | (simp; omega))), rfl, rfl, trivial⟩
                            ·
                              intro K33 hK33 jK545
                              by_cases hp9 : x3 < 0
                              ·
                                replace F := ite_y hp9 F
                                have hq9 := dec_t hp9
                                refine CW.draw [] (fun _ => True) (.cons 0 1 (.cons 1 1 (.cons 2 1 (.cons 3 1 (.cons 4 1 (.cons 5 1 (.cons 6 1 (.cons 7 1 (.cons 8 1 (.cons 9 1 (.cons 10 1 (.cons 11 1 (.cons 12 1 (.cons 13 1 (.cons 14 1 (.cons 15 1 (.cons 16 1 (.cons 17 1 (.cons 18 1 (.cons 19 1 (.cons 20 1 (.cons 21 1 (.cons 22 1 (.cons 23 1 (.cons 24 1 (.cons 25 1 (.cons 26 1 (.cons 27 1 (.cons 28 1 (.cons 29 1 (.cons 30 1 (.cons 31 1 (.cons 32 1 (.cons 33 1 (.cons 34 1 (.cons 35 1 (.cons 36 1 (.cons 37 1 (.cons 38 1 (.cons 39 1 (.cons 40 1 (.cons 41 1 (.cons 42 1 (.cons 43 1 (.cons 44 1 (.cons 45 1 (.cons 46 1 (.cons 47 1 (.cons 48 1 (.cons 49 1 (.cons 50 1 (.cons 51 1 (.cons 52 0 (.cons 53 1 (.cons 54 1 .nil))))))))))))))))))))))))))))))))))))))))))))))))))))))) mixed (by kernel_rfl) fun w26 E12 => ?_
                                replace H := H.grow E12
                                replace R0 := H.ext
                                refine DW.fix rfl rfl rfl (fun _ EQ => RV.move rfl) ?_
                                refine DW.fix rfl rfl rfl (fun _ EQ => RV.lss rfl rfl) ?_
                                refine DW.fix rfl rfl rfl (fun _ EQ => RV.move rfl) ?_
                                refine DW.fixNB rfl rfl rfl rfl rfl (ne_beq (v := true) hq9 rfl) ?_
                                refine DW.fixNB rfl rfl rfl rfl rfl (ne_beq (v := true) hq9 rfl) ?_
                                refine DW.fixNB rfl rfl rfl rfl rfl (ne_beq (v := true) hq9 rfl) ?_
                                refine DW.fixNB rfl rfl rfl rfl rfl (ne_beq (v := true) hq9 rfl) ?_
                                refine DW.fix rfl rfl rfl (fun _ EQ => RV.pickTB rfl hq9 rfl) ?_
                                refine DW.fix rfl rfl rfl (fun _ EQ => RV.move rfl) ?_
                                refine DW.fixNB rfl rfl rfl rfl rfl (ne_beq (v := true) rfl rfl) ?_
                                refine DW.fixNB rfl rfl rfl rfl rfl (ne_beq (v := true) rfl rfl) ?_
                                refine DW.fixNB rfl rfl rfl rfl rfl (ne_beq (v := true) rfl rfl) ?_
                                refine DW.fixNB rfl rfl rfl rfl rfl (ne_beq (v := true) rfl rfl) ?_
                                refine DW.fixNB rfl rfl rfl rfl rfl (ne_beq (v := true) rfl rfl) ?_
                                refine DW.fixNB rfl rfl rfl rfl rfl (ne_beq (v := true) rfl rfl) ?_
                                refine DW.fix rfl rfl rfl (fun _ EQ => RV.pickTB rfl rfl rfl) ?_
                                refine DW.fix rfl rfl rfl (fun _ EQ => RV.move rfl) ?_
                                refine DW.fixNB rfl rfl rfl rfl rfl (ne_beq (v := true) rfl rfl) ?_
                                refine DW.fixNB rfl rfl rfl rfl rfl (ne_beq (v := true) rfl rfl) ?_
                                refine DW.fixNB rfl rfl rfl rfl rfl (ne_beq (v := true) rfl rfl) ?_
                                refine DW.fixNB rfl rfl rfl rfl rfl (ne_beq (v := true) rfl rfl) ?_
                                refine DW.fixNB rfl rfl rfl rfl rfl (ne_beq (v := true) rfl rfl) ?_
                                refine DW.fixNB rfl rfl rfl rfl rfl (ne_beq (v := true) rfl rfl) ?_
                                refine DW.fixNB rfl rfl rfl rfl rfl (ne_beq (v := true) rfl rfl) ?_
                                refine DW.fixNB rfl rfl rfl rfl rfl (ne_beq (v := true) rfl rfl) ?_
                                refine DW.fixNB rfl rfl rfl rfl rfl (ne_beq (v := true) rfl rfl) ?_
                                refine DW.fixNB rfl rfl rfl rfl rfl (ne_beq (v := true) rfl rfl) ?_
                                refine DW.fixNB rfl rfl rfl rfl rfl (ne_beq (v := true) rfl rfl) ?_
                                refine DW.fixNB rfl rfl rfl rfl rfl (ne_beq (v := true) rfl rfl) ?_
                                refine DW.fixNB rfl rfl rfl rfl rfl (ne_beq (v := true) rfl rfl) ?_
                                refine DW.fixNB rfl rfl rfl rfl rfl (ne_beq (v := true) rfl rfl) ?_
                                refine DW.fixNB rfl rfl rfl rfl rfl (ne_beq (v := true) rfl rfl) ?_
                                refine DW.fixNB rfl rfl rfl rfl rfl (ne_beq (v := true) rfl rfl) ?_
                                refine DW.fixNB rfl rfl rfl rfl rfl (ne_beq (v := true) rfl rfl) ?_
                                refine DW.fixNB rfl rfl rfl rfl rfl (ne_beq (v := true) rfl rfl) ?_
                                refine DW.fixNB rfl rfl rfl rfl rfl (ne_beq (v := true) rfl rfl) ?_
                                refine DW.fixNB rfl rfl rfl rfl rfl (ne_beq (v := true) rfl rfl) ?_
                                refine DW.fixNB rfl rfl rfl rfl rfl (ne_beq (v := true) rfl rfl) ?_
                                refine DW.fixNB rfl rfl rfl rfl rfl (ne_beq (v := true) rfl rfl) ?_
                                refine DW.fixNB rfl rfl rfl rfl rfl (ne_beq (v := true) rfl rfl) ?_
                                refine DW.fixNB rfl rfl rfl rfl rfl (ne_beq (v := true) rfl rfl) ?_
                                refine DW.fixNB rfl rfl rfl rfl rfl (ne_beq (v := true) rfl rfl) ?_
                                refine DW.fixNB rfl rfl rfl rfl rfl (ne_beq (v := true) rfl rfl) ?_
                                refine DW.fixNB rfl rfl rfl rfl rfl (ne_beq (v := true) rfl rfl) ?_
                                refine DW.fixNB rfl rfl rfl rfl rfl (ne_beq (v := true) rfl rfl) ?_
                                refine DW.fixNB rfl rfl rfl rfl rfl (ne_beq (v := true) rfl rfl) ?_
                                refine DW.fixNB rfl rfl rfl rfl rfl (ne_beq (v := true) rfl rfl) ?_
                                refine DW.fixNB rfl rfl rfl rfl rfl (ne_beq (v := true) rfl rfl) ?_
                                refine DW.fixNB rfl rfl rfl rfl rfl (ne_beq (v := true) rfl rfl) ?_
                                refine DW.fixNB rfl rfl rfl rfl rfl (ne_beq (v := true) rfl rfl) ?_
                                refine DW.fixNB rfl rfl rfl rfl rfl (ne_beq (v := true) rfl rfl) ?_
                                refine DW.fixNB rfl rfl rfl rfl rfl (ne_beq (v := true) rfl rfl) ?_
                                refine DW.soleNB rfl rfl rfl rfl rfl (ne_beq (v := true) rfl rfl) ?_
                                refine DW.fixNB rfl rfl rfl rfl rfl (ne_beq (v := true) rfl rfl) ?_
                                refine DW.fix rfl rfl rfl (fun _ EQ => RV.pickTB rfl rfl rfl) ?_
                                refine DW.nil (jK545 _ _ ⟨_, ?_, ⟨true, F, rfl, H⟩⟩)
                                exact ⟨rfl, rfl, (look_slice rfl (by first | rfl | (simp; done) | omega | (simp; omega))), (look_slice rfl (by first | rfl | (simp; done) | omega | (simp; omega))), (look_slice rfl (by first | rfl | (simp; done) | omega | (simp; omega))), rfl, rfl, rfl, trivial⟩
                              ·
                                replace F := ite_n hp9 F
                                have hq9 := dec_f hp9
                                by_cases hp10 : ((r2.1.length : Int)) ≤ x3
                                ·
                                  replace F := ite_y hp10 F
                                  have hq10 := dec_t hp10
                                  refine CW.draw [] (fun _ => True) (.cons 0 1 (.cons 1 1 (.cons 2 1 (.cons 3 1 (.cons 4 1 (.cons 5 1 (.cons 6 1 (.cons 7 1 (.cons 8 1 (.cons 9 1 (.cons 10 1 (.cons 11 1 (.cons 12 1 (.cons 13 1 (.cons 14 1 (.cons 15 1 (.cons 16 1 (.cons 17 1 (.cons 18 1 (.cons 19 1 (.cons 20 1 (.cons 21 1 (.cons 22 1 (.cons 23 1 (.cons 24 1 (.cons 25 1 (.cons 26 1 (.cons 27 1 (.cons 28 1 (.cons 29 1 (.cons 30 1 (.cons 31 1 (.cons 32 1 (.cons 33 1 (.cons 34 1 (.cons 35 1 (.cons 36 1 (.cons 37 1 (.cons 38 1 (.cons 39 1 (.cons 40 1 (.cons 41 1 (.cons 42 1 (.cons 43 1 (.cons 44 1 (.cons 45 1 (.cons 46 1 (.cons 47 1 (.cons 48 1 (.cons 49 1 (.cons 50 1 (.cons 51 1 (.cons 52 0 (.cons 53 1 (.cons 54 1 .nil))))))))))))))))))))))))))))))))))))))))))))))))))))))) mixed (by kernel_rfl) fun w27 E13 => ?_
                                  replace H := H.grow E13
                                  replace R0 := H.ext
                                  refine DW.fix rfl rfl rfl (fun _ EQ => RV.move rfl) ?_
                                  refine DW.fix rfl rfl rfl (fun _ EQ => RV.lss rfl rfl) ?_
                                  refine DW.fix rfl rfl rfl (fun _ EQ => RV.move rfl) ?_
                                  refine DW.fixYB rfl rfl rfl rfl rfl hq9 (fun _ EQ => RV.move rfl) ?_
                                  refine DW.fixYB rfl rfl rfl rfl rfl hq9 (fun _ EQ => RV.move rfl) ?_
                                  refine DW.fixYB rfl rfl rfl rfl rfl hq9 (fun _ EQ => RV.len Ts53 rfl) ?_
                                  refine DW.fixYB rfl rfl rfl rfl rfl hq9 (fun _ EQ => RV.geq rfl rfl) ?_
                                  refine DW.fix rfl rfl rfl (fun _ EQ => RV.pickFB rfl hq9 rfl) ?_
                                  refine DW.fix rfl rfl rfl (fun _ EQ => RV.move rfl) ?_
                                  refine DW.fixNB rfl rfl rfl rfl rfl (ne_beq (v := true) hq10 rfl) ?_
                                  refine DW.fixNB rfl rfl rfl rfl rfl (ne_beq (v := true) hq10 rfl) ?_
                                  refine DW.fixNB rfl rfl rfl rfl rfl (ne_beq (v := true) hq10 rfl) ?_
                                  refine DW.fixNB rfl rfl rfl rfl rfl (ne_beq (v := true) hq10 rfl) ?_
                                  refine DW.fixNB rfl rfl rfl rfl rfl (ne_beq (v := true) hq10 rfl) ?_
                                  refine DW.fixNB rfl rfl rfl rfl rfl (ne_beq (v := true) hq10 rfl) ?_
                                  refine DW.fix rfl rfl rfl (fun _ EQ => RV.pickTB rfl hq10 rfl) ?_
                                  refine DW.fix rfl rfl rfl (fun _ EQ => RV.move rfl) ?_
                                  refine DW.fixNB rfl rfl rfl rfl rfl (ne_beq (v := true) rfl rfl) ?_
                                  refine DW.fixNB rfl rfl rfl rfl rfl (ne_beq (v := true) rfl rfl) ?_
                                  refine DW.fixNB rfl rfl rfl rfl rfl (ne_beq (v := true) rfl rfl) ?_
                                  refine DW.fixNB rfl rfl rfl rfl rfl (ne_beq (v := true) rfl rfl) ?_
                                  refine DW.fixNB rfl rfl rfl rfl rfl (ne_beq (v := true) rfl rfl) ?_
                                  refine DW.fixNB rfl rfl rfl rfl rfl (ne_beq (v := true) rfl rfl) ?_
                                  refine DW.fixNB rfl rfl rfl rfl rfl (ne_beq (v := true) rfl rfl) ?_
                                  refine DW.fixNB rfl rfl rfl rfl rfl (ne_beq (v := true) rfl rfl) ?_
                                  refine DW.fixNB rfl rfl rfl rfl rfl (ne_beq (v := true) rfl rfl) ?_
                                  refine DW.fixNB rfl rfl rfl rfl rfl (ne_beq (v := true) rfl rfl) ?_
                                  refine DW.fixNB rfl rfl rfl rfl rfl (ne_beq (v := true) rfl rfl) ?_
                                  refine DW.fixNB rfl rfl rfl rfl rfl (ne_beq (v := true) rfl rfl) ?_
                                  refine DW.fixNB rfl rfl rfl rfl rfl (ne_beq (v := true) rfl rfl) ?_
                                  refine DW.fixNB rfl rfl rfl rfl rfl (ne_beq (v := true) rfl rfl) ?_
                                  refine DW.fixNB rfl rfl rfl rfl rfl (ne_beq (v := true) rfl rfl) ?_
                                  refine DW.fixNB rfl rfl rfl rfl rfl (ne_beq (v := true) rfl rfl) ?_
                                  refine DW.fixNB rfl rfl rfl rfl rfl (ne_beq (v := true) rfl rfl) ?_
                                  refine DW.fixNB rfl rfl rfl rfl rfl (ne_beq (v := true) rfl rfl) ?_
                                  refine DW.fixNB rfl rfl rfl rfl rfl (ne_beq (v := true) rfl rfl) ?_
                                  refine DW.fixNB rfl rfl rfl rfl rfl (ne_beq (v := true) rfl rfl) ?_
                                  refine DW.fixNB rfl rfl rfl rfl rfl (ne_beq (v := true) rfl rfl) ?_
                                  refine DW.fixNB rfl rfl rfl rfl rfl (ne_beq (v := true) rfl rfl) ?_
                                  refine DW.fixNB rfl rfl rfl rfl rfl (ne_beq (v := true) rfl rfl) ?_
                                  refine DW.fixNB rfl rfl rfl rfl rfl (ne_beq (v := true) rfl rfl) ?_
                                  refine DW.fixNB rfl rfl rfl rfl rfl (ne_beq (v := true) rfl rfl) ?_
                                  refine DW.fixNB rfl rfl rfl rfl rfl (ne_beq (v := true) rfl rfl) ?_
                                  refine DW.fixNB rfl rfl rfl rfl rfl (ne_beq (v := true) rfl rfl) ?_
                                  refine DW.fixNB rfl rfl rfl rfl rfl (ne_beq (v := true) rfl rfl) ?_
                                  refine DW.fixNB rfl rfl rfl rfl rfl (ne_beq (v := true) rfl rfl) ?_
                                  refine DW.fixNB rfl rfl rfl rfl rfl (ne_beq (v := true) rfl rfl) ?_
                                  refine DW.fixNB rfl rfl rfl rfl rfl (ne_beq (v := true) rfl rfl) ?_
                                  refine DW.fixNB rfl rfl rfl rfl rfl (ne_beq (v := true) rfl rfl) ?_
                                  refine DW.fixNB rfl rfl rfl rfl rfl (ne_beq (v := true) rfl rfl) ?_
                                  refine DW.fixNB rfl rfl rfl rfl rfl (ne_beq (v := true) rfl rfl) ?_
                                  refine DW.fixNB rfl rfl rfl rfl rfl (ne_beq (v := true) rfl rfl) ?_
                                  refine DW.soleNB rfl rfl rfl rfl rfl (ne_beq (v := true) rfl rfl) ?_
                                  refine DW.fixNB rfl rfl rfl rfl rfl (ne_beq (v := true) rfl rfl) ?_
                                  refine DW.fix rfl rfl rfl (fun _ EQ => RV.pickTB rfl rfl rfl) ?_
                                  refine DW.nil (jK545 _ _ ⟨_, ?_, ⟨true, F, rfl, H⟩⟩)
                                  exact ⟨rfl, rfl, (look_slice rfl (by first | rfl | (simp; done) | omega | (simp; omega))), (look_slice rfl (by first | rfl | (simp; done) | omega | (simp; omega))), (look_slice rfl (by first | rfl | (simp; done) | omega | (simp; omega))), rfl, rfl, rfl, trivial⟩
                                ·
                                  replace F := ite_n hp10 F
                                  have hq10 := dec_f hp10
                                  obtain ⟨x4, hbx4, hx4, F⟩ := ix_some F
                                  by_cases hp11 : x4.den < 1
                                  ·
                                    replace F := ite_y hp11 F
                                    have hq11 := dec_t hp11
                                    refine CW.draw [] (fun _ => True) (.cons 0 1 (.cons 1 1 (.cons 2 1 (.cons 3 1 (.cons 4 1 (.cons 5 1 (.cons 6 1 (.cons 7 1 (.cons 8 1 (.cons 9 1 (.cons 10 1 (.cons 11 1 (.cons 12 1 (.cons 13 1 (.cons 14 1 (.cons 15 1 (.cons 16 1 (.cons 17 1 (.cons 18 1 (.cons 19 1 (.cons 20 1 (.cons 21 1 (.cons 22 1 (.cons 23 1 (.cons 24 1 (.cons 25 1 (.cons 26 1 (.cons 27 1 (.cons 28 1 (.cons 29 1 (.cons 30 1 (.cons 31 1 (.cons 32 1 (.cons 33 1 (.cons 34 1 (.cons 35 1 (.cons 36 1 (.cons 37 1 (.cons 38 1 (.cons 39 1 (.cons 40 1 (.cons 41 1 (.cons 42 1 (.cons 43 1 (.cons 44 1 (.cons 45 1 (.cons 46 1 (.cons 47 1 (.cons 48 1 (.cons 49 1 (.cons 50 1 (.cons 51 1 (.cons 52 0 (.cons 53 1 (.cons 54 1 .nil))))))))))))))))))))))))))))))))))))))))))))))))))))))) mixed (by kernel_rfl) fun w28 E14 => ?_
                                    replace H := H.grow E14
                                    replace R0 := H.ext
                                    refine DW.fix rfl rfl rfl (fun _ EQ => RV.move rfl) ?_
                                    refine DW.fix rfl rfl rfl (fun _ EQ => RV.lss rfl rfl) ?_
                                    refine DW.fix rfl rfl rfl (fun _ EQ => RV.move rfl) ?_
                                    refine DW.fixYB rfl rfl rfl rfl rfl hq9 (fun _ EQ => RV.move rfl) ?_
                                    refine DW.fixYB rfl rfl rfl rfl rfl hq9 (fun _ EQ => RV.move rfl) ?_
                                    refine DW.fixYB rfl rfl rfl rfl rfl hq9 (fun _ EQ => RV.len Ts53 rfl) ?_
                                    refine DW.fixYB rfl rfl rfl rfl rfl hq9 (fun _ EQ => RV.geq rfl rfl) ?_
                                    refine DW.fix rfl rfl rfl (fun _ EQ => RV.pickFB rfl hq9 rfl) ?_
                                    refine DW.fix rfl rfl rfl (fun _ EQ => RV.move rfl) ?_
                                    refine DW.fixYB rfl rfl rfl rfl rfl hq10 (fun _ EQ => RV.move rfl) ?_
                                    refine DW.fixYB rfl rfl rfl rfl rfl hq10 (fun _ EQ => RV.move rfl) ?_
                                    refine DW.fixYB rfl rfl rfl rfl rfl hq10 (fun _ EQ => RV.indexAddr Ts53 rfl rfl hbx4 ((H.own 0 rfl).sl.addr_ hx4)) ?_
                                    refine DW.fixYB rfl rfl rfl rfl rfl hq10 (fun _ EQ => RV.fieldAddr Tf28_1 rfl) ?_
                                    refine DW.fixYB rfl rfl rfl rfl rfl hq10 (fun _ EQ => RV.load1 Tk3 rfl ((((H.grow EQ).own 0 rfl).sl.at_ hx4).off 1) rfl) ?_
                                    refine DW.fixYB rfl rfl rfl rfl rfl hq10 (fun _ EQ => RV.lss rfl rfl) ?_
                                    refine DW.fix rfl rfl rfl (fun _ EQ => RV.pickFB rfl hq10 rfl) ?_
                                    refine DW.fix rfl rfl rfl (fun _ EQ => RV.move rfl) ?_
                                    refine DW.fixNB rfl rfl rfl rfl rfl (ne_beq (v := true) hq11 rfl) ?_
                                    refine DW.fixNB rfl rfl rfl rfl rfl (ne_beq (v := true) hq11 rfl) ?_
                                    refine DW.fixNB rfl rfl rfl rfl rfl (ne_beq (v := true) hq11 rfl) ?_
                                    refine DW.fixNB rfl rfl rfl rfl rfl (ne_beq (v := true) hq11 rfl) ?_
                                    refine DW.fixNB rfl rfl rfl rfl rfl (ne_beq (v := true) hq11 rfl) ?_
                                    refine DW.fixNB rfl rfl rfl rfl rfl (ne_beq (v := true) hq11 rfl) ?_
                                    refine DW.fixNB rfl rfl rfl rfl rfl (ne_beq (v := true) hq11 rfl) ?_
                                    refine DW.fixNB rfl rfl rfl rfl rfl (ne_beq (v := true) hq11 rfl) ?_
                                    refine DW.fixNB rfl rfl rfl rfl rfl (ne_beq (v := true) hq11 rfl) ?_
                                    refine DW.fixNB rfl rfl rfl rfl rfl (ne_beq (v := true) hq11 rfl) ?_
                                    refine DW.fixNB rfl rfl rfl rfl rfl (ne_beq (v := true) hq11 rfl) ?_
                                    refine DW.fixNB rfl rfl rfl rfl rfl (ne_beq (v := true) hq11 rfl) ?_
                                    refine DW.fixNB rfl rfl rfl rfl rfl (ne_beq (v := true) hq11 rfl) ?_
                                    refine DW.fixNB rfl rfl rfl rfl rfl (ne_beq (v := true) hq11 rfl) ?_
                                    refine DW.fixNB rfl rfl rfl rfl rfl (ne_beq (v := true) hq11 rfl) ?_
                                    refine DW.fixNB rfl rfl rfl rfl rfl (ne_beq (v := true) hq11 rfl) ?_
                                    refine DW.fixNB rfl rfl rfl rfl rfl (ne_beq (v := true) hq11 rfl) ?_
                                    refine DW.fixNB rfl rfl rfl rfl rfl (ne_beq (v := true) hq11 rfl) ?_
                                    refine DW.fixNB rfl rfl rfl rfl rfl (ne_beq (v := true) hq11 rfl) ?_
                                    refine DW.fixNB rfl rfl rfl rfl rfl (ne_beq (v := true) hq11 rfl) ?_
                                    refine DW.fixNB rfl rfl rfl rfl rfl (ne_beq (v := true) hq11 rfl) ?_
                                    refine DW.fixNB rfl rfl rfl rfl rfl (ne_beq (v := true) hq11 rfl) ?_
                                    refine DW.fixNB rfl rfl rfl rfl rfl (ne_beq (v := true) hq11 rfl) ?_
                                    refine DW.fixNB rfl rfl rfl rfl rfl (ne_beq (v := true) hq11 rfl) ?_
                                    refine DW.fixNB rfl rfl rfl rfl rfl (ne_beq (v := true) hq11 rfl) ?_
                                    refine DW.fixNB rfl rfl rfl rfl rfl (ne_beq (v := true) hq11 rfl) ?_
                                    refine DW.fixNB rfl rfl rfl rfl rfl (ne_beq (v := true) hq11 rfl) ?_
                                    refine DW.fixNB rfl rfl rfl rfl rfl (ne_beq (v := true) hq11 rfl) ?_
                                    refine DW.fixNB rfl rfl rfl rfl rfl (ne_beq (v := true) hq11 rfl) ?_
                                    refine DW.fixNB rfl rfl rfl rfl rfl (ne_beq (v := true) hq11 rfl) ?_
                                    refine DW.fixNB rfl rfl rfl rfl rfl (ne_beq (v := true) hq11 rfl) ?_
                                    refine DW.fixNB rfl rfl rfl rfl rfl (ne_beq (v := true) hq11 rfl) ?_
                                    refine DW.fixNB rfl rfl rfl rfl rfl (ne_beq (v := true) hq11 rfl) ?_
                                    refine DW.fixNB rfl rfl rfl rfl rfl (ne_beq (v := true) hq11 rfl) ?_
                                    refine DW.fixNB rfl rfl rfl rfl rfl (ne_beq (v := true) hq11 rfl) ?_
                                    refine DW.soleNB rfl rfl rfl rfl rfl (ne_beq (v := true) hq11 rfl) ?_
                                    refine DW.fixNB rfl rfl rfl rfl rfl (ne_beq (v := true) hq11 rfl) ?_
                                    refine DW.fix rfl rfl rfl (fun _ EQ => RV.pickTB rfl hq11 rfl) ?_
                                    refine DW.nil (jK545 _ _ ⟨_, ?_, ⟨true, F, rfl, H⟩⟩)
                                    exact ⟨rfl, rfl, (look_slice rfl (by first | rfl | (simp; done) | omega | (simp; omega))), (look_slice rfl (by first | rfl | (simp; done) | omega | (simp; omega))), (look_slice rfl (by first | rfl | (simp; done) | omega | (simp; omega))), rfl, rfl, rfl, trivial⟩
                                  ·
                                    replace F := ite_n hp11 F
                                    have hq11 := dec_f hp11
                                    obtain ⟨x5, hbx5, hx5, F⟩ := ix_some F
                                    obtain ⟨x6, hbx6, hx6, F⟩ := ix_some F
                                    obtain ⟨x7, hbx7, hx7, F⟩ := ix_some F
                                    obtain ⟨x8, hbx8, hx8, F⟩ := ix_some F
                                    obtain ⟨x9, hbx9, hx9, F⟩ := ix_some F
                                    obtain ⟨x10, hbx10, hx10, F⟩ := ix_some F
                                    obtain ⟨hg3, F⟩ := gd_some F
                                    obtain ⟨x11, hbx11, hx11, F⟩ := ix_some F
                                    obtain ⟨hg4, F⟩ := gd_some F
                                    obtain ⟨hg5, F⟩ := gd_some F
                                    obtain ⟨x12, hbx12, hx12, F⟩ := ix_some F
                                    obtain ⟨r5, hr5, F⟩ := bnd_some F
                                    refine CW.draw [] (fun _ => True) (.cons 0 1 (.cons 1 1 (.cons 2 1 (.cons 3 1 (.cons 4 1 (.cons 5 1 (.cons 6 1 (.cons 7 1 (.cons 8 1 (.cons 9 1 (.cons 10 1 (.cons 11 1 (.cons 12 1 (.cons 13 1 (.cons 14 1 (.cons 15 1 (.cons 16 1 (.cons 17 1 (.cons 18 1 (.cons 19 1 (.cons 20 1 (.cons 21 1 (.cons 22 1 (.cons 23 1 (.cons 24 1 (.cons 25 1 (.cons 26 1 (.cons 27 1 (.cons 28 1 (.cons 29 1 (.cons 30 1 (.cons 31 1 (.cons 32 1 (.cons 33 1 (.cons 34 1 (.cons 35 1 (.cons 36 1 (.cons 37 1 (.cons 38 1 (.cons 39 1 (.cons 40 1 (.cons 41 1 (.cons 42 1 (.cons 43 1 (.cons 44 1 (.cons 45 1 (.cons 46 1 (.cons 47 1 (.cons 48 1 (.cons 49 1 (.cons 50 1 (.cons 51 1 (.cons 52 0 (.cons 53 1 (.cons 54 1 .nil))))))))))))))))))))))))))))))))))))))))))))))))))))))) mixed (by kernel_rfl) fun w29 E15 => ?_
                                    replace H := H.grow E15
                                    replace R0 := H.ext
                                    refine DW.fix rfl rfl rfl (fun _ EQ => RV.move rfl) ?_
                                    refine DW.fix rfl rfl rfl (fun _ EQ => RV.lss rfl rfl) ?_
                                    refine DW.fix rfl rfl rfl (fun _ EQ => RV.move rfl) ?_
                                    refine DW.fixYB rfl rfl rfl rfl rfl hq9 (fun _ EQ => RV.move rfl) ?_
                                    refine DW.fixYB rfl rfl rfl rfl rfl hq9 (fun _ EQ => RV.move rfl) ?_
                                    refine DW.fixYB rfl rfl rfl rfl rfl hq9 (fun _ EQ => RV.len Ts53 rfl) ?_
                                    refine DW.fixYB rfl rfl rfl rfl rfl hq9 (fun _ EQ => RV.geq rfl rfl) ?_
                                    refine DW.fix rfl rfl rfl (fun _ EQ => RV.pickFB rfl hq9 rfl) ?_
                                    refine DW.fix rfl rfl rfl (fun _ EQ => RV.move rfl) ?_
                                    refine DW.fixYB rfl rfl rfl rfl rfl hq10 (fun _ EQ => RV.move rfl) ?_
                                    refine DW.fixYB rfl rfl rfl rfl rfl hq10 (fun _ EQ => RV.move rfl) ?_
                                    refine DW.fixYB rfl rfl rfl rfl rfl hq10 (fun _ EQ => RV.indexAddr Ts53 rfl rfl hbx4 ((H.own 0 rfl).sl.addr_ hx4)) ?_
                                    refine DW.fixYB rfl rfl rfl rfl rfl hq10 (fun _ EQ => RV.fieldAddr Tf28_1 rfl) ?_
                                    refine DW.fixYB rfl rfl rfl rfl rfl hq10 (fun _ EQ => RV.load1 Tk3 rfl ((((H.grow EQ).own 0 rfl).sl.at_ hx4).off 1) rfl) ?_
                                    refine DW.fixYB rfl rfl rfl rfl rfl hq10 (fun _ EQ => RV.lss rfl rfl) ?_
                                    refine DW.fix rfl rfl rfl (fun _ EQ => RV.pickFB rfl hq10 rfl) ?_
                                    refine DW.fix rfl rfl rfl (fun _ EQ => RV.move rfl) ?_
                                    refine DW.fixYB rfl rfl rfl rfl rfl hq11 (fun _ EQ => RV.move rfl) ?_
                                    refine DW.fixYB rfl rfl rfl rfl rfl hq11 (fun _ EQ => RV.move rfl) ?_
                                    refine DW.fixYB rfl rfl rfl rfl rfl hq11 (fun _ EQ => RV.indexAddr Ts53 rfl rfl hbx5 ((H.own 1 rfl).sl.addr_ hx5)) ?_
                                    refine DW.fixYB rfl rfl rfl rfl rfl hq11 (fun _ EQ => RV.loadA [.int .i64 x5.num, .int .i64 x5.den] Tk28 rfl (((H.grow EQ).own 1 rfl).sl.at_ hx5) rfl rfl) ?_
                                    refine DW.fixYB rfl rfl rfl rfl rfl hq11 (fun _ EQ => RV.move rfl) ?_
                                    refine DW.fixYB rfl rfl rfl rfl rfl hq11 (fun _ EQ => RV.move rfl) ?_
                                    refine DW.fixYB rfl rfl rfl rfl rfl hq11 (fun _ EQ => RV.indexAddr Ts53 rfl rfl hbx6 ((H.own 0 rfl).sl.addr_ hx6)) ?_
                                    refine DW.fixYB rfl rfl rfl rfl rfl hq11 (fun _ EQ => RV.fieldAddr Tf28_0 rfl) ?_
                                    refine DW.fixYB rfl rfl rfl rfl rfl hq11 (fun _ EQ => RV.load1 Tk3 rfl ((((H.grow EQ).own 0 rfl).sl.at_ hx6).off 0) rfl) ?_
                                    refine DW.fixYB rfl rfl rfl rfl rfl hq11 (fun _ EQ => RV.move rfl) ?_
                                    refine DW.fixYB rfl rfl rfl rfl rfl hq11 (fun _ EQ => RV.move rfl) ?_
                                    refine DW.fixYB rfl rfl rfl rfl rfl hq11 (fun _ EQ => RV.indexAddr Ts39 rfl rfl hbx7 (h_a1.addr_ hx7)) ?_
                                    refine DW.fixYB rfl rfl rfl rfl rfl hq11 (fun _ EQ => RV.load1 Tk3 rfl ((h_a1.at_ hx7).ext (R0.trans EQ)) rfl) ?_
                                    refine DW.fixYB rfl rfl rfl rfl rfl hq11 (fun _ EQ => RV.move rfl) ?_
                                    refine DW.fixYB rfl rfl rfl rfl rfl hq11 (fun _ EQ => RV.move rfl) ?_
                                    refine DW.fixYB rfl rfl rfl rfl rfl hq11 (fun _ EQ => RV.move rfl) ?_
                                    obtain ⟨B3, e3, hh3⟩ := (H.tab 2 rfl).hd hx8
                                    refine DW.fixYB rfl rfl rfl rfl rfl hq11 (fun _ EQ => RV.indexAddr Ts36 rfl rfl hbx8 ((H.tab 2 rfl).addr_ hx8)) ?_
                                    refine DW.fixYB rfl rfl rfl rfl rfl hq11 (fun _ EQ => RV.load1 Tk39 rfl (((H.grow EQ).tab 2 rfl).cell hx8 hh3) rfl) ?_
                                    refine DW.fixYB rfl rfl rfl rfl rfl hq11 (fun _ EQ => RV.indexAddr Ts39 rfl rfl hbx9 (((H.tab 2 rfl).rowO hx8 hh3).sl.addr_ hx9)) ?_
                                    refine DW.fixYB rfl rfl rfl rfl rfl hq11 (fun _ EQ => RV.load1 Tk3 rfl ((((H.grow EQ).tab 2 rfl).rowO hx8 hh3).sl.at_ hx9) rfl) ?_
                                    refine DW.fixYB rfl rfl rfl rfl rfl hq11 (fun _ EQ => RV.indexAddr Ts39 rfl rfl hbx10 (h_a1.addr_ hx10)) ?_
                                    refine DW.fixYB rfl rfl rfl rfl rfl hq11 (fun _ EQ => RV.load1 Tk3 rfl ((h_a1.at_ hx10).ext (R0.trans EQ)) rfl) ?_
                                    refine DW.fixYB rfl rfl rfl rfl rfl hq11 (fun _ EQ => RV.sub rfl rfl hg3) ?_
                                    refine DW.fixYB rfl rfl rfl rfl rfl hq11 (fun _ EQ => RV.move rfl) ?_
                                    refine DW.fixYB rfl rfl rfl rfl rfl hq11 (fun _ EQ => RV.move rfl) ?_
                                    refine DW.fixYB rfl rfl rfl rfl rfl hq11 (fun _ EQ => RV.indexAddr Ts53 rfl rfl hbx11 ((H.own 0 rfl).sl.addr_ hx11)) ?_
                                    refine DW.fixYB rfl rfl rfl rfl rfl hq11 (fun _ EQ => RV.fieldAddr Tf28_1 rfl) ?_
                                    refine DW.fixYB rfl rfl rfl rfl rfl hq11 (fun _ EQ => RV.load1 Tk3 rfl ((((H.grow EQ).own 0 rfl).sl.at_ hx11).off 1) rfl) ?_
                                    refine DW.fixYB rfl rfl rfl rfl rfl hq11 (fun _ EQ => RV.mul rfl rfl hg4) ?_
                                    refine DW.fixYB rfl rfl rfl rfl rfl hq11 (fun _ EQ => RV.add rfl rfl hg5) ?_
                                    refine DW.fixYB rfl rfl rfl rfl rfl hq11 (fun _ EQ => RV.move rfl) ?_
                                    refine DW.fixYB rfl rfl rfl rfl rfl hq11 (fun _ EQ => RV.move rfl) ?_
                                    refine DW.fixYB rfl rfl rfl rfl rfl hq11 (fun _ EQ => RV.indexAddr Ts53 rfl rfl hbx12 ((H.own 0 rfl).sl.addr_ hx12)) ?_
                                    refine DW.fixYB rfl rfl rfl rfl rfl hq11 (fun _ EQ => RV.fieldAddr Tf28_1 rfl) ?_
                                    refine DW.fixYB rfl rfl rfl rfl rfl hq11 (fun _ EQ => RV.load1 Tk3 rfl ((((H.grow EQ).own 0 rfl).sl.at_ hx12).off 1) rfl) ?_
                                    refine DW.soleYB rfl rfl rfl rfl rfl hq11 (OW.call Tc33 rfl (ref01_Ratio_ok (a0 := x6.num + ((x7 - x10) * x11.den)) (a1 := x12.den) hr5) ?_)
                                    rintro _ w30 ⟨rfl, E16⟩
                                    refine ⟨_, rfl, fun _ => E16, ModX.ext E16, ?_⟩
                                    replace H := H.grow E16
                                    replace R0 := H.ext
                                    refine DW.fixYB rfl rfl rfl rfl rfl hq11 (fun _ EQ => RV.neA Te28g (Te28 _ _ _ _ ) rfl rfl) ?_
                                    refine DW.fix rfl rfl rfl (fun _ EQ => RV.pickFB rfl hq11 rfl) ?_
                                    refine DW.nil (jK545 _ _ ⟨_, ?_, ⟨(!((x5.num == r5.num) && (x5.den == r5.den))), F, rfl, H⟩⟩)
                                    exact ⟨rfl, rfl, (look_slice rfl (by first | rfl | (simp; done) | omega | (simp; omega))), (look_slice rfl (by first | rfl | (simp; done) | omega | (simp; omega))), (look_slice rfl (by first | rfl | (simp; done) | omega | (simp; omega))), rfl, rfl, rfl, trivial⟩
                          ·
                            replace F := ite_n hp7 F
                            have hq7 := dec_f hp7
                            refine CW.condF rfl hq7 ?_
                            refine CW.exit (jK526 _ _ ⟨_, ?_, ⟨F, rfl, H⟩⟩)
                            exact ⟨rfl, rfl, (look_slice rfl (by first | rfl | (simp; done) | omega | (simp; omega))), (look_slice rfl (by first | rfl | (simp; done) | omega | (simp; omega))), (look_slice rfl (by first | rfl | (simp; done) | omega | (simp; omega))), rfl, trivial⟩
                      ·
                        replace F := ite_n hp6 F
                        have hq6 := dec_f hp6
                        refine CW.condF rfl hq6 ?_
                        replace H := H.pick (L' := []) [] (by decide) rfl
                        replace R0 := H.ext
                        refine CW.exit (jK421 _ _ ⟨_, ?_, ⟨F, rfl, H⟩⟩)
                        exact ⟨rfl, trivial⟩
                ·
                  intro K34 hK34 jK546
                  by_cases hp12 : r2.2 = 0
                  ·
                    replace F := ite_y hp12 F
                    have hq12 := dec_t hp12
                    by_cases hp13 : r3.2 = 0
                    ·
                      replace F := ite_y hp13 F
                      have hq13 := dec_t hp13
                      by_cases hp14 : r4.2 = 0
                      ·
                        replace F := ite_y hp14 F
                        have hq14 := dec_t hp14
                        refine CW.region ?_
                        refine LW.pure rfl rfl (RV.move rfl) ?_
                        refine LW.pure rfl rfl (RV.nei rfl rfl) ?_
                        refine LW.pure rfl rfl (RV.move rfl) ?_
                        refine LW.pureYB rfl rfl rfl rfl (not_f hq12) (RV.move rfl) ?_
                        refine LW.pureYB rfl rfl rfl rfl (not_f hq12) (RV.nei rfl rfl) ?_
                        refine LW.pure rfl rfl (RV.pickFB rfl (not_f hq12) rfl) ?_
                        refine LW.pure rfl rfl (RV.move rfl) ?_
                        refine LW.pureYB rfl rfl rfl rfl (not_f hq13) (RV.move rfl) ?_
                        refine LW.pureYB rfl rfl rfl rfl (not_f hq13) (RV.nei rfl rfl) ?_
                        refine LW.pure rfl rfl (RV.pickFB rfl (not_f hq13) rfl) ?_
                        refine LW.pure rfl rfl (RV.move rfl) ?_
                        refine LW.pureYB rfl rfl rfl rfl (not_f hq14) (RV.move rfl) ?_
                        refine LW.pureYB rfl rfl rfl rfl (not_f hq14) (RV.len Ts53 rfl) ?_
                        refine LW.pureYB rfl rfl rfl rfl (not_f hq14) (RV.move rfl) ?_
                        refine LW.pureYB rfl rfl rfl rfl (not_f hq14) (RV.len Ts53 rfl) ?_
                        refine LW.pureYB rfl rfl rfl rfl (not_f hq14) (RV.nei rfl rfl) ?_
                        refine LW.pure rfl rfl (RV.pickFB rfl (not_f hq14) rfl) ?_
                        replace H := H.pick (L' := [.own A106_0 c106_0 28 2 (List.map encRat r2.1), .own A108_0 c108_0 28 2 (List.map encRat r3.1), .tab A110_0 c110_0 39 hs110_0 3 1 (encM encN r4.1)]) [2, 1, 0] (by decide) rfl
                        replace R0 := H.ext
                        refine LW.nil (jK546 _ _ ⟨_, ?_, ⟨(!(decide (((r2.1.length : Int)) = ((r3.1.length : Int))))), F, rfl, H⟩⟩)
                        exact ⟨rfl, rfl, (look_slice rfl (by first | rfl | (simp; done) | omega | (simp; omega))), (look_slice rfl (by first | rfl | (simp; done) | omega | (simp; omega))), (look_slice rfl (by first | rfl | (simp; done) | omega | (simp; omega))), rfl, trivial⟩
                      ·
                        replace F := ite_n hp14 F
                        have hq14 := dec_f hp14
                        refine CW.region ?_
                        refine LW.pure rfl rfl (RV.move rfl) ?_
                        refine LW.pure rfl rfl (RV.nei rfl rfl) ?_
                        refine LW.pure rfl rfl (RV.move rfl) ?_
                        refine LW.pureYB rfl rfl rfl rfl (not_f hq12) (RV.move rfl) ?_
                        refine LW.pureYB rfl rfl rfl rfl (not_f hq12) (RV.nei rfl rfl) ?_
                        refine LW.pure rfl rfl (RV.pickFB rfl (not_f hq12) rfl) ?_
                        refine LW.pure rfl rfl (RV.move rfl) ?_
                        refine LW.pureYB rfl rfl rfl rfl (not_f hq13) (RV.move rfl) ?_
                        refine LW.pureYB rfl rfl rfl rfl (not_f hq13) (RV.nei rfl rfl) ?_
                        refine LW.pure rfl rfl (RV.pickFB rfl (not_f hq13) rfl) ?_
                        refine LW.pure rfl rfl (RV.move rfl) ?_
                        refine LW.noB rfl rfl rfl rfl (ne_beq (v := true) (not_t hq14) rfl) ?_
                        refine LW.noB rfl rfl rfl rfl (ne_beq (v := true) (not_t hq14) rfl) ?_
                        refine LW.noB rfl rfl rfl rfl (ne_beq (v := true) (not_t hq14) rfl) ?_
                        refine LW.noB rfl rfl rfl rfl (ne_beq (v := true) (not_t hq14) rfl) ?_
                        refine LW.noB rfl rfl rfl rfl (ne_beq (v := true) (not_t hq14) rfl) ?_
                        refine LW.pure rfl rfl (RV.pickTB rfl (not_t hq14) rfl) ?_
                        replace H := H.pick (L' := [.own A106_0 c106_0 28 2 (List.map encRat r2.1), .own A108_0 c108_0 28 2 (List.map encRat r3.1), .tab A110_0 c110_0 39 hs110_0 3 1 (encM encN r4.1)]) [2, 1, 0] (by decide) rfl
                        replace R0 := H.ext
                        refine LW.nil (jK546 _ _ ⟨_, ?_, ⟨true, F, rfl, H⟩⟩)
                        exact ⟨rfl, rfl, (look_slice rfl (by first | rfl | (simp; done) | omega | (simp; omega))), (look_slice rfl (by first | rfl | (simp; done) | omega | (simp; omega))), (look_slice rfl (by first | rfl | (simp; done) | omega | (simp; omega))), rfl, trivial⟩
                    ·
                      replace F := ite_n hp13 F
                      have hq13 := dec_f hp13
                      refine CW.region ?_
                      refine LW.pure rfl rfl (RV.move rfl) ?_
                      refine LW.pure rfl rfl (RV.nei rfl rfl) ?_
                      refine LW.pure rfl rfl (RV.move rfl) ?_
                      refine LW.pureYB rfl rfl rfl rfl (not_f hq12) (RV.move rfl) ?_
                      refine LW.pureYB rfl rfl rfl rfl (not_f hq12) (RV.nei rfl rfl) ?_
                      refine LW.pure rfl rfl (RV.pickFB rfl (not_f hq12) rfl) ?_
                      refine LW.pure rfl rfl (RV.move rfl) ?_
                      refine LW.noB rfl rfl rfl rfl (ne_beq (v := true) (not_t hq13) rfl) ?_
                      refine LW.noB rfl rfl rfl rfl (ne_beq (v := true) (not_t hq13) rfl) ?_
                      refine LW.pure rfl rfl (RV.pickTB rfl (not_t hq13) rfl) ?_
                      refine LW.pure rfl rfl (RV.move rfl) ?_
                      refine LW.noB rfl rfl rfl rfl (ne_beq (v := true) rfl rfl) ?_
                      refine LW.noB rfl rfl rfl rfl (ne_beq (v := true) rfl rfl) ?_
                      refine LW.noB rfl rfl rfl rfl (ne_beq (v := true) rfl rfl) ?_
                      refine LW.noB rfl rfl rfl rfl (ne_beq (v := true) rfl rfl) ?_
                      refine LW.noB rfl rfl rfl rfl (ne_beq (v := true) rfl rfl) ?_
                      refine LW.pure rfl rfl (RV.pickTB rfl rfl rfl) ?_
                      replace H := H.pick (L' := [.own A106_0 c106_0 28 2 (List.map encRat r2.1), .own A108_0 c108_0 28 2 (List.map encRat r3.1), .tab A110_0 c110_0 39 hs110_0 3 1 (encM encN r4.1)]) [2, 1, 0] (by decide) rfl
                      replace R0 := H.ext
                      refine LW.nil (jK546 _ _ ⟨_, ?_, ⟨true, F, rfl, H⟩⟩)
                      exact ⟨rfl, rfl, (look_slice rfl (by first | rfl | (simp; done) | omega | (simp; omega))), (look_slice rfl (by first | rfl | (simp; done) | omega | (simp; omega))), (look_slice rfl (by first | rfl | (simp; done) | omega | (simp; omega))), rfl, trivial⟩
                  ·
                    replace F := ite_n hp12 F
                    have hq12 := dec_f hp12
                    refine CW.region ?_
                    refine LW.pure rfl rfl (RV.move rfl) ?_
                    refine LW.pure rfl rfl (RV.nei rfl rfl) ?_
                    refine LW.pure rfl rfl (RV.move rfl) ?_
                    refine LW.noB rfl rfl rfl rfl (ne_beq (v := true) (not_t hq12) rfl) ?_
                    refine LW.noB rfl rfl rfl rfl (ne_beq (v := true) (not_t hq12) rfl) ?_
                    refine LW.pure rfl rfl (RV.pickTB rfl (not_t hq12) rfl) ?_
                    refine LW.pure rfl rfl (RV.move rfl) ?_
                    refine LW.noB rfl rfl rfl rfl (ne_beq (v := true) rfl rfl) ?_
                    refine LW.noB rfl rfl rfl rfl (ne_beq (v := true) rfl rfl) ?_
                    refine LW.pure rfl rfl (RV.pickTB rfl rfl rfl) ?_
                    refine LW.pure rfl rfl (RV.move rfl) ?_
                    refine LW.noB rfl rfl rfl rfl (ne_beq (v := true) rfl rfl) ?_
                    refine LW.noB rfl rfl rfl rfl (ne_beq (v := true) rfl rfl) ?_
                    refine LW.noB rfl rfl rfl rfl (ne_beq (v := true) rfl rfl) ?_
                    refine LW.noB rfl rfl rfl rfl (ne_beq (v := true) rfl rfl) ?_
                    refine LW.noB rfl rfl rfl rfl (ne_beq (v := true) rfl rfl) ?_
                    refine LW.pure rfl rfl (RV.pickTB rfl rfl rfl) ?_
                    replace H := H.pick (L' := [.own A106_0 c106_0 28 2 (List.map encRat r2.1), .own A108_0 c108_0 28 2 (List.map encRat r3.1), .tab A110_0 c110_0 39 hs110_0 3 1 (encM encN r4.1)]) [2, 1, 0] (by decide) rfl
                    replace R0 := H.ext
                    refine LW.nil (jK546 _ _ ⟨_, ?_, ⟨true, F, rfl, H⟩⟩)
                    exact ⟨rfl, rfl, (look_slice rfl (by first | rfl | (simp; done) | omega | (simp; omega))), (look_slice rfl (by first | rfl | (simp; done) | omega | (simp; omega))), (look_slice rfl (by first | rfl | (simp; done) | omega | (simp; omega))), rfl, trivial⟩
            ·
              intro K35 hK35 jK547
              by_cases hp15 : r7.2 = 0
              ·
                replace F := ite_y hp15 F
                have hq15 := dec_t hp15
                by_cases hp16 : r8.2 = 0
                ·
                  replace F := ite_y hp16 F
                  have hq16 := dec_t hp16
                  by_cases hp17 : ((r7.1.num == r8.1.num) && (r7.1.den == r8.1.den)) = true
                  ·
                    replace F := ite_y hp17 F
                    have hq17 : ((r7.1.num == r8.1.num) && (r7.1.den == r8.1.den)) = true := hp17
                    by_cases hp18 : ((r9.1.num == r10.1.num) && (r9.1.den == r10.1.den)) = true
                    ·
                      replace F := ite_y hp18 F
                      have hq18 : ((r9.1.num == r10.1.num) && (r9.1.den == r10.1.den)) = true := hp18
                      refine CW.region ?_
                      refine LW.pure rfl rfl (RV.move rfl) ?_
                      refine LW.pure rfl rfl (RV.nei rfl rfl) ?_
                      refine LW.pure rfl rfl (RV.move rfl) ?_
                      refine LW.pureYB rfl rfl rfl rfl (not_f hq15) (RV.move rfl) ?_
                      refine LW.pureYB rfl rfl rfl rfl (not_f hq15) (RV.nei rfl rfl) ?_
                      refine LW.pure rfl rfl (RV.pickFB rfl (not_f hq15) rfl) ?_
                      refine LW.pure rfl rfl (RV.move rfl) ?_
                      refine LW.pureYB rfl rfl rfl rfl (not_f hq16) (RV.loadA [.int .i64 r7.1.num, .int .i64 r7.1.den] Tk28 rfl (H.blk 3 rfl).cells rfl rfl) ?_
                      refine LW.pureYB rfl rfl rfl rfl (not_f hq16) (RV.loadA [.int .i64 r8.1.num, .int .i64 r8.1.den] Tk28 rfl (H.blk 2 rfl).cells rfl rfl) ?_
                      refine LW.pureYB rfl rfl rfl rfl (not_f hq16) (RV.neA Te28g (Te28 _ _ _ _ ) rfl rfl) ?_
                      refine LW.pure rfl rfl (RV.pickFB rfl (not_f hq16) rfl) ?_
                      refine LW.pure rfl rfl (RV.move rfl) ?_
                      refine LW.pureYB rfl rfl rfl rfl (not_f hq17) (RV.loadA [.int .i64 r9.1.num, .int .i64 r9.1.den] Tk28 rfl (H.blk 1 rfl).cells rfl rfl) ?_
                      refine LW.pureYB rfl rfl rfl rfl (not_f hq17) (RV.loadA [.int .i64 r10.1.num, .int .i64 r10.1.den] Tk28 rfl (H.blk 0 rfl).cells rfl rfl) ?_
                      refine LW.pureYB rfl rfl rfl rfl (not_f hq17) (RV.neA Te28g (Te28 _ _ _ _ ) rfl rfl) ?_
                      refine LW.pure rfl rfl (RV.pickFB rfl (not_f hq17) rfl) ?_
                      refine LW.pure rfl rfl (RV.move rfl) ?_
                      refine LW.pureYB rfl rfl rfl rfl (not_f hq18) (RV.move rfl) ?_
                      refine LW.pureYB rfl rfl rfl rfl (not_f hq18) (RV.move rfl) ?_
                      refine LW.pureYB rfl rfl rfl rfl (not_f hq18) (RV.nei rfl rfl) ?_
                      refine LW.pure rfl rfl (RV.pickFB rfl (not_f hq18) rfl) ?_
                      replace H := H.pick (L' := [.own A93_0_readings c93_0_readings 46 4 (List.map encReading r6.1.readings), .blk b1 24 [.int .i64 a0.points, .slice A_a0_readings a0.readings.length c_a0_readings], .blk b3 24 [.int .i64 r6.1.points, .slice A93_0_readings r6.1.readings.length c93_0_readings]]) [4, 5, 7] (by decide) rfl
                      replace R0 := H.ext
                      refine LW.nil (jK547 _ _ ⟨_, ?_, ⟨(!(decide (r9.2 = r10.2))), F, rfl, H⟩⟩)
                      exact ⟨rfl, rfl, rfl, rfl, rfl, trivial⟩
                    ·
                      replace F := ite_n hp18 F
                      have hq18 : ((r9.1.num == r10.1.num) && (r9.1.den == r10.1.den)) = false := raw_f hp18
                      refine CW.region ?_
                      refine LW.pure rfl rfl (RV.move rfl) ?_
                      refine LW.pure rfl rfl (RV.nei rfl rfl) ?_
                      refine LW.pure rfl rfl (RV.move rfl) ?_
                      refine LW.pureYB rfl rfl rfl rfl (not_f hq15) (RV.move rfl) ?_
                      refine LW.pureYB rfl rfl rfl rfl (not_f hq15) (RV.nei rfl rfl) ?_
                      refine LW.pure rfl rfl (RV.pickFB rfl (not_f hq15) rfl) ?_
                      refine LW.pure rfl rfl (RV.move rfl) ?_
                      refine LW.pureYB rfl rfl rfl rfl (not_f hq16) (RV.loadA [.int .i64 r7.1.num, .int .i64 r7.1.den] Tk28 rfl (H.blk 3 rfl).cells rfl rfl) ?_
                      refine LW.pureYB rfl rfl rfl rfl (not_f hq16) (RV.loadA [.int .i64 r8.1.num, .int .i64 r8.1.den] Tk28 rfl (H.blk 2 rfl).cells rfl rfl) ?_
                      refine LW.pureYB rfl rfl rfl rfl (not_f hq16) (RV.neA Te28g (Te28 _ _ _ _ ) rfl rfl) ?_
                      refine LW.pure rfl rfl (RV.pickFB rfl (not_f hq16) rfl) ?_
                      refine LW.pure rfl rfl (RV.move rfl) ?_
                      refine LW.pureYB rfl rfl rfl rfl (not_f hq17) (RV.loadA [.int .i64 r9.1.num, .int .i64 r9.1.den] Tk28 rfl (H.blk 1 rfl).cells rfl rfl) ?_
                      refine LW.pureYB rfl rfl rfl rfl (not_f hq17) (RV.loadA [.int .i64 r10.1.num, .int .i64 r10.1.den] Tk28 rfl (H.blk 0 rfl).cells rfl rfl) ?_
                      refine LW.pureYB rfl rfl rfl rfl (not_f hq17) (RV.neA Te28g (Te28 _ _ _ _ ) rfl rfl) ?_
                      refine LW.pure rfl rfl (RV.pickFB rfl (not_f hq17) rfl) ?_
                      refine LW.pure rfl rfl (RV.move rfl) ?_
                      refine LW.noB rfl rfl rfl rfl (ne_beq (v := true) (not_t hq18) rfl) ?_
                      refine LW.noB rfl rfl rfl rfl (ne_beq (v := true) (not_t hq18) rfl) ?_
                      refine LW.noB rfl rfl rfl rfl (ne_beq (v := true) (not_t hq18) rfl) ?_
                      refine LW.pure rfl rfl (RV.pickTB rfl (not_t hq18) rfl) ?_
                      replace H := H.pick (L' := [.own A93_0_readings c93_0_readings 46 4 (List.map encReading r6.1.readings), .blk b1 24 [.int .i64 a0.points, .slice A_a0_readings a0.readings.length c_a0_readings], .blk b3 24 [.int .i64 r6.1.points, .slice A93_0_readings r6.1.readings.length c93_0_readings]]) [4, 5, 7] (by decide) rfl
                      replace R0 := H.ext
                      refine LW.nil (jK547 _ _ ⟨_, ?_, ⟨true, F, rfl, H⟩⟩)
                      exact ⟨rfl, rfl, rfl, rfl, rfl, trivial⟩
                  ·
                    replace F := ite_n hp17 F
                    have hq17 : ((r7.1.num == r8.1.num) && (r7.1.den == r8.1.den)) = false := raw_f hp17
                    refine CW.region ?_
                    refine LW.pure rfl rfl (RV.move rfl) ?_
                    refine LW.pure rfl rfl (RV.nei rfl rfl) ?_
                    refine LW.pure rfl rfl (RV.move rfl) ?_
                    refine LW.pureYB rfl rfl rfl rfl (not_f hq15) (RV.move rfl) ?_
                    refine LW.pureYB rfl rfl rfl rfl (not_f hq15) (RV.nei rfl rfl) ?_
                    refine LW.pure rfl rfl (RV.pickFB rfl (not_f hq15) rfl) ?_
                    refine LW.pure rfl rfl (RV.move rfl) ?_
                    refine LW.pureYB rfl rfl rfl rfl (not_f hq16) (RV.loadA [.int .i64 r7.1.num, .int .i64 r7.1.den] Tk28 rfl (H.blk 3 rfl).cells rfl rfl) ?_
                    refine LW.pureYB rfl rfl rfl rfl (not_f hq16) (RV.loadA [.int .i64 r8.1.num, .int .i64 r8.1.den] Tk28 rfl (H.blk 2 rfl).cells rfl rfl) ?_
                    refine LW.pureYB rfl rfl rfl rfl (not_f hq16) (RV.neA Te28g (Te28 _ _ _ _ ) rfl rfl) ?_
                    refine LW.pure rfl rfl (RV.pickFB rfl (not_f hq16) rfl) ?_
                    refine LW.pure rfl rfl (RV.move rfl) ?_
                    refine LW.noB rfl rfl rfl rfl (ne_beq (v := true) (not_t hq17) rfl) ?_
                    refine LW.noB rfl rfl rfl rfl (ne_beq (v := true) (not_t hq17) rfl) ?_
                    refine LW.noB rfl rfl rfl rfl (ne_beq (v := true) (not_t hq17) rfl) ?_
                    refine LW.pure rfl rfl (RV.pickTB rfl (not_t hq17) rfl) ?_
                    refine LW.pure rfl rfl (RV.move rfl) ?_
                    refine LW.noB rfl rfl rfl rfl (ne_beq (v := true) rfl rfl) ?_
                    refine LW.noB rfl rfl rfl rfl (ne_beq (v := true) rfl rfl) ?_
                    refine LW.noB rfl rfl rfl rfl (ne_beq (v := true) rfl rfl) ?_
                    refine LW.pure rfl rfl (RV.pickTB rfl rfl rfl) ?_
                    replace H := H.pick (L' := [.own A93_0_readings c93_0_readings 46 4 (List.map encReading r6.1.readings), .blk b1 24 [.int .i64 a0.points, .slice A_a0_readings a0.readings.length c_a0_readings], .blk b3 24 [.int .i64 r6.1.points, .slice A93_0_readings r6.1.readings.length c93_0_readings]]) [4, 5, 7] (by decide) rfl
                    replace R0 := H.ext
                    refine LW.nil (jK547 _ _ ⟨_, ?_, ⟨true, F, rfl, H⟩⟩)
                    exact ⟨rfl, rfl, rfl, rfl, rfl, trivial⟩
                ·
                  replace F := ite_n hp16 F
                  have hq16 := dec_f hp16
                  refine CW.region ?_
                  refine LW.pure rfl rfl (RV.move rfl) ?_
                  refine LW.pure rfl rfl (RV.nei rfl rfl) ?_
                  refine LW.pure rfl rfl (RV.move rfl) ?_
                  refine LW.pureYB rfl rfl rfl rfl (not_f hq15) (RV.move rfl) ?_
                  refine LW.pureYB rfl rfl rfl rfl (not_f hq15) (RV.nei rfl rfl) ?_
                  refine LW.pure rfl rfl (RV.pickFB rfl (not_f hq15) rfl) ?_
                  refine LW.pure rfl rfl (RV.move rfl) ?_
                  refine LW.noB rfl rfl rfl rfl (ne_beq (v := true) (not_t hq16) rfl) ?_
                  refine LW.noB rfl rfl rfl rfl (ne_beq (v := true) (not_t hq16) rfl) ?_
                  refine LW.noB rfl rfl rfl rfl (ne_beq (v := true) (not_t hq16) rfl) ?_
                  refine LW.pure rfl rfl (RV.pickTB rfl (not_t hq16) rfl) ?_
                  refine LW.pure rfl rfl (RV.move rfl) ?_
                  refine LW.noB rfl rfl rfl rfl (ne_beq (v := true) rfl rfl) ?_
                  refine LW.noB rfl rfl rfl rfl (ne_beq (v := true) rfl rfl) ?_
                  refine LW.noB rfl rfl rfl rfl (ne_beq (v := true) rfl rfl) ?_
                  refine LW.pure rfl rfl (RV.pickTB rfl rfl rfl) ?_
                  refine LW.pure rfl rfl (RV.move rfl) ?_
                  refine LW.noB rfl rfl rfl rfl (ne_beq (v := true) rfl rfl) ?_
                  refine LW.noB rfl rfl rfl rfl (ne_beq (v := true) rfl rfl) ?_
                  refine LW.noB rfl rfl rfl rfl (ne_beq (v := true) rfl rfl) ?_
                  refine LW.pure rfl rfl (RV.pickTB rfl rfl rfl) ?_
                  replace H := H.pick (L' := [.own A93_0_readings c93_0_readings 46 4 (List.map encReading r6.1.readings), .blk b1 24 [.int .i64 a0.points, .slice A_a0_readings a0.readings.length c_a0_readings], .blk b3 24 [.int .i64 r6.1.points, .slice A93_0_readings r6.1.readings.length c93_0_readings]]) [4, 5, 7] (by decide) rfl
                  replace R0 := H.ext
                  refine LW.nil (jK547 _ _ ⟨_, ?_, ⟨true, F, rfl, H⟩⟩)
                  exact ⟨rfl, rfl, rfl, rfl, rfl, trivial⟩
              ·
                replace F := ite_n hp15 F
                have hq15 := dec_f hp15
                refine CW.region ?_
                refine LW.pure rfl rfl (RV.move rfl) ?_
                refine LW.pure rfl rfl (RV.nei rfl rfl) ?_
                refine LW.pure rfl rfl (RV.move rfl) ?_
                refine LW.noB rfl rfl rfl rfl (ne_beq (v := true) (not_t hq15) rfl) ?_
                refine LW.noB rfl rfl rfl rfl (ne_beq (v := true) (not_t hq15) rfl) ?_
                refine LW.pure rfl rfl (RV.pickTB rfl (not_t hq15) rfl) ?_
                refine LW.pure rfl rfl (RV.move rfl) ?_
                refine LW.noB rfl rfl rfl rfl (ne_beq (v := true) rfl rfl) ?_
                refine LW.noB rfl rfl rfl rfl (ne_beq (v := true) rfl rfl) ?_
                refine LW.noB rfl rfl rfl rfl (ne_beq (v := true) rfl rfl) ?_
                refine LW.pure rfl rfl (RV.pickTB rfl rfl rfl) ?_
                refine LW.pure rfl rfl (RV.move rfl) ?_
                refine LW.noB rfl rfl rfl rfl (ne_beq (v := true) rfl rfl) ?_
                refine LW.noB rfl rfl rfl rfl (ne_beq (v := true) rfl rfl) ?_
                refine LW.noB rfl rfl rfl rfl (ne_beq (v := true) rfl rfl) ?_
                refine LW.pure rfl rfl (RV.pickTB rfl rfl rfl) ?_
                refine LW.pure rfl rfl (RV.move rfl) ?_
                refine LW.noB rfl rfl rfl rfl (ne_beq (v := true) rfl rfl) ?_
                refine LW.noB rfl rfl rfl rfl (ne_beq (v := true) rfl rfl) ?_
                refine LW.noB rfl rfl rfl rfl (ne_beq (v := true) rfl rfl) ?_
                refine LW.pure rfl rfl (RV.pickTB rfl rfl rfl) ?_
                replace H := H.pick (L' := [.own A93_0_readings c93_0_readings 46 4 (List.map encReading r6.1.readings), .blk b1 24 [.int .i64 a0.points, .slice A_a0_readings a0.readings.length c_a0_readings], .blk b3 24 [.int .i64 r6.1.points, .slice A93_0_readings r6.1.readings.length c93_0_readings]]) [4, 5, 7] (by decide) rfl
                replace R0 := H.ext
                refine LW.nil (jK547 _ _ ⟨_, ?_, ⟨true, F, rfl, H⟩⟩)
                exact ⟨rfl, rfl, rfl, rfl, rfl, trivial⟩
          ·
            replace F := ite_n hp3 F
            have hq3 := dec_f hp3
            refine CW.condT rfl (not_t hq3) ?_
            refine CW.seq fun K36 hK36 => ?_
            obtain ⟨r11, hr11, F⟩ := bnd_some F
            refine CW.region ?_
            refine LW.go rfl rfl (OW.call Tc18 rfl (law01_known_ok hr11) ?_)
            rintro _ w31 ⟨rfl, E17⟩
            refine ⟨_, rfl, ?_⟩
            replace H := H.grow E17
            replace R0 := H.ext
            refine LW.pure rfl rfl (RV.assign rfl) ?_
            refine LW.nil (hK36 _ _ ?_)
            refine CW.ret ?_
            obtain rfl := Option.some.inj F
            refine ⟨_, (ResOK.one rfl), ?_⟩
            refine ⟨(by first | rfl | simp), R0⟩
      ·
        intro K37 hK37 jK549
        obtain ⟨r14, hr14, F⟩ := bnd_some F
        by_cases hp19 : r14 = true
        ·
          replace F := ite_y hp19 F
          have hq19 : r14 = true := hp19
          refine CW.region ?_
          refine LW.pure rfl rfl (RV.loadA [.int .i64 r6.1.points, .slice A93_0_readings r6.1.readings.length c93_0_readings] Tk24 rfl (H.blk 2 rfl).cells rfl rfl) ?_
          refine LW.pure rfl rfl (RV.loadA [.int .i64 r13.1.points, .slice A95_0_readings r13.1.readings.length c95_0_readings] Tk24 rfl (H.blk 0 rfl).cells rfl rfl) ?_
          refine LW.go rfl rfl (OW.call Tc31 rfl (ref01_Same_ok (a0 := r6.1) (a1 := r13.1) (H.own 3 rfl).sl (H.own 1 rfl).sl hr14) ?_)
          rintro _ w32 ⟨rfl, E18⟩
          refine ⟨_, rfl, ?_⟩
          replace H := H.grow E18
          replace R0 := H.ext
          refine LW.pure rfl rfl (RV.not rfl) ?_
          refine LW.pure rfl rfl (RV.move rfl) ?_
          refine LW.pureYB rfl rfl rfl rfl (not_f hq19) (RV.move rfl) ?_
          refine LW.pureYB rfl rfl rfl rfl (not_f hq19) (RV.move rfl) ?_
          refine LW.pureYB rfl rfl rfl rfl (not_f hq19) (RV.nei rfl rfl) ?_
          refine LW.pure rfl rfl (RV.pickFB rfl (not_f hq19) rfl) ?_
          replace H := H.pick (L' := [.own A93_0_readings c93_0_readings 46 4 (List.map encReading r6.1.readings), .blk b1 24 [.int .i64 a0.points, .slice A_a0_readings a0.readings.length c_a0_readings], .blk b2 34 [.int .i64 a2.i, .int .i64 a2.j, .int .i64 a2.k], .blk b3 24 [.int .i64 r6.1.points, .slice A93_0_readings r6.1.readings.length c93_0_readings]]) [3, 4, 5, 2] (by decide) rfl
          replace R0 := H.ext
          refine LW.nil (jK549 _ _ ⟨_, ?_, ⟨(!(decide (r6.2 = r13.2))), F, rfl, H⟩⟩)
          exact ⟨rfl, rfl, rfl, rfl, rfl, rfl, rfl, trivial⟩
        ·
          replace F := ite_n hp19 F
          have hq19 : r14 = false := raw_f hp19
          refine CW.region ?_
          refine LW.pure rfl rfl (RV.loadA [.int .i64 r6.1.points, .slice A93_0_readings r6.1.readings.length c93_0_readings] Tk24 rfl (H.blk 2 rfl).cells rfl rfl) ?_
          refine LW.pure rfl rfl (RV.loadA [.int .i64 r13.1.points, .slice A95_0_readings r13.1.readings.length c95_0_readings] Tk24 rfl (H.blk 0 rfl).cells rfl rfl) ?_
          refine LW.go rfl rfl (OW.call Tc31 rfl (ref01_Same_ok (a0 := r6.1) (a1 := r13.1) (H.own 3 rfl).sl (H.own 1 rfl).sl hr14) ?_)
          rintro _ w33 ⟨rfl, E19⟩
          refine ⟨_, rfl, ?_⟩
          replace H := H.grow E19
          replace R0 := H.ext
          refine LW.pure rfl rfl (RV.not rfl) ?_
          refine LW.pure rfl rfl (RV.move rfl) ?_
          refine LW.noB rfl rfl rfl rfl (ne_beq (v := true) (not_t hq19) rfl) ?_
          refine LW.noB rfl rfl rfl rfl (ne_beq (v := true) (not_t hq19) rfl) ?_
          refine LW.noB rfl rfl rfl rfl (ne_beq (v := true) (not_t hq19) rfl) ?_
          refine LW.pure rfl rfl (RV.pickTB rfl (not_t hq19) rfl) ?_
          replace H := H.pick (L' := [.own A93_0_readings c93_0_readings 46 4 (List.map encReading r6.1.readings), .blk b1 24 [.int .i64 a0.points, .slice A_a0_readings a0.readings.length c_a0_readings], .blk b2 34 [.int .i64 a2.i, .int .i64 a2.j, .int .i64 a2.k], .blk b3 24 [.int .i64 r6.1.points, .slice A93_0_readings r6.1.readings.length c93_0_readings]]) [3, 4, 5, 2] (by decide) rfl
          replace R0 := H.ext
          refine LW.nil (jK549 _ _ ⟨_, ?_, ⟨true, F, rfl, H⟩⟩)
          exact ⟨rfl, rfl, rfl, rfl, rfl, rfl, rfl, trivial⟩
  ·
    intro K38 hK38 jK550
    obtain ⟨r15, hr15, F⟩ := bnd_some F
    by_cases hp20 : r15 = true
    ·
      replace F := ite_y hp20 F
      have hq20 : r15 = true := hp20
      refine CW.region ?_
      refine LW.pure rfl rfl (RV.loadA [.int .i64 a0.points, .slice A_a0_readings a0.readings.length c_a0_readings] Tk24 rfl (H.blk 1 rfl).cells rfl rfl) ?_
      refine LW.go rfl rfl (OW.call Tc17 rfl (law01_Long_ok (a0 := a0) (h_a0_readings.ext R0) hr15) ?_)
      rintro _ w34 ⟨rfl, E20⟩
      refine ⟨_, rfl, ?_⟩
      replace H := H.grow E20
      replace R0 := H.ext
      refine LW.pure rfl rfl (RV.move rfl) ?_
      refine LW.noB rfl rfl rfl rfl (ne_beq (v := true) hq20 rfl) ?_
      refine LW.noB rfl rfl rfl rfl (ne_beq (v := true) hq20 rfl) ?_
      refine LW.noB rfl rfl rfl rfl (ne_beq (v := true) hq20 rfl) ?_
      refine LW.pure rfl rfl (RV.pickTB rfl hq20 rfl) ?_
      replace H := H.pick (L' := [.blk b1 24 [.int .i64 a0.points, .slice A_a0_readings a0.readings.length c_a0_readings], .blk b2 34 [.int .i64 a2.i, .int .i64 a2.j, .int .i64 a2.k]]) [1, 0] (by decide) rfl
      replace R0 := H.ext
      refine LW.nil (jK550 _ _ ⟨_, ?_, ⟨true, F, rfl, H⟩⟩)
      exact ⟨rfl, rfl, rfl, rfl, rfl, trivial⟩
    ·
      replace F := ite_n hp20 F
      have hq20 : r15 = false := raw_f hp20
      refine CW.region ?_
      refine LW.pure rfl rfl (RV.loadA [.int .i64 a0.points, .slice A_a0_readings a0.readings.length c_a0_readings] Tk24 rfl (H.blk 1 rfl).cells rfl rfl) ?_
      refine LW.go rfl rfl (OW.call Tc17 rfl (law01_Long_ok (a0 := a0) (h_a0_readings.ext R0) hr15) ?_)
      rintro _ w35 ⟨rfl, E21⟩
      refine ⟨_, rfl, ?_⟩
      replace H := H.grow E21
      replace R0 := H.ext
      refine LW.pure rfl rfl (RV.move rfl) ?_
      refine LW.pureYB rfl rfl rfl rfl hq20 (RV.move rfl) ?_
      refine LW.pureYB rfl rfl rfl rfl hq20 (RV.len Ts39 rfl) ?_
      refine LW.pureYB rfl rfl rfl rfl hq20 (RV.gtr rfl rfl) ?_
      refine LW.pure rfl rfl (RV.pickFB rfl hq20 rfl) ?_
      replace H := H.pick (L' := [.blk b1 24 [.int .i64 a0.points, .slice A_a0_readings a0.readings.length c_a0_readings], .blk b2 34 [.int .i64 a2.i, .int .i64 a2.j, .int .i64 a2.k]]) [1, 0] (by decide) rfl
      replace R0 := H.ext
      refine LW.nil (jK550 _ _ ⟨_, ?_, ⟨(decide ((100 : Int) < ((a1.length : Int)))), F, rfl, H⟩⟩)
      exact ⟨rfl, rfl, rfl, rfl, rfl, trivial⟩
end Go.D1

namespace Go.Tb
/-- A loop over 0 .. N - 1 with a state, that is left at the first i for which p does not hold. -/
theorem scan_loop {S R : Type} (N : Nat) (p : Nat → Bool) (g : Nat → S) (L : Nat → S → Int → Option R) (yes : Option R) (no : Nat → Option R)
    (step : ∀ n i : Nat, i < N → L (n + 1) (g i) (i : Int) = if p i = true then L n (g (i + 1)) ((i + 1 : Nat) : Int) else no i)
    (stop : ∀ n : Nat, L (n + 1) (g N) (N : Int) = yes) : ∀ (d n i : Nat), N = i + d → d < n → L n (g i) (i : Int) = match (List.range' i d).find? (fun j => !p j) with | none => yes | some j => no j
  | 0, n + 1, i, hd, hn => by
    have hi : i = N := by omega
    subst hi
    rw [stop n]; rfl
  | d + 1, n + 1, i, hd, hn => by
    rw [step n i (by omega), List.range'_succ, List.find?_cons]
    cases hp : p i
    · simp
    · simp only [if_true, Bool.not_true]
      exact scan_loop N p g L yes no step stop d n (i + 1) (by omega) (by omega)
theorem find_all {p : Nat → Bool} {i d : Nat} : (List.range' i d).find? (fun j => !p j) = none ↔ ∀ j, i ≤ j → j < i + d → p j = true := by
  rw [List.find?_eq_none]
  constructor
  · intro h j h1 h2
    have := h j (by rw [List.mem_range'_1]; omega)
    simpa using this
  · intro h x hx
    rw [List.mem_range'_1] at hx
    simp [h x hx.1 hx.2]
/-- A loop over 0 .. N - 1 with a state and no way out. -/
theorem for_loop {S R : Type} (N : Nat) (g : Nat → S) (L : Nat → S → Int → Option R) (yes : Option R)
    (step : ∀ n i : Nat, i < N → L (n + 1) (g i) (i : Int) = L n (g (i + 1)) ((i + 1 : Nat) : Int))
    (stop : ∀ n : Nat, L (n + 1) (g N) (N : Int) = yes) : ∀ (d n i : Nat), N = i + d → d < n → L n (g i) (i : Int) = yes
  | 0, n + 1, i, hd, hn => by
    have hi : i = N := by omega
    subst hi
    exact stop n
  | d + 1, n + 1, i, hd, hn => by
    rw [step n i (by omega)]
    exact for_loop N g L yes step stop d n (i + 1) (by omega) (by omega)
theorem for_loop0 {S R : Type} (N : Nat) (g : Nat → S) (L : Nat → S → Int → Option R) (yes : Option R)
    (step : ∀ n i : Nat, i < N → L (n + 1) (g i) (i : Int) = L n (g (i + 1)) ((i + 1 : Nat) : Int))
    (stop : ∀ n : Nat, L (n + 1) (g N) (N : Int) = yes) (hN : N ≤ 9223372036854775807) : L FU (g 0) 0 = yes :=
  for_loop N g L yes step stop N FU 0 (by omega) (by have := FU_pos; omega)
theorem scan_loop0 {S R : Type} (N : Nat) (p : Nat → Bool) (g : Nat → S) (L : Nat → S → Int → Option R) (yes no : Option R)
    (step : ∀ n i : Nat, i < N → L (n + 1) (g i) (i : Int) = if p i = true then L n (g (i + 1)) ((i + 1 : Nat) : Int) else no)
    (stop : ∀ n : Nat, L (n + 1) (g N) (N : Int) = yes) (hN : N ≤ 9223372036854775807) : L FU (g 0) 0 = if (∀ j, j < N → p j = true) then yes else no := by
  have h := scan_loop N p g L yes (fun _ => no) step stop N FU 0 (by omega) (by have := FU_pos; omega)
  refine Eq.trans h ?_
  cases hf : (List.range' 0 N).find? (fun j => !p j) with
  | none => rw [if_pos (fun j hj => find_all.1 hf j (by omega) (by omega))]
  | some j =>
    have h1 := List.find?_some hf
    have h2 := List.mem_of_find?_eq_some hf
    rw [List.mem_range'_1] at h2
    rw [if_neg]
    intro hall
    have := hall j (by omega)
    simp [this] at h1
/-- The same over the elements of a list. -/
theorem list_loop0 {α R : Type} (l : List α) (p : α → Bool) (L : Nat → Int → Option R) (yes no : Option R)
    (step : ∀ (n i : Nat) (x : α), l[i]? = some x → L (n + 1) (i : Int) = if p x = true then L n ((i + 1 : Nat) : Int) else no)
    (stop : ∀ n : Nat, L (n + 1) (l.length : Int) = yes) (hl : l.length ≤ 9223372036854775807) : L FU 0 = if l.all p = true then yes else no := by
  have h := scan_loop0 l.length (fun i => (l[i]?.map p).getD true) (fun _ => ()) (fun n _ i => L n i) yes no (fun n i hi => by
    have hx : l[i]? = some l[i] := by simp [hi]
    rw [step n i _ hx]; simp [hx]) stop hl
  refine Eq.trans h ?_
  by_cases ha : l.all p = true
  · rw [if_pos ha, if_pos]
    intro j hj
    have := List.all_eq_true.1 ha l[j] (List.getElem_mem hj)
    simp [hj, this]
  · rw [if_neg ha, if_neg]
    intro hc
    refine ha (List.all_eq_true.2 fun x hx => ?_)
    obtain ⟨j, hj⟩ := List.getElem?_of_mem hx
    have := hc j (lt_of_at hj)
    simpa [hj] using this
end Go.Tb

set_option linter.unusedVariables false
set_option linter.unusedSimpArgs false
namespace Go.D1
open Go.Tb
theorem known_eq : law01_known = some true := by decide +kernel
theorem ix0 {α β : Type} {l : List α} {k : α → Option β} {x : α} (h : l[0]? = some x) : ix l 0 k = k x := ix_nat (i := 0) h
theorem for0 {S R : Type} (N : Nat) (g : Nat → S) (L : Nat → S → Int → Option R) (yes : Option R) {s0 : S} (h0 : g 0 = s0)
    (step : ∀ n i : Nat, i < N → L (n + 1) (g i) (i : Int) = L n (g (i + 1)) ((i + 1 : Nat) : Int))
    (stop : ∀ n : Nat, L (n + 1) (g N) (N : Int) = yes) (hN : N ≤ 9223372036854775807) : L FU s0 0 = yes := by
  rw [← h0]; exact for_loop0 N g L yes step stop hN
def gi (l : List Int) (i : Nat) : Int := l.getD i 0
theorem gi_at {l : List Int} {i : Nat} (h : i < l.length) : l[i]? = some (gi l i) := by simp [gi, List.getD, h]
theorem gi_of {l : List Int} {i : Nat} {x : Int} (h : l[i]? = some x) : gi l i = x := by simp [gi, List.getD, h]
theorem gi_set {l : List Int} {i j : Nat} {x : Int} : gi (l.set i x) j = if i = j ∧ j < l.length then x else gi l j := by
  unfold gi
  simp only [List.getD_eq_getElem?_getD, List.getElem?_set]
  by_cases h : i = j
  · subst h
    by_cases h2 : i < l.length
    · simp [h2]
    · simp [h2]
  · simp [h]
theorem gi_ext {l l' : List Int} (hl : l.length = l'.length) (h : ∀ j, j < l.length → gi l j = gi l' j) : l = l' := by
  apply List.ext_getElem?
  intro j
  by_cases hj : j < l.length
  · rw [gi_at hj, gi_at (by omega), h j hj]
  · rw [List.getElem?_eq_none (by omega), List.getElem?_eq_none (by omega)]
def within (n lo hi : Int) : Bool := decide (lo ≤ n) && decide (n ≤ hi)
theorem within_iff {n lo hi : Int} : within n lo hi = true ↔ lo ≤ n ∧ n ≤ hi := by unfold within; simp
theorem lwithin_eq (n lo hi : Int) : level_within n lo hi = some (within n lo hi) := by
  unfold level_within within
  by_cases h : lo ≤ n <;> simp [h]
theorem rwithin_eq (n lo hi : Int) : ref01_within n lo hi = some (within n lo hi) := by
  unfold ref01_within within
  by_cases h : lo ≤ n <;> simp [h]
def okR (s : Survey) (r : Reading) : Bool := within r.from_ 0 (s.points - 1) && within r.to_ 0 (s.points - 1) && !decide (r.from_ = r.to_) && within r.rise (-1000) 1000 && within r.weight 1 3
def validate (s : Survey) : Int := if within s.points 1 5 = true then (if 8 < s.readings.length then 3 else if s.readings.all (okR s) = true then 0 else 1) else 1
theorem Validate_eq (s : Survey) : level_Validate s = some (validate s) := by
  unfold level_Validate validate
  rw [bnd_eq (lwithin_eq _ _ _)]
  by_cases hp : within s.points 1 5 = true
  · have hw := within_iff.1 hp
    rw [if_pos hp, if_pos hp]
    by_cases h8 : 8 < s.readings.length
    · rw [if_pos (by omega), if_pos h8]
    · rw [if_neg (by omega), if_neg h8]
      refine Eq.trans (list_loop0 s.readings (okR s) (level_Validate_L1 s) (some 0) (some 1) (fun k i x hx => ?_) (fun k => ?_) (by omega)) (by split <;> rfl)
      · have := lt_of_at hx
        show level_Validate_B1 s (level_Validate_L1 s k) _ = _
        unfold level_Validate_B1 okR level_Validate_k2
        rw [if_pos (by omega), ix_nat hx, gd_pos (by omega), bnd_eq (lwithin_eq _ _ _)]
        cases h1 : within x.from_ 0 (s.points - 1)
        · rw [if_neg (by simp), if_pos rfl]; rfl
        · rw [if_pos rfl, gd_pos (by omega), bnd_eq (lwithin_eq _ _ _)]
          cases h2 : within x.to_ 0 (s.points - 1)
          · rw [if_neg (by simp), if_pos rfl]; rfl
          · rw [if_pos rfl]
            by_cases h3 : x.from_ = x.to_
            · rw [if_pos h3, if_pos rfl, decide_eq_true h3]; rfl
            · rw [if_neg h3, decide_eq_false h3, bnd_eq (lwithin_eq _ _ _)]
              cases h4 : within x.rise (-1000) 1000
              · rw [if_neg (by simp), if_pos rfl]; rfl
              · rw [if_pos rfl, bnd_eq (lwithin_eq _ _ _)]
                cases h5 : within x.weight 1 3
                · rw [if_pos (by rfl)]; rfl
                · rw [if_neg (by simp), gd_pos (by omega)]; rfl
      · show level_Validate_B1 s (level_Validate_L1 s k) _ = _
        unfold level_Validate_B1
        rw [if_neg (by omega)]; rfl
  · rw [if_neg hp, if_neg hp]
theorem rValidate_eq (s : Survey) : ref01_Validate s = some (validate s) := by
  unfold ref01_Validate validate
  rw [bnd_eq (rwithin_eq _ _ _)]
  by_cases hp : within s.points 1 5 = true
  · have hw := within_iff.1 hp
    rw [if_pos hp, if_pos hp]
    by_cases h8 : 8 < s.readings.length
    · rw [if_pos (by omega), if_pos h8]
    · rw [if_neg (by omega), if_neg h8]
      refine Eq.trans (list_loop0 s.readings (okR s) (ref01_Validate_L1 s) (some 0) (some 1) (fun k i x hx => ?_) (fun k => ?_) (by omega)) (by split <;> rfl)
      · have := lt_of_at hx
        show ref01_Validate_B1 s (ref01_Validate_L1 s k) _ = _
        unfold ref01_Validate_B1 okR ref01_Validate_k2
        rw [if_pos (by omega), ix_nat hx, gd_pos (by omega), bnd_eq (rwithin_eq _ _ _)]
        cases h1 : within x.from_ 0 (s.points - 1)
        · rw [if_neg (by simp), if_pos rfl]; rfl
        · rw [if_pos rfl, gd_pos (by omega), bnd_eq (rwithin_eq _ _ _)]
          cases h2 : within x.to_ 0 (s.points - 1)
          · rw [if_neg (by simp), if_pos rfl]; rfl
          · rw [if_pos rfl]
            by_cases h3 : x.from_ = x.to_
            · rw [if_pos h3, if_pos rfl, decide_eq_true h3]; rfl
            · rw [if_neg h3, decide_eq_false h3, bnd_eq (rwithin_eq _ _ _)]
              cases h4 : within x.rise (-1000) 1000
              · rw [if_neg (by simp), if_pos rfl]; rfl
              · rw [if_pos rfl, bnd_eq (rwithin_eq _ _ _)]
                cases h5 : within x.weight 1 3
                · rw [if_pos (by rfl)]; rfl
                · rw [if_neg (by simp), gd_pos (by omega)]; rfl
      · show ref01_Validate_B1 s (ref01_Validate_L1 s k) _ = _
        unfold ref01_Validate_B1
        rw [if_neg (by omega)]; rfl
  · rw [if_neg hp, if_neg hp]
structure SvOk (s : Survey) : Prop where
  p1 : 1 ≤ s.points
  p5 : s.points ≤ 5
  len : s.readings.length ≤ 8
  rd : ∀ r ∈ s.readings, (0 ≤ r.from_ ∧ r.from_ < s.points) ∧ (0 ≤ r.to_ ∧ r.to_ < s.points) ∧ r.from_ ≠ r.to_ ∧ (-1000 ≤ r.rise ∧ r.rise ≤ 1000) ∧ (1 ≤ r.weight ∧ r.weight ≤ 3)
theorem val0 {s : Survey} : validate s = 0 ↔ SvOk s := by
  unfold validate
  constructor
  · intro h
    split at h
    · rename_i hp
      have hw := within_iff.1 hp
      split at h
      · omega
      · split at h
        · rename_i hall
          refine ⟨hw.1, hw.2, by omega, fun r hr => ?_⟩
          have := List.all_eq_true.1 hall r hr
          unfold okR at this
          simp only [Bool.and_eq_true, within_iff, Bool.not_eq_true', decide_eq_false_iff_not] at this
          omega
        · omega
    · omega
  · intro h
    rw [if_pos (within_iff.2 ⟨h.p1, h.p5⟩), if_neg (by have := h.len; omega), if_pos]
    rw [List.all_eq_true]
    intro r hr
    have := h.rd r hr
    unfold okR
    simp only [Bool.and_eq_true, within_iff, Bool.not_eq_true', decide_eq_false_iff_not]
    omega
theorem Long_eq (s : Survey) : law01_Long s = some (decide ((100 : Int) < (s.readings.length : Int))) := rfl
end Go.D1

set_option linter.unusedVariables false
set_option linter.unusedSimpArgs false
namespace Go.D1
open Go.Tb
def gr (l : List Reading) (i : Nat) : Reading := l.getD i ⟨0, 0, 0, 0⟩
theorem gr_at {l : List Reading} {i : Nat} (h : i < l.length) : l[i]? = some (gr l i) := by simp [gr, List.getD, h]
theorem gr_ok {s : Survey} (h : SvOk s) {i : Nat} (hi : i < s.readings.length) : (0 ≤ (gr s.readings i).from_ ∧ (gr s.readings i).from_ < s.points) ∧ (0 ≤ (gr s.readings i).to_ ∧ (gr s.readings i).to_ < s.points) ∧ (gr s.readings i).from_ ≠ (gr s.readings i).to_ ∧ (-1000 ≤ (gr s.readings i).rise ∧ (gr s.readings i).rise ≤ 1000) ∧ (1 ≤ (gr s.readings i).weight ∧ (gr s.readings i).weight ≤ 3) := h.rd _ (List.mem_of_getElem? (gr_at hi))
/-- Joined by the first j readings. -/
inductive Con (s : Survey) (j : Nat) : Int → Int → Prop where
  | refl (a : Int) : Con s j a a
  | edge {i : Nat} : i < j → i < s.readings.length → Con s j (gr s.readings i).from_ (gr s.readings i).to_
  | symm {a b : Int} : Con s j a b → Con s j b a
  | trans {a b c : Int} : Con s j a b → Con s j b c → Con s j a c
theorem Con.mono {s : Survey} {j k : Nat} (hjk : j ≤ k) {a b : Int} (h : Con s j a b) : Con s k a b := by
  induction h with
  | refl a => exact .refl a
  | edge h1 h2 => exact .edge (by omega) h2
  | symm _ ih => exact ih.symm
  | trans _ _ i1 i2 => exact i1.trans i2
/-- A list that gives the smallest point of each point's part. -/
structure Roots (s : Survey) (j : Nat) (f : List Int) : Prop where
  len : f.length = s.points.toNat
  le : ∀ i, i < f.length → 0 ≤ gi f i ∧ gi f i ≤ i
  con : ∀ i, i < f.length → Con s j (gi f i) (i : Int)
  same : ∀ i, i < j → i < s.readings.length → gi f (gr s.readings i).from_.toNat = gi f (gr s.readings i).to_.toNat
theorem Roots.eq_of {s : Survey} (hs : SvOk s) {j : Nat} {f : List Int} (h : Roots s j f) {a b : Int} (hc : Con s j a b) : (0 ≤ a ∧ a < s.points ↔ 0 ≤ b ∧ b < s.points) ∧ (0 ≤ a ∧ a < s.points → gi f a.toNat = gi f b.toNat) := by
  induction hc with
  | refl a => exact ⟨Iff.rfl, fun _ => rfl⟩
  | edge h1 h2 =>
    have := gr_ok hs h2
    exact ⟨by omega, fun _ => h.same _ h1 h2⟩
  | symm _ ih => exact ⟨ih.1.symm, fun hb => (ih.2 (ih.1.2 hb)).symm⟩
  | trans _ _ i1 i2 => exact ⟨i1.1.trans i2.1, fun ha => (i1.2 ha).trans (i2.2 (i1.1.1 ha))⟩
theorem Roots.uniq {s : Survey} (hs : SvOk s) {j : Nat} {f g : List Int} (hf : Roots s j f) (hg : Roots s j g) : f = g := by
  have hp := hs.p1
  refine gi_ext (by rw [hf.len, hg.len]) fun i hi => ?_
  have hfl := hf.len
  have hgl := hg.len
  have key : ∀ {f g : List Int}, Roots s j f → Roots s j g → ∀ i, i < s.points.toNat → gi g i ≤ gi f i := fun {f g} hf hg i hi => by
    have h1 := hf.le i (by rw [hf.len]; exact hi)
    have h2 := (hg.eq_of hs (hf.con i (by rw [hf.len]; exact hi))).2 (by omega)
    have h3 := hg.le (gi f i).toNat (by rw [hg.len]; omega)
    rw [show ((i : Int)).toNat = i by omega] at h2
    omega
  have := key hf hg i (by omega)
  have := key hg hf i (by omega)
  omega
def relab (f : List Int) (a b : Int) : List Int := f.map fun x => if x = max (gi f a.toNat) (gi f b.toNat) then min (gi f a.toNat) (gi f b.toNat) else x
theorem relab_len (f : List Int) (a b : Int) : (relab f a b).length = f.length := by unfold relab; simp
theorem relab_gi {f : List Int} {a b : Int} {i : Nat} (hi : i < f.length) : gi (relab f a b) i = if gi f i = max (gi f a.toNat) (gi f b.toNat) then min (gi f a.toNat) (gi f b.toNat) else gi f i := by
  apply gi_of
  unfold relab
  rw [List.getElem?_map, gi_at hi]; rfl
theorem join_eq {f : List Int} {a b : Int} (hf : f.length ≤ 1000) (ha : 0 ≤ a ∧ a < (f.length : Int)) (hb : 0 ≤ b ∧ b < (f.length : Int)) : level_forest_1 f a b = some (!decide (gi f a.toNat = gi f b.toNat), relab f a b) := by
  have hA : f[a.toNat]? = some (gi f a.toNat) := gi_at (by omega)
  have hB : f[b.toNat]? = some (gi f b.toNat) := gi_at (by omega)
  unfold level_forest_1
  rw [ix_eq ha.1 hA, ix_eq hb.1 hB, ix_eq ha.1 hA, ix_eq hb.1 hB]
  refine Eq.trans (for0 f.length (fun i => (relab f a b).take i ++ f.drop i) (fun k s i => level_forest_1_L1 f (gi f a.toNat) (gi f b.toNat) (gi f a.toNat) (gi f b.toNat) k i s) (some (!decide (gi f a.toNat = gi f b.toNat), relab f a b)) (by simp) (fun k i hi => ?_) (fun k => ?_) (by omega)) rfl
  · show level_forest_1_B1 f _ _ _ _ (level_forest_1_L1 f _ _ _ _ k) _ _ = _
    have hl := relab_len f a b
    have hx : ((relab f a b).take i ++ f.drop i)[i]? = some (gi f i) := by
      rw [List.getElem?_append_right (by rw [List.length_take]; omega), List.length_take, hl, List.getElem?_drop, show i + (i - min i f.length) = i by omega]
      exact gi_at hi
    have hnext : (relab f a b).take (i + 1) ++ f.drop (i + 1) = ((relab f a b).take i ++ f.drop i).set i (gi (relab f a b) i) := by
      rw [List.set_append_right _ _ (by rw [List.length_take]; omega), List.length_take, hl, show i - min i f.length = 0 by omega, List.drop_eq_getElem_cons hi, List.set_cons_zero, List.take_add_one, gi_at (by omega)]
      simp
    unfold level_forest_1_B1 level_forest_1_k2
    rw [if_pos (by omega), ix_nat hx]
    by_cases hm : gi f i = max (gi f a.toNat) (gi f b.toNat)
    · rw [if_pos hm, ix_nat hx, gd_pos (by omega), hnext, relab_gi hi, if_pos hm]; rfl
    · rw [if_neg hm, gd_pos (by omega), hnext, relab_gi hi, if_neg hm]
      have e : ((relab f a b).take i ++ f.drop i).set i (gi f i) = (relab f a b).take i ++ f.drop i := by
        apply List.ext_getElem?
        intro q
        rw [List.getElem?_set]
        by_cases hq : i = q
        · subst hq; rw [if_pos rfl, if_pos (lt_of_at hx), hx]
        · rw [if_neg hq]
      rw [e]; rfl
  · show level_forest_1_B1 f _ _ _ _ (level_forest_1_L1 f _ _ _ _ k) _ _ = _
    unfold level_forest_1_B1 level_forest_1_k1
    have hl := relab_len f a b
    rw [if_neg (by omega), List.drop_of_length_le (Nat.le_refl _), List.append_nil, List.take_of_length_le (by omega)]
    congr 3
    exact decide_eq_decide.2 (by omega)
def iota (n : Nat) : List Int := (List.range n).map fun (i : Nat) => (i : Int)
theorem iota_gi {n i : Nat} (h : i < n) : gi (iota n) i = i := by
  apply gi_of
  unfold iota
  rw [List.getElem?_map, List.getElem?_range h]; rfl
theorem iota_len (n : Nat) : (iota n).length = n := by unfold iota; simp
theorem iota_succ (n : Nat) : iota (n + 1) = iota n ++ [(n : Int)] := by unfold iota; rw [List.range_succ, List.map_append]; rfl
def firsts (s : Survey) : Nat → List Int
  | 0 => iota s.points.toNat
  | j + 1 => relab (firsts s j) (gr s.readings j).from_ (gr s.readings j).to_
theorem firsts_ok {s : Survey} (hs : SvOk s) : ∀ j, j ≤ s.readings.length → Roots s j (firsts s j)
  | 0, _ => {
    len := iota_len _
    le := fun i hi => by
      simp only [firsts] at hi ⊢
      rw [iota_len] at hi
      rw [iota_gi hi]; omega
    con := fun i hi => by
      simp only [firsts] at hi ⊢
      rw [iota_len] at hi
      rw [iota_gi hi]; exact .refl _
    same := fun i hi => by omega }
  | j + 1, hj => by
    have ih := firsts_ok hs j (by omega)
    have hr := gr_ok hs (i := j) (by omega)
    have hl := ih.len
    have hp := hs.p1
    have la := ih.le (gr s.readings j).from_.toNat (by omega)
    have lb := ih.le (gr s.readings j).to_.toNat (by omega)
    have ca := (ih.con (gr s.readings j).from_.toNat (by omega)).mono (Nat.le_succ j)
    have cb := (ih.con (gr s.readings j).to_.toNat (by omega)).mono (Nat.le_succ j)
    rw [show (((gr s.readings j).from_.toNat : Nat) : Int) = (gr s.readings j).from_ by omega] at ca
    rw [show (((gr s.readings j).to_.toNat : Nat) : Int) = (gr s.readings j).to_ by omega] at cb
    have cab : Con s (j + 1) (gi (firsts s j) (gr s.readings j).from_.toNat) (gi (firsts s j) (gr s.readings j).to_.toNat) := ca.trans ((Con.edge (Nat.lt_succ_self j) (by omega)).trans cb.symm)
    have hg : ∀ i, i < (firsts s j).length → gi (firsts s (j + 1)) i = if gi (firsts s j) i = max (gi (firsts s j) (gr s.readings j).from_.toNat) (gi (firsts s j) (gr s.readings j).to_.toNat) then min (gi (firsts s j) (gr s.readings j).from_.toNat) (gi (firsts s j) (gr s.readings j).to_.toNat) else gi (firsts s j) i := fun i hi => relab_gi hi
    generalize hA : gi (firsts s j) (gr s.readings j).from_.toNat = A at *
    generalize hB : gi (firsts s j) (gr s.readings j).to_.toNat = B at *
    have hl' : (firsts s (j + 1)).length = (firsts s j).length := relab_len _ _ _
    refine ⟨by rw [hl', hl], fun i hi => ?_, fun i hi => ?_, fun i hi hi2 => ?_⟩
    · rw [hl'] at hi
      have := ih.le i hi
      rw [hg i hi]
      split <;> omega
    · rw [hl'] at hi
      rw [hg i hi]
      have hc := (ih.con i hi).mono (Nat.le_succ j)
      split
      · rename_i he
        rw [he] at hc
        have cm : Con s (j + 1) (min A B) (max A B) := by
          rcases Int.le_total A B with h | h
          · rw [show min A B = A by omega, show max A B = B by omega]; exact cab
          · rw [show min A B = B by omega, show max A B = A by omega]; exact cab.symm
        exact cm.trans hc
      · exact hc
    · have hri := gr_ok hs hi2
      rw [hg _ (by omega), hg _ (by omega)]
      by_cases e : i = j
      · subst e
        rw [hA, hB]
        split <;> split <;> omega
      · rw [ih.same i (by omega) hi2]
def treeL (s : Survey) : Nat → List Int
  | 0 => []
  | j + 1 => treeL s j ++ (if gi (firsts s j) (gr s.readings j).from_.toNat = gi (firsts s j) (gr s.readings j).to_.toNat then [] else [(j : Int)])
theorem treeL_len (s : Survey) : ∀ j, (treeL s j).length ≤ j
  | 0 => Nat.le_refl _
  | j + 1 => by
    have := treeL_len s j
    simp only [treeL]
    split <;> simp <;> omega
theorem forest_eq {s : Survey} (hs : SvOk s) : level_forest s = some (firsts s s.readings.length, treeL s s.readings.length) := by
  have hp := hs.p1
  have hp5 := hs.p5
  have h8 := hs.len
  unfold level_forest
  refine for0 s.points.toNat iota (fun k l i => level_forest_L2 s k i l) _ rfl (fun k i hi => ?_) (fun k => ?_) (by omega)
  · show level_forest_B2 s (level_forest_L2 s k) _ _ = _
    unfold level_forest_B2
    have := iota_len i
    rw [if_pos (by omega), gd_pos (by rw [this]; simp; omega), gd_pos (by omega), iota_succ]; rfl
  · show level_forest_B2 s (level_forest_L2 s k) _ _ = _
    unfold level_forest_B2 level_forest_k3
    rw [if_neg (by omega)]
    refine for0 s.readings.length (fun i => (treeL s i, firsts s i)) (fun k l i => level_forest_L1 s k i l.1 l.2) _ (s0 := ([], iota s.points.toNat)) rfl (fun k i hi => ?_) (fun k => ?_) (by omega)
    · show level_forest_B1 s (level_forest_L1 s k) (i : Int) (treeL s i) (firsts s i) = _
      have hF := firsts_ok hs i (by omega)
      have hl := hF.len
      have hr := gr_ok hs hi
      have ht := treeL_len s i
      unfold level_forest_B1 level_forest_k2
      rw [if_pos (by omega), ix_nat (gr_at hi), bnd_eq (join_eq (by omega) (by omega) (by omega))]
      simp only [treeL, firsts]
      by_cases he : gi (firsts s i) (gr s.readings i).from_.toNat = gi (firsts s i) (gr s.readings i).to_.toNat
      · rw [if_neg (by simp [he]), gd_pos (by omega), if_pos he, List.append_nil]; rfl
      · rw [if_pos (by simp [he]), gd_pos (by simp; omega), gd_pos (by omega), if_neg he]; rfl
    · show level_forest_B1 s (level_forest_L1 s k) _ _ _ = _
      unfold level_forest_B1
      rw [if_neg (by omega)]; rfl
/-- What is kept while points are told smaller ones. -/
structure Pre (s : Survey) (j : Nat) (f : List Int) : Prop where
  len : f.length = s.points.toNat
  le : ∀ i, i < f.length → 0 ≤ gi f i ∧ gi f i ≤ i
  con : ∀ i, i < f.length → Con s j (gi f i) (i : Int)
def tot : List Int → Nat
  | [] => 0
  | x :: r => x.toNat + tot r
theorem tot_set : ∀ {l : List Int} {i : Nat} {x : Int}, i < l.length → tot (l.set i x) + (gi l i).toNat = tot l + x.toNat
  | [], i, x, h => by simp at h
  | y :: r, 0, x, h => by simp [tot, gi]; omega
  | y :: r, i + 1, x, h => by
    have := tot_set (l := r) (i := i) (x := x) (by simpa using h)
    have e : gi (y :: r) (i + 1) = gi r i := by simp [gi]
    simp only [List.set_cons_succ, tot, e]; omega
theorem tot_le {B : Nat} : ∀ {l : List Int}, (∀ x ∈ l, x.toNat ≤ B) → tot l ≤ B * l.length
  | [], _ => Nat.le_refl _
  | x :: r, h => by
    have := tot_le (l := r) (fun y hy => h y (List.mem_cons_of_mem _ hy))
    have := h x (List.mem_cons_self ..)
    simp only [tot, List.length_cons, Nat.mul_succ]; omega
/-- One step: two points are told the smaller number. -/
def step (f : List Int) (a b : Nat) : List Int := (f.set a (min (gi f a) (gi f b))).set b (min (gi f a) (gi f b))
theorem step_len (f : List Int) (a b : Nat) : (step f a b).length = f.length := by unfold step; simp
theorem step_gi {f : List Int} {a b : Nat} (ha : a < f.length) (hb : b < f.length) (i : Nat) : gi (step f a b) i = if i = a ∨ i = b then min (gi f a) (gi f b) else gi f i := by
  unfold step
  rw [gi_set, gi_set]
  simp only [List.length_set]
  by_cases h1 : b = i
  · subst h1; rw [if_pos ⟨rfl, hb⟩, if_pos (.inr rfl)]
  · rw [if_neg (fun h => h1 h.1)]
    by_cases h2 : a = i
    · subst h2; rw [if_pos ⟨rfl, ha⟩, if_pos (.inl rfl)]
    · rw [if_neg (fun h => h2 h.1), if_neg (by omega)]
theorem step_pre {s : Survey} (hs : SvOk s) {j : Nat} {f : List Int} (h : Pre s j f) {i : Nat} (hi : i < j) (hi2 : i < s.readings.length) (hne : gi f (gr s.readings i).from_.toNat ≠ gi f (gr s.readings i).to_.toNat) :
    Pre s j (step f (gr s.readings i).from_.toNat (gr s.readings i).to_.toNat) ∧ tot (step f (gr s.readings i).from_.toNat (gr s.readings i).to_.toNat) < tot f := by
  have hr := gr_ok hs hi2
  have hl := h.len
  have ha : (gr s.readings i).from_.toNat < f.length := by omega
  have hb : (gr s.readings i).to_.toNat < f.length := by omega
  have hab : (gr s.readings i).from_.toNat ≠ (gr s.readings i).to_.toNat := by omega
  have ca := h.con _ ha
  have cb := h.con _ hb
  rw [show (((gr s.readings i).from_.toNat : Nat) : Int) = (gr s.readings i).from_ by omega] at ca
  rw [show (((gr s.readings i).to_.toNat : Nat) : Int) = (gr s.readings i).to_ by omega] at cb
  have ce : Con s j (gr s.readings i).from_ (gr s.readings i).to_ := .edge hi hi2
  have la := h.le _ ha
  have lb := h.le _ hb
  constructor
  · refine ⟨by rw [step_len, hl], fun q hq => ?_, fun q hq => ?_⟩
    · rw [step_len] at hq
      have := h.le q hq
      rw [step_gi ha hb]
      split
      · rename_i e
        rcases e with e | e <;> subst e <;> omega
      · exact this
    · rw [step_len] at hq
      rw [step_gi ha hb]
      split
      · rename_i e
        have cm : Con s j (min (gi f (gr s.readings i).from_.toNat) (gi f (gr s.readings i).to_.toNat)) (gr s.readings i).from_ := by
          rcases Int.le_total (gi f (gr s.readings i).from_.toNat) (gi f (gr s.readings i).to_.toNat) with h | h
          · rw [show min (gi f (gr s.readings i).from_.toNat) (gi f (gr s.readings i).to_.toNat) = gi f (gr s.readings i).from_.toNat by omega]; exact ca
          · rw [show min (gi f (gr s.readings i).from_.toNat) (gi f (gr s.readings i).to_.toNat) = gi f (gr s.readings i).to_.toNat by omega]; exact cb.trans ce.symm
        rcases e with e | e
        · rw [e, show (((gr s.readings i).from_.toNat : Nat) : Int) = (gr s.readings i).from_ by omega]; exact cm
        · rw [e, show (((gr s.readings i).to_.toNat : Nat) : Int) = (gr s.readings i).to_ by omega]; exact cm.trans ce
      · exact h.con q hq
  · have t1 := tot_set (l := f) (x := min (gi f (gr s.readings i).from_.toNat) (gi f (gr s.readings i).to_.toNat)) ha
    have t2 := tot_set (l := f.set (gr s.readings i).from_.toNat (min (gi f (gr s.readings i).from_.toNat) (gi f (gr s.readings i).to_.toNat))) (x := min (gi f (gr s.readings i).from_.toNat) (gi f (gr s.readings i).to_.toNat)) (i := (gr s.readings i).to_.toNat) (by rw [List.length_set]; exact hb)
    rw [gi_set, if_neg (fun h => hab h.1)] at t2
    unfold step
    omega
/-- One round of the document's search. -/
theorem round_eq {s : Survey} (hs : SvOk s) {j : Nat} (hj : j ≤ s.readings.length) (rec2 : Bool → List Int → Option (List Int)) : ∀ (d i k : Nat) (f : List Int) (b : Bool), j = i + d → d < k → Pre s j f → (b = false → ∀ q, q < i → gi f (gr s.readings q).from_.toNat = gi f (gr s.readings q).to_.toNat) →
    ∃ f' b', ref01_roots_L1 s (j : Int) rec2 k b (i : Int) f = rec2 b' f' ∧ Pre s j f' ∧ tot f' ≤ tot f ∧ (b = true → b' = true) ∧ (b = false → b' = true → tot f' < tot f) ∧ (b' = false → Roots s j f')
  | 0, i, k + 1, f, b, hd, hk, hP, hb => by
    have h8 := hs.len
    refine ⟨f, b, ?_, hP, Nat.le_refl _, id, (fun h1 h2 => by rw [h1] at h2; cases h2), fun h => ⟨hP.len, hP.le, hP.con, fun q hq hq2 => hb h q (by omega)⟩⟩
    show ref01_roots_B1 s (j : Int) rec2 (ref01_roots_L1 s (j : Int) rec2 k) b _ f = _
    unfold ref01_roots_B1
    rw [if_neg (by omega)]
  | d + 1, i, k + 1, f, b, hd, hk, hP, hb => by
    have h8 := hs.len
    have hi2 : i < s.readings.length := by omega
    have hr := gr_ok hs hi2
    have hl := hP.len
    have hA : f[(gr s.readings i).from_.toNat]? = some (gi f (gr s.readings i).from_.toNat) := gi_at (by omega)
    have hB : f[(gr s.readings i).to_.toNat]? = some (gi f (gr s.readings i).to_.toNat) := gi_at (by omega)
    have e : ref01_roots_L1 s (j : Int) rec2 (k + 1) b (i : Int) f = ref01_roots_B1 s (j : Int) rec2 (ref01_roots_L1 s (j : Int) rec2 k) b (i : Int) f := rfl
    rw [e]
    unfold ref01_roots_B1 ref01_roots_k2
    rw [if_pos (by omega), ix_nat (gr_at hi2), ix_nat (gr_at hi2), ix_eq hr.1.1 hA, ix_eq hr.2.1.1 hB]
    by_cases he : gi f (gr s.readings i).from_.toNat = gi f (gr s.readings i).to_.toNat
    · rw [if_pos he, gd_pos (by omega)]
      exact round_eq hs hj rec2 d (i + 1) k f b (by omega) (by omega) hP (fun h q hq => by
        by_cases e : q = i
        · subst e; exact he
        · exact hb h q (by omega))
    · rw [if_neg he, ix_eq hr.1.1 hA, ix_eq hr.2.1.1 hB, ix_eq hr.1.1 hA]
      have ⟨s1, s2⟩ := step_pre hs hP (i := i) (by omega) hi2 he
      have hX : (f.set (gr s.readings i).from_.toNat (min (gi f (gr s.readings i).from_.toNat) (gi f (gr s.readings i).to_.toNat)))[(gr s.readings i).to_.toNat]? = some (gi (f.set (gr s.readings i).from_.toNat (min (gi f (gr s.readings i).from_.toNat) (gi f (gr s.readings i).to_.toNat))) (gr s.readings i).to_.toNat) := gi_at (by rw [List.length_set]; omega)
      rw [ix_eq hr.2.1.1 hX, gd_pos (by omega)]
      obtain ⟨f', b', q1, q2, q3, q4, q5, q6⟩ := round_eq hs hj rec2 d (i + 1) k (step f (gr s.readings i).from_.toNat (gr s.readings i).to_.toNat) true (by omega) (by omega) s1 (fun h => by cases h)
      exact ⟨f', b', q1, q2, by omega, fun _ => q4 rfl, fun _ _ => by omega, q6⟩
theorem rounds_eq {s : Survey} (hs : SvOk s) {j : Nat} (hj : j ≤ s.readings.length) : ∀ (q k : Nat) (f : List Int), tot f < q → q < k → Pre s j f → ref01_roots_L2 s (j : Int) k true f = some (firsts s j)
  | 0, k, f, hq, _, _ => by omega
  | q + 1, k + 1, f, hq, hk, hP => by
    have e : ref01_roots_L2 s (j : Int) (k + 1) true f = ref01_roots_B2 s (j : Int) (ref01_roots_L2 s (j : Int) k) true f := rfl
    rw [e]
    unfold ref01_roots_B2
    rw [if_pos rfl]
    obtain ⟨f', b', q1, q2, q3, q4, q5, q6⟩ := round_eq hs hj (ref01_roots_L2 s (j : Int) k) j 0 FU f false (by omega) (by have := FU_pos; have := hs.len; omega) hP (fun _ q hq => by omega)
    have q1' : ref01_roots_L1 s (j : Int) (ref01_roots_L2 s (j : Int) k) FU false 0 f = ref01_roots_L2 s (j : Int) k b' f' := q1
    rw [q1']
    cases b' with
    | true => exact rounds_eq hs hj q k f' (by have := q5 rfl rfl; omega) (by omega) q2
    | false =>
      cases k with
      | zero => omega
      | succ k =>
        show ref01_roots_B2 s (j : Int) (ref01_roots_L2 s (j : Int) k) false f' = _
        unfold ref01_roots_B2 ref01_roots_k1
        rw [if_neg (by simp), (q6 rfl).uniq hs (firsts_ok hs j hj)]
theorem roots_eq {s : Survey} (hs : SvOk s) {j : Nat} (hj : j ≤ s.readings.length) : ref01_roots s (j : Int) = some (firsts s j) := by
  have hp := hs.p1
  have hp5 := hs.p5
  have h8 := hs.len
  unfold ref01_roots
  rw [gd_pos (by omega)]
  refine for0 s.points.toNat (fun i => iota i ++ List.replicate (s.points.toNat - i) 0) (fun k l i => ref01_roots_L3 s (j : Int) k i l) _ (by simp [iota]) (fun k i hi => ?_) (fun k => ?_) (by omega)
  · show ref01_roots_B3 s (j : Int) (ref01_roots_L3 s (j : Int) k) _ _ = _
    have hil := iota_len i
    have hx : (iota i ++ List.replicate (s.points.toNat - i) 0)[i]? = some 0 := by
      rw [List.getElem?_append_right (by omega), hil, Nat.sub_self, List.getElem?_replicate, if_pos (by omega)]
    have hn : iota (i + 1) ++ List.replicate (s.points.toNat - (i + 1)) 0 = (iota i ++ List.replicate (s.points.toNat - i) 0).set i (i : Int) := by
      rw [List.set_append_right _ _ (by omega), hil, Nat.sub_self, show s.points.toNat - i = (s.points.toNat - (i + 1)) + 1 by omega, List.replicate_succ, List.set_cons_zero, iota_succ]; simp
    unfold ref01_roots_B3
    rw [if_pos (by omega), ix_nat hx, gd_pos (by omega), hn]; rfl
  · show ref01_roots_B3 s (j : Int) (ref01_roots_L3 s (j : Int) k) _ _ = _
    unfold ref01_roots_B3 ref01_roots_k3
    rw [if_neg (by omega), Nat.sub_self, List.replicate_zero, List.append_nil]
    have h0 := firsts_ok hs 0 (by omega)
    have hP : Pre s j (iota s.points.toNat) := ⟨h0.len, h0.le, fun i hi => (h0.con i hi).mono (Nat.zero_le _)⟩
    have ht : tot (iota s.points.toNat) ≤ 5 * (iota s.points.toNat).length := tot_le fun x hx => by
      obtain ⟨q, hq⟩ := List.getElem?_of_mem hx
      have := hP.le q (lt_of_at hq)
      have := hP.len
      have := lt_of_at hq
      rw [gi_of hq] at *
      omega
    rw [iota_len] at ht
    exact rounds_eq hs hj 100 FU _ (by omega) (by have := FU_pos; omega) hP
end Go.D1

set_option linter.unusedVariables false
set_option linter.unusedSimpArgs false
namespace Go.D1
open Go.Tb
def nodesOf (n : Nat) (p : Int → Bool) : List Int := (iota n).filter p
theorem nodesOf_len (n : Nat) (p : Int → Bool) : (nodesOf n p).length ≤ n := by
  have := List.length_filter_le p (iota n)
  rw [iota_len] at this
  exact this
theorem nodesOf_succ (n : Nat) (p : Int → Bool) : nodesOf (n + 1) p = nodesOf n p ++ (if p (n : Int) = true then [(n : Int)] else []) := by
  unfold nodesOf
  rw [iota_succ, List.filter_append]
  congr 1
  by_cases h : p (n : Int) = true
  · rw [if_pos h, List.filter_cons, if_pos h]; rfl
  · rw [if_neg h, List.filter_cons, if_neg h]; rfl
/-- The points of a part. -/
def partOf (f : List Int) (i : Int) : List Int := nodesOf f.length fun k => decide (gi f k.toNat = i)
def isRoot (f : List Int) (i : Int) : Bool := decide (gi f i.toNat = i)
def partsL (f : List Int) (j : Nat) : List (List Int) := (nodesOf j (isRoot f)).map (partOf f)
theorem partsL_succ (f : List Int) (j : Nat) : partsL f (j + 1) = partsL f j ++ (if gi f j = (j : Int) then [partOf f (j : Int)] else []) := by
  unfold partsL
  rw [nodesOf_succ, List.map_append]
  congr 1
  by_cases h : gi f j = (j : Int)
  · rw [if_pos h, if_pos (show isRoot f (j : Int) = true from decide_eq_true h)]; rfl
  · rw [if_neg h, if_neg (by unfold isRoot; simpa using h)]; rfl
theorem partsL_len (f : List Int) (j : Nat) : (partsL f j).length ≤ j := by
  unfold partsL
  rw [List.length_map]
  exact nodesOf_len _ _
def rootsOf (s : Survey) : List Int := firsts s s.readings.length
theorem rootsOf_ok {s : Survey} (hs : SvOk s) : Roots s s.readings.length (rootsOf s) := firsts_ok hs _ (Nat.le_refl _)
def partsR (s : Survey) : List (List Int) := partsL (rootsOf s) s.points.toNat
theorem parts_eq {s : Survey} (hs : SvOk s) : level_parts s = some (partsR s) := by
  have hp := hs.p1
  have hp5 := hs.p5
  have hf := rootsOf_ok hs
  have hfl := hf.len
  unfold level_parts
  rw [bnd_eq (forest_eq hs)]
  show level_parts_L2 (rootsOf s, _) FU 0 [] = _
  refine for0 s.points.toNat (partsL (rootsOf s)) (fun k l i => level_parts_L2 (rootsOf s, treeL s s.readings.length) k i l) _ rfl (fun k i hi => ?_) (fun k => ?_) (by omega)
  · show level_parts_B2 (rootsOf s, treeL s s.readings.length) (level_parts_L2 (rootsOf s, treeL s s.readings.length) k) _ _ = _
    have hx : (rootsOf s)[i]? = some (gi (rootsOf s) i) := gi_at (by omega)
    have hpl := partsL_len (rootsOf s) i
    unfold level_parts_B2 level_parts_k2
    rw [if_pos (by simp only; omega), ix_nat hx, partsL_succ]
    by_cases he : gi (rootsOf s) i = (i : Int)
    · rw [if_pos he, if_pos he]
      refine for0 (rootsOf s).length (fun q => nodesOf q fun k => decide (gi (rootsOf s) k.toNat = (i : Int))) (fun k' l q => level_parts_L1 (rootsOf s, treeL s s.readings.length) (i : Int) (partsL (rootsOf s) i) (level_parts_L2 (rootsOf s, treeL s s.readings.length) k) k' q l) _ rfl (fun k' q hq => ?_) (fun k' => ?_) (by omega)
      · have hll := nodesOf_len q fun k => decide (gi (rootsOf s) k.toNat = (i : Int))
        show level_parts_B1 _ _ _ _ (level_parts_L1 _ _ _ _ k') _ _ = _
        unfold level_parts_B1 level_parts_k4
        rw [if_pos (by simp only; omega), ix_nat (gi_at hq), nodesOf_succ]
        by_cases h2 : gi (rootsOf s) q = (i : Int)
        · rw [if_pos h2, gd_pos (by simp; omega), gd_pos (by omega), if_pos (show decide (gi (rootsOf s) ((q : Int)).toNat = (i : Int)) = true from decide_eq_true h2)]; rfl
        · rw [if_neg h2, gd_pos (by omega), if_neg (show ¬ decide (gi (rootsOf s) ((q : Int)).toNat = (i : Int)) = true by simpa using h2), List.append_nil]; rfl
      · show level_parts_B1 _ _ _ _ (level_parts_L1 _ _ _ _ k') _ _ = _
        unfold level_parts_B1 level_parts_k3 level_parts_k2
        rw [if_neg (by simp only; omega), gd_pos (by omega), gd_pos (by omega)]; rfl
    · rw [if_neg he, if_neg he, gd_pos (by omega), List.append_nil]; rfl
  · show level_parts_B2 (rootsOf s, treeL s s.readings.length) (level_parts_L2 (rootsOf s, treeL s s.readings.length) k) _ _ = _
    unfold level_parts_B2
    rw [if_neg (by simp only; omega)]; rfl
theorem whole_eq {s : Survey} (hs : SvOk s) : ref01_whole s = some (rootsOf s) := by
  unfold ref01_whole
  rw [bnd_eq (roots_eq hs (Nat.le_refl _))]; rfl
theorem Parts_eq (s : Survey) : level_Parts s = some (if validate s = 0 then (partsR s, 0) else ([], validate s)) := by
  unfold level_Parts
  rw [bnd_eq (Validate_eq s)]
  by_cases hv : validate s = 0
  · rw [if_pos hv, if_pos hv, bnd_eq (parts_eq (val0.1 hv))]
  · rw [if_neg hv, if_neg hv]
end Go.D1

set_option linter.unusedVariables false
set_option linter.unusedSimpArgs false
namespace Go.D1
open Go.Tb
/-- Numbers whose negative is a number, too. -/
def Sm (x : Int) : Prop := -9223372036854775807 ≤ x ∧ x ≤ 9223372036854775807
theorem Sm.inR {x : Int} (h : Sm x) : InR x := by unfold Sm at h; omega
theorem Sm.neg {x : Int} (h : Sm x) : Sm (-x) := by unfold Sm at *; omega
theorem sm_abs {x : Int} : Sm x ↔ x.natAbs ≤ 9223372036854775807 := by unfold Sm; omega
theorem gcd_tmod (a b : Int) : Int.gcd b (Int.tmod a b) = Int.gcd a b := by
  unfold Int.gcd
  rw [Int.natAbs_tmod, Nat.gcd_comm, ← Nat.gcd_rec, Nat.gcd_comm]
theorem sm_tmod {a b : Int} (h : Sm a) : Sm (Int.tmod a b) := by
  rw [sm_abs] at h ⊢
  rw [Int.natAbs_tmod]
  exact Nat.le_trans (Nat.mod_le _ _) h
theorem gcd_loop : ∀ (q k : Nat) (a b : Int), b.natAbs ≤ q → q < k → Sm a → Sm b → level_gcd_L1 k a b = some (Int.gcd a b : Int)
  | q, k + 1, a, b, hq, hk, ha, hb => by
    show level_gcd_B1 (level_gcd_L1 k) a b = _
    unfold level_gcd_B1 level_gcd_k1
    by_cases h0 : b = 0
    · subst h0
      rw [if_pos rfl, gd_pos ha.neg.inR, Int.gcd_zero_right]
      congr 1; omega
    · have hlt : (Int.tmod a b).natAbs < b.natAbs := by
        rw [Int.natAbs_tmod]
        exact Nat.mod_lt _ (by omega)
      rw [if_neg h0, gd_pos ⟨h0, (sm_tmod ha).inR⟩]
      cases q with
      | zero => omega
      | succ q => rw [gcd_loop q k b (Int.tmod a b) (by omega) (by omega) hb (sm_tmod ha), gcd_tmod]
theorem gcd_eq {a b : Int} (ha : Sm a) (hb : Sm b) : level_gcd a b = some (Int.gcd a b : Int) :=
  gcd_loop b.natAbs FU a b (Nat.le_refl _) (by have := FU_pos; have := sm_abs.1 hb; omega) ha hb
/-- n / d in lowest terms. -/
def red (n d : Int) : Rat := if d < 0 then ⟨Int.tdiv n (-(Int.gcd n d : Int)), Int.tdiv d (-(Int.gcd n d : Int))⟩ else ⟨Int.tdiv n (Int.gcd n d : Int), Int.tdiv d (Int.gcd n d : Int)⟩
theorem gcd_pos_ {n d : Int} (hd : d ≠ 0) : 0 < Int.gcd n d := Int.gcd_pos_of_ne_zero_right n hd
theorem red_parts {n d : Int} (hd : d ≠ 0) : ∃ g : Int, g ≠ 0 ∧ g.natAbs = Int.gcd n d ∧ (g < 0 ↔ d < 0) ∧ n = (red n d).num * g ∧ d = (red n d).den * g := by
  have hg := gcd_pos_ (n := n) hd
  have h1 : (Int.gcd n d : Int) ∣ n := Int.gcd_dvd_left ..
  have h2 : (Int.gcd n d : Int) ∣ d := Int.gcd_dvd_right ..
  unfold red
  by_cases hlt : d < 0
  · rw [if_pos hlt]
    refine ⟨-(Int.gcd n d : Int), by omega, by omega, by omega, ?_, ?_⟩
    · exact (Int.tdiv_mul_cancel (Int.neg_dvd.2 h1)).symm
    · exact (Int.tdiv_mul_cancel (Int.neg_dvd.2 h2)).symm
  · rw [if_neg hlt]
    refine ⟨(Int.gcd n d : Int), by omega, by omega, by omega, ?_, ?_⟩
    · exact (Int.tdiv_mul_cancel h1).symm
    · exact (Int.tdiv_mul_cancel h2).symm
/-- In lowest terms. -/
structure Low (x : Rat) : Prop where
  pos : 0 < x.den
  cop : Int.gcd x.num x.den = 1
theorem red_low {n d : Int} (hd : d ≠ 0) : Low (red n d) ∧ (red n d).num * d = n * (red n d).den := by
  obtain ⟨g, g0, g1, g2, g3, g4⟩ := red_parts (n := n) hd
  generalize red n d = x at *
  refine ⟨⟨?_, ?_⟩, ?_⟩
  · rcases Int.lt_trichotomy x.den 0 with h | h | h
    · exfalso
      by_cases hg : g < 0
      · have := Int.mul_pos_of_neg_of_neg h hg
        have := g2.1 hg
        omega
      · have := Int.mul_neg_of_neg_of_pos h (show 0 < g by omega)
        exact hg (g2.2 (by omega))
    · exfalso; rw [h, Int.zero_mul] at g4; exact hd g4
    · exact h
  · have h := g1
    rw [g3, g4, Int.gcd_mul_right] at h
    have hp : 0 < g.natAbs := by omega
    exact (Nat.eq_of_mul_eq_mul_right hp (by rw [Nat.one_mul]; exact h)).symm
  · calc x.num * d = x.num * (x.den * g) := by rw [← g4]
      _ = x.num * g * x.den := by rw [Int.mul_assoc, Int.mul_comm x.den g]
      _ = n * x.den := by rw [← g3]
theorem red_sm {n d : Int} (hd : d ≠ 0) (hn : Sm n) (hd' : Sm d) : Sm (red n d).num ∧ Sm (red n d).den := by
  obtain ⟨g, g0, g1, g2, g3, g4⟩ := red_parts (n := n) hd
  rw [sm_abs] at hn hd'
  rw [sm_abs, sm_abs]
  have hp : 1 ≤ g.natAbs := by omega
  have e1 : n.natAbs = (red n d).num.natAbs * g.natAbs := by rw [← Int.natAbs_mul, ← g3]
  have e2 : d.natAbs = (red n d).den.natAbs * g.natAbs := by rw [← Int.natAbs_mul, ← g4]
  have := Nat.le_mul_of_pos_right (red n d).num.natAbs hp
  have := Nat.le_mul_of_pos_right (red n d).den.natAbs hp
  omega
theorem cop_dvd {a b c : Int} (h : Int.gcd b a = 1) (hd : a ∣ b * c) : a ∣ c := by
  rw [← Int.natAbs_dvd_natAbs] at hd ⊢
  rw [Int.natAbs_mul] at hd
  have hc : Nat.gcd a.natAbs b.natAbs = 1 := by rw [Nat.gcd_comm]; exact h
  exact Nat.Coprime.dvd_of_dvd_mul_left hc hd
/-- Two fractions in lowest terms with the same value are the same. -/
theorem low_eq {x y : Rat} (hx : Low x) (hy : Low y) (h : x.num * y.den = y.num * x.den) : x = y := by
  have h1 : x.den ∣ y.den := by
    have : x.den ∣ x.num * y.den := by rw [h]; exact Int.dvd_mul_left ..
    exact cop_dvd hx.cop this
  have h2 : y.den ∣ x.den := by
    have : y.den ∣ y.num * x.den := by rw [← h]; exact Int.dvd_mul_left ..
    exact cop_dvd hy.cop this
  have hd : x.den = y.den := Int.le_antisymm (Int.le_of_dvd hy.pos h1) (Int.le_of_dvd hx.pos h2)
  have hn : x.num = y.num := by
    rw [hd] at h
    exact Int.eq_of_mul_eq_mul_right (by have := hy.pos; omega) h
  cases x; cases y
  simp only at hd hn
  rw [hd, hn]
theorem ratio_eq {n d : Int} (hd : d ≠ 0) (hn : Sm n) (hd' : Sm d) : level_ratio n d = some (red n d) := by
  have hg := gcd_pos_ (n := n) hd
  have ⟨s1, s2⟩ := red_sm hd hn hd'
  have hgs : Sm (Int.gcd n d : Int) := by
    rw [sm_abs]
    have := Nat.le_of_dvd (show 0 < d.natAbs by omega) (Nat.gcd_dvd_right n.natAbs d.natAbs)
    have h3 := sm_abs.1 hd'
    show (Nat.gcd n.natAbs d.natAbs) ≤ _
    omega
  unfold level_ratio level_ratio_k1
  rw [bnd_eq (gcd_eq hn hd')]
  unfold red at s1 s2 ⊢
  by_cases hlt : d < 0
  · rw [if_pos hlt] at s1 s2 ⊢
    rw [if_pos hlt, gd_pos hgs.neg.inR, gd_pos ⟨by omega, s1.inR⟩, gd_pos ⟨by omega, s2.inR⟩]
  · rw [if_neg hlt] at s1 s2 ⊢
    rw [if_neg hlt, gd_pos ⟨by omega, s1.inR⟩, gd_pos ⟨by omega, s2.inR⟩]
/-- x is n / d. -/
def Is (x : Rat) (n d : Int) : Prop := Low x ∧ x.num * d = n * x.den
theorem Is.red {n d : Int} (hd : d ≠ 0) : Is (red n d) n d := red_low hd
theorem Is.uniq {x y : Rat} {n d : Int} (hd : d ≠ 0) (hx : Is x n d) (hy : Is y n d) : x = y := by
  refine low_eq hx.1 hy.1 ?_
  have h1 := hx.2
  have h2 := hy.2
  have : (x.num * y.den - y.num * x.den) * d = 0 := by grind
  rcases Int.mul_eq_zero.1 this with h | h
  · omega
  · exact absurd h hd
theorem Low.den_ne {x : Rat} (h : Low x) : x.den ≠ 0 := by have := h.pos; omega
theorem sub_eq {x y : Rat} (hx : Low x) (hy : Low y) (h1 : Sm (x.num * y.den)) (h2 : Sm (y.num * x.den)) (h3 : Sm (x.num * y.den - y.num * x.den)) (h4 : Sm (x.den * y.den)) : level_sub x y = some (red (x.num * y.den - y.num * x.den) (x.den * y.den)) := by
  have hd : x.den * y.den ≠ 0 := Int.mul_ne_zero hx.den_ne hy.den_ne
  unfold level_sub
  rw [gd_pos h1.inR, gd_pos h2.inR, gd_pos h3.inR, gd_pos h4.inR, bnd_eq (ratio_eq hd h3 h4)]
theorem mul_parts {a b c d : Int} (hb : b ≠ 0) (hd : d ≠ 0) (hab : Int.gcd a b = 1) (hcd : Int.gcd c d = 1) : Low ⟨(D1.red a d).num * (D1.red c b).num, (D1.red a d).den * (D1.red c b).den⟩ := by
  obtain ⟨⟨p1, c1⟩, _⟩ := red_low (n := a) hd
  obtain ⟨⟨p2, c2⟩, _⟩ := red_low (n := c) hb
  obtain ⟨g, g0, _, _, g3, g4⟩ := red_parts (n := a) hd
  obtain ⟨k, k0, _, _, k3, k4⟩ := red_parts (n := c) hb
  have n1 : Int.gcd (D1.red a d).num (D1.red c b).den = 1 := by
    have q1 : (Int.gcd (D1.red a d).num (D1.red c b).den : Int) ∣ a := Int.dvd_trans (Int.gcd_dvd_left ..) ⟨g, g3⟩
    have q2 : (Int.gcd (D1.red a d).num (D1.red c b).den : Int) ∣ b := Int.dvd_trans (Int.gcd_dvd_right ..) ⟨k, k4⟩
    have := Int.dvd_coe_gcd q1 q2
    rw [hab] at this
    exact Nat.dvd_one.1 (Int.natCast_dvd_natCast.1 this)
  have n2 : Int.gcd (D1.red c b).num (D1.red a d).den = 1 := by
    have q1 : (Int.gcd (D1.red c b).num (D1.red a d).den : Int) ∣ c := Int.dvd_trans (Int.gcd_dvd_left ..) ⟨k, k3⟩
    have q2 : (Int.gcd (D1.red c b).num (D1.red a d).den : Int) ∣ d := Int.dvd_trans (Int.gcd_dvd_right ..) ⟨g, g4⟩
    have := Int.dvd_coe_gcd q1 q2
    rw [hcd] at this
    exact Nat.dvd_one.1 (Int.natCast_dvd_natCast.1 this)
  refine ⟨Int.mul_pos p1 p2, ?_⟩
  unfold Int.gcd at *
  simp only [Int.natAbs_mul]
  exact Nat.Coprime.mul_left (Nat.Coprime.mul_right c1 n1) (Nat.Coprime.mul_right n2 c2)
theorem Is.parts {x : Rat} {n d : Int} (h : Is x n d) (hd : d ≠ 0) : ∃ q : Int, q ≠ 0 ∧ n = x.num * q ∧ d = x.den * q := by
  have h1 : x.den ∣ d := cop_dvd h.1.cop (by rw [h.2]; exact Int.dvd_mul_left ..)
  obtain ⟨q, hq⟩ := h1
  refine ⟨q, fun e => hd (by rw [hq, e, Int.mul_zero]), ?_, hq⟩
  have h2 := h.2
  rw [hq] at h2
  have h3 : x.den * (x.num * q) = x.den * n := by grind
  exact (Int.eq_of_mul_eq_mul_left h.1.den_ne h3).symm
theorem Is.le {x : Rat} {n d : Int} (h : Is x n d) (hd : d ≠ 0) : x.num.natAbs ≤ n.natAbs ∧ x.den.natAbs ≤ d.natAbs := by
  obtain ⟨q, q0, q1, q2⟩ := h.parts hd
  have hp : 1 ≤ q.natAbs := by omega
  rw [q1, q2, Int.natAbs_mul, Int.natAbs_mul]
  exact ⟨Nat.le_mul_of_pos_right _ hp, Nat.le_mul_of_pos_right _ hp⟩
theorem Is.sm {x : Rat} {n d : Int} (h : Is x n d) (hd : d ≠ 0) (hn : Sm n) (hd' : Sm d) : Sm x.num ∧ Sm x.den := by
  have := h.le hd
  rw [sm_abs] at *
  rw [sm_abs]
  omega
theorem Is.red_eq {x : Rat} {n d : Int} (h : Is x n d) (hd : d ≠ 0) : x = D1.red n d := h.uniq hd (.red hd)
theorem sub_is {x y : Rat} (hx : Low x) (hy : Low y) (h1 : Sm (x.num * y.den)) (h2 : Sm (y.num * x.den)) (h3 : Sm (x.num * y.den - y.num * x.den)) (h4 : Sm (x.den * y.den)) : ∃ z, level_sub x y = some z ∧ Is z (x.num * y.den - y.num * x.den) (x.den * y.den) :=
  ⟨_, sub_eq hx hy h1 h2 h3 h4, .red (Int.mul_ne_zero hx.den_ne hy.den_ne)⟩
theorem mul_is {x y : Rat} (hx : Low x) (hy : Low y) (s1 : Sm x.num ∧ Sm x.den) (s2 : Sm y.num ∧ Sm y.den) {N D : Int} (hD : D ≠ 0) (hv : x.num * y.num * D = N * (x.den * y.den)) (hN : Sm N) (hD' : Sm D) : ∃ z, level_mul x y = some z ∧ Is z N D := by
  have hlow := mul_parts (a := x.num) (b := x.den) (c := y.num) (d := y.den) hx.den_ne hy.den_ne hx.cop hy.cop
  obtain ⟨_, e1⟩ := red_low (n := x.num) hy.den_ne
  obtain ⟨_, e2⟩ := red_low (n := y.num) hx.den_ne
  have hz : Is ⟨(D1.red x.num y.den).num * (D1.red y.num x.den).num, (D1.red x.num y.den).den * (D1.red y.num x.den).den⟩ N D := by
    refine ⟨hlow, ?_⟩
    simp only
    have hne : x.den * y.den ≠ 0 := Int.mul_ne_zero hx.den_ne hy.den_ne
    refine Int.eq_of_mul_eq_mul_right hne ?_
    generalize (D1.red x.num y.den).num = p at *
    generalize (D1.red x.num y.den).den = q at *
    generalize (D1.red y.num x.den).num = u at *
    generalize (D1.red y.num x.den).den = v at *
    clear hlow
    have : p * y.den * (u * x.den) = x.num * q * (y.num * v) := by rw [e1, e2]
    grind
  have ⟨z1, z2⟩ := hz.sm hD hN hD'
  refine ⟨_, ?_, hz⟩
  unfold level_mul level_mul_k1
  rw [bnd_eq (ratio_eq hy.den_ne s1.1 s2.2), bnd_eq (ratio_eq hx.den_ne s2.1 s1.2), gd_pos z1.inR, gd_pos z2.inR]
theorem div_is {x y : Rat} (hx : Low x) (hy : Low y) (hy0 : y.num ≠ 0) (s1 : Sm x.num ∧ Sm x.den) (s2 : Sm y.num ∧ Sm y.den) {N D : Int} (hD : D ≠ 0) (hv : x.num * y.den * D = N * (x.den * y.num)) (hN : Sm N) (hD' : Sm D) : ∃ z, level_div x y = some z ∧ Is z N D := by
  obtain ⟨l1, l2⟩ := red_low (n := y.den) hy0
  obtain ⟨z, h1, h2⟩ := mul_is hx l1 s1 (red_sm hy0 s2.2 s2.1) hD (by
    generalize (D1.red y.den y.num).num = p at *
    generalize hq : (D1.red y.den y.num).den = q at *
    have : (x.num * p * D - N * (x.den * q)) * y.num = 0 := by grind
    rcases Int.mul_eq_zero.1 this with h | h
    · omega
    · exact absurd h hy0) hN hD'
  refine ⟨z, ?_, h2⟩
  unfold level_div
  rw [bnd_eq (ratio_eq hy0 s2.2 s2.1), bnd_eq h1]
theorem Ratio_loop {n d : Int} (hd : d ≠ 0) (hn : Sm n) (hd' : Sm d) : ∀ (q k : Nat) (a b : Int), b.natAbs ≤ q → q < k → Sm a → Sm b → Int.gcd a b = Int.gcd n d → ref01_Ratio_L1 n d k a b = some (D1.red n d)
  | q, k + 1, a, b, hq, hk, ha, hb, hg => by
    have hg0 := gcd_pos_ (n := n) hd
    show ref01_Ratio_B1 n d (ref01_Ratio_L1 n d k) a b = _
    unfold ref01_Ratio_B1 ref01_Ratio_k2 ref01_Ratio_k1
    by_cases h0 : b = 0
    · subst h0
      rw [Int.gcd_zero_right] at hg
      have ⟨s1, s2⟩ := red_sm hd hn hd'
      rw [if_pos rfl]
      unfold D1.red at s1 s2 ⊢
      by_cases hlt : d < 0
      · rw [if_pos hlt] at s1 s2 ⊢
        by_cases ha0 : a < 0
        · have e : -(Int.gcd n d : Int) = a := by omega
          rw [e] at s1 s2 ⊢
          rw [if_pos (by simp [hlt, ha0]), gd_pos ⟨by omega, s1.inR⟩, gd_pos ⟨by omega, s2.inR⟩]
        · have e : -(Int.gcd n d : Int) = -a := by omega
          rw [e] at s1 s2 ⊢
          rw [if_neg (by simp [hlt, ha0]), gd_pos ha.neg.inR, gd_pos ⟨by omega, s1.inR⟩, gd_pos ⟨by omega, s2.inR⟩]
      · rw [if_neg hlt] at s1 s2 ⊢
        by_cases ha0 : a < 0
        · have e : (Int.gcd n d : Int) = -a := by omega
          rw [e] at s1 s2 ⊢
          rw [if_neg (by simp [hlt, ha0]), gd_pos ha.neg.inR, gd_pos ⟨by omega, s1.inR⟩, gd_pos ⟨by omega, s2.inR⟩]
        · have e : (Int.gcd n d : Int) = a := by omega
          rw [e] at s1 s2 ⊢
          rw [if_pos (by simp [hlt, ha0]), gd_pos ⟨by omega, s1.inR⟩, gd_pos ⟨by omega, s2.inR⟩]
    · have hlt : (Int.tmod a b).natAbs < b.natAbs := by
        rw [Int.natAbs_tmod]
        exact Nat.mod_lt _ (by omega)
      rw [if_neg h0, gd_pos ⟨h0, (sm_tmod ha).inR⟩]
      cases q with
      | zero => omega
      | succ q => exact Ratio_loop hd hn hd' q k b (Int.tmod a b) (by omega) (by omega) hb (sm_tmod ha) ((gcd_tmod a b).trans hg)
theorem Ratio_eq {n d : Int} (hd : d ≠ 0) (hn : Sm n) (hd' : Sm d) : ref01_Ratio n d = some (D1.red n d) :=
  Ratio_loop hd hn hd' d.natAbs FU n d (Nat.le_refl _) (by have := FU_pos; have := sm_abs.1 hd'; omega) hn hd' rfl
end Go.D1

set_option linter.unusedVariables false
set_option linter.unusedSimpArgs false
namespace Go.D1
open Go.Tb
abbrev Mt := Nat → Nat → Int
def e2 (a : Mt) (c0 c1 : Nat) : Int := a 0 c0 * a 1 c1 - a 0 c1 * a 1 c0
def e3 (a : Mt) (c0 c1 c2 : Nat) : Int := a 0 c0 * (a 1 c1 * a 2 c2 - a 1 c2 * a 2 c1) - a 0 c1 * (a 1 c0 * a 2 c2 - a 1 c2 * a 2 c0) + a 0 c2 * (a 1 c0 * a 2 c1 - a 1 c1 * a 2 c0)
def f3 (a : Mt) (c0 c1 c2 : Nat) : Int := a 1 c0 * (a 2 c1 * a 3 c2 - a 2 c2 * a 3 c1) - a 1 c1 * (a 2 c0 * a 3 c2 - a 2 c2 * a 3 c0) + a 1 c2 * (a 2 c0 * a 3 c1 - a 2 c1 * a 3 c0)
def e4 (a : Mt) (c0 c1 c2 c3 : Nat) : Int := a 0 c0 * f3 a c1 c2 c3 - a 0 c1 * f3 a c0 c2 c3 + a 0 c2 * f3 a c0 c1 c3 - a 0 c3 * f3 a c0 c1 c2
/-- The determinant of the first i rows and columns. -/
def Dm (a : Mt) : Nat → Int
  | 0 => 1
  | 1 => a 0 0
  | 2 => e2 a 0 1
  | 3 => e3 a 0 1 2
  | 4 => e4 a 0 1 2 3
  | _ => 0
/-- The same with column c in place of column k. -/
def Nm (a : Mt) : Nat → Nat → Nat → Int
  | 1, 0, c => a 0 c
  | 2, 0, c => e2 a c 1
  | 2, 1, c => e2 a 0 c
  | 3, 0, c => e3 a c 1 2
  | 3, 1, c => e3 a 0 c 2
  | 3, 2, c => e3 a 0 1 c
  | 4, 0, c => e4 a c 1 2 3
  | 4, 1, c => e4 a 0 c 2 3
  | 4, 2, c => e4 a 0 1 c 3
  | 4, 3, c => e4 a 0 1 2 c
  | _, _, _ => 0
def sumN (f : Nat → Int) : Nat → Int
  | 0 => 0
  | k + 1 => sumN f k + f k
/-- What is left of row j at column c, times the determinant. -/
def mn (a : Mt) (i j c : Nat) : Int := Dm a i * a j c - sumN (fun k => a j k * Nm a i k c) i
theorem mn_zero (a : Mt) (j c : Nat) : mn a 0 j c = a j c := by simp [mn, Dm, sumN]
theorem Dm_succ (a : Mt) {i : Nat} (h : i < 4) : Dm a (i + 1) = mn a i i i := by
  match i, h with
  | 0, _ => simp [mn, Dm, sumN]
  | 1, _ => simp only [mn, Dm, sumN, Nm, e2]; grind
  | 2, _ => simp only [mn, Dm, sumN, Nm, e2, e3]; grind
  | 3, _ => simp only [mn, Dm, sumN, Nm, e3, e4, f3]; grind
theorem Nm_last (a : Mt) {i : Nat} (h : i < 4) (c : Nat) : Nm a (i + 1) i c = mn a i i c := by
  match i, h with
  | 0, _ => simp [mn, Dm, sumN, Nm]
  | 1, _ => simp only [mn, Dm, sumN, Nm, e2]; grind
  | 2, _ => simp only [mn, Dm, sumN, Nm, e2, e3]; grind
  | 3, _ => simp only [mn, Dm, sumN, Nm, e3, e4, f3]; grind
/-- Cramer's rule. -/
theorem cramer (a : Mt) {i j : Nat} (h : i ≤ 4) (hj : j < i) (c : Nat) : mn a i j c = 0 := by
  match i, j, h, hj with
  | 1, 0, _, _ => simp only [mn, Dm, sumN, Nm]; grind
  | 2, 0, _, _ => simp only [mn, Dm, sumN, Nm, e2]; grind
  | 2, 1, _, _ => simp only [mn, Dm, sumN, Nm, e2]; grind
  | 3, 0, _, _ => simp only [mn, Dm, sumN, Nm, e3]; grind
  | 3, 1, _, _ => simp only [mn, Dm, sumN, Nm, e3]; grind
  | 3, 2, _, _ => simp only [mn, Dm, sumN, Nm, e3]; grind
  | 4, 0, _, _ => simp only [mn, Dm, sumN, Nm, e4, f3]; grind
  | 4, 1, _, _ => simp only [mn, Dm, sumN, Nm, e4, f3]; grind
  | 4, 2, _, _ => simp only [mn, Dm, sumN, Nm, e4, f3]; grind
  | 4, 3, _, _ => simp only [mn, Dm, sumN, Nm, e4, f3]; grind
theorem Nm_succ (a : Mt) {i j : Nat} (h : i < 4) (hj : j < i) (c : Nat) : Nm a (i + 1) j c * Dm a i = Nm a i j c * Dm a (i + 1) - Nm a i j i * mn a i i c := by
  match i, j, h, hj with
  | 1, 0, _, _ => simp only [mn, Dm, sumN, Nm, e2]; grind
  | 2, 0, _, _ => simp only [mn, Dm, sumN, Nm, e2, e3]; grind
  | 2, 1, _, _ => simp only [mn, Dm, sumN, Nm, e2, e3]; grind
  | 3, 0, _, _ => rw [← Nm_last a (by omega)]; simp only [Dm, Nm, e3, e4, f3]; grind
  | 3, 1, _, _ => rw [← Nm_last a (by omega)]; simp only [Dm, Nm, e3, e4, f3]; grind
  | 3, 2, _, _ => rw [← Nm_last a (by omega)]; simp only [Dm, Nm, e3, e4, f3]; grind
theorem sumN_congr {f g : Nat → Int} {n : Nat} (h : ∀ k, k < n → f k = g k) : sumN f n = sumN g n := by
  induction n with
  | zero => rfl
  | succ n ih => simp only [sumN]; rw [ih fun k hk => h k (by omega), h n (by omega)]
theorem sumN_mul (f : Nat → Int) (c : Int) (n : Nat) : sumN f n * c = sumN (fun k => f k * c) n := by
  induction n with
  | zero => simp [sumN]
  | succ n ih => simp only [sumN]; rw [Int.add_mul, ih]
theorem sumN_sub (f g : Nat → Int) (n : Nat) : sumN (fun k => f k - g k) n = sumN f n - sumN g n := by
  induction n with
  | zero => simp [sumN]
  | succ n ih => simp only [sumN]; rw [ih]; omega
theorem sumN_add (f g : Nat → Int) (n : Nat) : sumN (fun k => f k + g k) n = sumN f n + sumN g n := by
  induction n with
  | zero => simp [sumN]
  | succ n ih => simp only [sumN]; rw [ih]; omega
/-- One step of elimination. -/
theorem bareiss (a : Mt) {i : Nat} (h : i < 4) (j c : Nat) : mn a (i + 1) j c * Dm a i = Dm a (i + 1) * mn a i j c - mn a i j i * mn a i i c := by
  have hl := Nm_last a h c
  have hs : sumN (fun k => a j k * Nm a (i + 1) k c) i * Dm a i = sumN (fun k => a j k * Nm a i k c) i * Dm a (i + 1) - sumN (fun k => a j k * Nm a i k i) i * mn a i i c := by
    rw [sumN_mul, sumN_mul, sumN_mul, ← sumN_sub]
    refine sumN_congr fun k hk => ?_
    have := Nm_succ a h hk c
    grind
  have e1 : mn a (i + 1) j c = Dm a (i + 1) * a j c - (sumN (fun k => a j k * Nm a (i + 1) k c) i + a j i * Nm a (i + 1) i c) := rfl
  have e2 : mn a i j c = Dm a i * a j c - sumN (fun k => a j k * Nm a i k c) i := rfl
  have e3 : mn a i j i = Dm a i * a j i - sumN (fun k => a j k * Nm a i k i) i := rfl
  rw [e1, e2, e3, hl]
  generalize sumN (fun k => a j k * Nm a (i + 1) k c) i = S at *
  generalize sumN (fun k => a j k * Nm a i k c) i = S1 at *
  generalize sumN (fun k => a j k * Nm a i k i) i = S2 at *
  generalize mn a i i c = M at *
  generalize Dm a (i + 1) = D1 at *
  generalize Dm a i = D0 at *
  grind
def Ev (a : Mt) (i j c : Nat) : Int := if j < i then (if j + 1 = i then Nm a i j c else Dm a (j + 1) * Nm a i j c) else mn a i j c
def Fv (a : Mt) (i j : Nat) : Int := if j < i then (if j + 1 = i then Dm a j else Dm a j * Dm a i) else Dm a i
theorem Ev_self (a : Mt) (i c : Nat) : Ev a i i c = mn a i i c := by simp [Ev]
theorem Fv_self (a : Mt) (i : Nat) : Fv a i i = Dm a i := by simp [Fv]
theorem Ev_next (a : Mt) {i : Nat} (h : i < 4) (c : Nat) : Ev a (i + 1) i c = mn a i i c := by simp [Ev, Nm_last a h]
theorem Fv_next (a : Mt) (i : Nat) : Fv a (i + 1) i = Dm a i := by simp [Fv]
theorem EF (a : Mt) {i j : Nat} (h : i < 4) (hj : j ≠ i) (c : Nat) : Ev a (i + 1) j c * (Fv a i j * Dm a (i + 1)) = (Ev a i j c * Dm a (i + 1) - Ev a i j i * mn a i i c) * Fv a (i + 1) j := by
  by_cases h1 : j < i
  · have hn := Nm_succ a h h1 c
    by_cases h2 : j + 1 = i
    · subst h2
      simp only [Ev, Fv, show j < j + 1 + 1 by omega, show j < j + 1 by omega, show ¬ (j + 1 = j + 1 + 1) by omega, if_true, if_false]
      grind
    · simp only [Ev, Fv, show j < i + 1 by omega, h1, h2, show ¬ (j + 1 = i + 1) by omega, if_true, if_false]
      generalize Nm a (i + 1) j c = x at *
      generalize Nm a i j c = y at *
      generalize Nm a i j i = z at *
      generalize mn a i i c = w at *
      generalize Dm a (i + 1) = D' at *
      generalize Dm a (j + 1) = Dj' at *
      generalize Dm a i = Di at *
      generalize Dm a j = Dj at *
      have e : Dj' * x * (Dj * Di * D') = (x * Di) * (Dj' * Dj * D') := by grind
      rw [e, hn]
      grind
  · have hb := bareiss a h j c
    simp only [Ev, Fv, show ¬ j < i by omega, show ¬ j < i + 1 by omega, if_false]
    rw [← Int.mul_assoc, hb]
    grind
end Go.D1

set_option linter.unusedVariables false
set_option linter.unusedSimpArgs false
namespace Go.D1
open Go.Tb
/-- A table whose elimination is small. -/
structure Sol (n : Nat) (a : Mt) (d : Nat → Nat) : Prop where
  n4 : n ≤ 4
  pos : ∀ i, i ≤ n → 0 < Dm a i
  le : ∀ i, i < n → (Dm a (i + 1)).natAbs ≤ d i * (Dm a i).natAbs
  d1 : ∀ i, i < n → 1 ≤ d i ∧ d i ≤ 24
  sum : n = 4 → d 0 + d 1 + d 2 + d 3 ≤ 48
  N1 : ∀ i k c, k < i → i ≤ c → c < n → (Nm a i k c).natAbs ≤ (Dm a i).natAbs
  Nb : ∀ i k, k < i → i ≤ n → (Nm a i k n).natAbs ≤ 4000 * (Dm a i).natAbs
  M1 : ∀ i j c, i ≤ j → i ≤ c → j < n → c < n → (mn a i j c).natAbs ≤ d j * (Dm a i).natAbs
  Mb : ∀ i j, i ≤ j → j < n → (mn a i j n).natAbs ≤ 4000 * d j * (Dm a i).natAbs
/-- The guards of one step. -/
structure Gd (P Pi Mi Q D' Di : Int) : Prop where
  s : (P.natAbs * (Q.natAbs * D'.natAbs)) + (Pi.natAbs * Mi.natAbs) * Q.natAbs ≤ 9223372036854775807
  q : Q.natAbs * (Q.natAbs * D'.natAbs) ≤ 9223372036854775807
  f : Pi.natAbs * Di.natAbs ≤ 9223372036854775807
theorem na_mul {a b : Int} {A B : Nat} (ha : a.natAbs ≤ A) (hb : b.natAbs ≤ B) : (a * b).natAbs ≤ A * B := by rw [Int.natAbs_mul]; exact Nat.mul_le_mul ha hb
theorem big4 {d0 d1 d2 d3 : Nat} (h0 : 1 ≤ d0 ∧ d0 ≤ 24) (h1 : 1 ≤ d1 ∧ d1 ≤ 24) (h2 : 1 ≤ d2 ∧ d2 ≤ 24) (h : d0 + d1 + d2 + d3 ≤ 48) : d0 ^ 5 * d1 ^ 4 * d2 ^ 3 * d3 ≤ 600000000000000 := by
  have key : ∀ x, x < 25 → ∀ y, y < 25 → ∀ z, z < 25 → x ^ 5 * y ^ 4 * z ^ 3 * (48 - x - y - z) ≤ 600000000000000 := by decide +kernel
  exact Nat.le_trans (Nat.mul_le_mul_left _ (show d3 ≤ 48 - d0 - d1 - d2 by omega)) (key d0 (by omega) d1 (by omega) d2 (by omega))
theorem prod4 {d0 d1 d2 d3 : Nat} (h0 : 1 ≤ d0 ∧ d0 ≤ 24) (h1 : 1 ≤ d1 ∧ d1 ≤ 24) (h2 : 1 ≤ d2 ∧ d2 ≤ 24) (h : d0 + d1 + d2 + d3 ≤ 48) : d0 * d1 * d2 * d3 ≤ 20736 := by
  have key : ∀ x, x < 25 → ∀ y, y < 25 → ∀ z, z < 25 → x * y * z * (48 - x - y - z) ≤ 20736 := by decide +kernel
  exact Nat.le_trans (Nat.mul_le_mul_left _ (show d3 ≤ 48 - d0 - d1 - d2 by omega)) (key d0 (by omega) d1 (by omega) d2 (by omega))
variable {n : Nat} {a : Mt} {d : Nat → Nat}
theorem Sol.Dp (h : Sol n a d) : (Dm a 0).natAbs = 1 ∧ (1 ≤ n → (Dm a 1).natAbs ≤ d 0) ∧ (2 ≤ n → (Dm a 2).natAbs ≤ d 0 * d 1) ∧ (3 ≤ n → (Dm a 3).natAbs ≤ d 0 * d 1 * d 2) ∧ (4 ≤ n → (Dm a 4).natAbs ≤ d 0 * d 1 * d 2 * d 3) := by
  have z : (Dm a 0).natAbs = 1 := rfl
  have s1 : 1 ≤ n → (Dm a 1).natAbs ≤ d 0 := fun hn => by have := h.le 0 (by omega); rw [z, Nat.mul_one] at this; exact this
  have s2 : 2 ≤ n → (Dm a 2).natAbs ≤ d 0 * d 1 := fun hn => by
    rw [Nat.mul_comm]; exact Nat.le_trans (h.le 1 (by omega)) (Nat.mul_le_mul_left _ (s1 (by omega)))
  have s3 : 3 ≤ n → (Dm a 3).natAbs ≤ d 0 * d 1 * d 2 := fun hn => by
    rw [Nat.mul_comm]; exact Nat.le_trans (h.le 2 (by omega)) (Nat.mul_le_mul_left _ (s2 (by omega)))
  have s4 : 4 ≤ n → (Dm a 4).natAbs ≤ d 0 * d 1 * d 2 * d 3 := fun hn => by
    rw [Nat.mul_comm]; exact Nat.le_trans (h.le 3 (by omega)) (Nat.mul_le_mul_left _ (s3 (by omega)))
  exact ⟨z, s1, s2, s3, s4⟩
theorem Sol.Dc (h : Sol n a d) {i : Nat} (hi : i ≤ n) : (Dm a i).natAbs ≤ 24 ^ i := by
  induction i with
  | zero => exact Nat.le_refl 1
  | succ i ih =>
    rw [Nat.pow_succ, Nat.mul_comm]
    exact Nat.le_trans (h.le i (by omega)) (Nat.mul_le_mul (h.d1 i (by omega)).2 (ih (by omega)))
theorem Sol.D20736 (h : Sol n a d) : (Dm a n).natAbs ≤ 20736 := by
  have hn := h.n4
  by_cases h4 : n = 4
  · subst h4
    exact Nat.le_trans (h.Dp.2.2.2.2 (by omega)) (prod4 (h.d1 0 (by omega)) (h.d1 1 (by omega)) (h.d1 2 (by omega)) (h.sum rfl))
  · refine Nat.le_trans (h.Dc (Nat.le_refl _)) ?_
    have : ∀ m, m < 4 → 24 ^ m ≤ 20736 := by decide
    exact this n (by omega)
/-- Any column but the one at hand. -/
theorem Sol.N4 (h : Sol n a d) {i k c : Nat} (hk : k < i) (hi : i ≤ c) (hc : c ≤ n) : (Nm a i k c).natAbs ≤ 4000 * (Dm a i).natAbs := by
  by_cases hc2 : c = n
  · subst hc2; exact h.Nb i k hk hi
  · have := h.N1 i k c hk hi (by omega)
    omega
theorem Sol.M4 (h : Sol n a d) {i j c : Nat} (hj : i ≤ j) (hjn : j < n) (hi : i ≤ c) (hc : c ≤ n) : (mn a i j c).natAbs ≤ 4000 * d j * (Dm a i).natAbs := by
  by_cases hc2 : c = n
  · subst hc2; exact h.Mb i j hj hjn
  · have := h.M1 i j c hj hi hjn (by omega)
    have e : 4000 * d j * (Dm a i).natAbs = 4000 * (d j * (Dm a i).natAbs) := Nat.mul_assoc ..
    omega
theorem gd_of {P Pi Mi Q D' Di : Int} {p pi mi q d' di : Nat} (hP : P.natAbs ≤ p) (hPi : Pi.natAbs ≤ pi) (hMi : Mi.natAbs ≤ mi) (hQ : Q.natAbs ≤ q) (hD' : D'.natAbs ≤ d') (hDi : Di.natAbs ≤ di)
    (h1 : p * (q * d') + (pi * mi) * q ≤ 9223372036854775807) (h2 : q * (q * d') ≤ 9223372036854775807) (h3 : pi * di ≤ 9223372036854775807) : Gd P Pi Mi Q D' Di :=
  ⟨Nat.le_trans (Nat.add_le_add (Nat.mul_le_mul hP (Nat.mul_le_mul hQ hD')) (Nat.mul_le_mul (Nat.mul_le_mul hPi hMi) hQ)) h1,
   Nat.le_trans (Nat.mul_le_mul hQ (Nat.mul_le_mul hQ hD')) h2, Nat.le_trans (Nat.mul_le_mul hPi hDi) h3⟩
theorem Sol.gd (h : Sol n a d) {i j c : Nat} (hi : i < n) (hj : j < n) (hji : j ≠ i) (hc : i ≤ c ∧ c ≤ n) : Gd (Ev a i j c) (Ev a i j i) (mn a i i c) (Fv a i j) (Dm a (i + 1)) (Dm a i) := by
  have hn := h.n4
  have hdi := h.d1 i hi
  have hdj := h.d1 j hj
  have cD := h.Dc (i := i) (by omega)
  have cD' := h.Dc (i := i + 1) (by omega)
  have cDj := h.Dc (i := j) (by omega)
  have hmi : (mn a i i c).natAbs ≤ 4000 * 24 * 24 ^ i := Nat.le_trans (h.M4 (Nat.le_refl _) hi hc.1 hc.2) (Nat.mul_le_mul (Nat.mul_le_mul_left _ hdi.2) cD)
  by_cases h1 : j < i
  · by_cases h2 : j + 1 = i
    · subst h2
      have eE : ∀ c, Ev a (j + 1) j c = mn a j j c := fun c => by simp [Ev, Nm_last a (show j < 4 by omega)]
      have eF : Fv a (j + 1) j = Dm a j := by simp [Fv]
      rw [eE, eE, eF]
      refine gd_of (Nat.le_trans (h.M4 (Nat.le_refl _) hj (by omega) hc.2) (Nat.mul_le_mul (Nat.mul_le_mul_left _ hdj.2) cDj)) (Nat.le_trans (h.M1 j j (j + 1) (by omega) (by omega) hj hi) (Nat.mul_le_mul hdj.2 cDj)) hmi cDj cD' cD ?_ ?_ ?_
      · have : ∀ j, j < 3 → 4000 * 24 * 24 ^ j * (24 ^ j * 24 ^ (j + 1 + 1)) + 24 * 24 ^ j * (4000 * 24 * 24 ^ (j + 1)) * 24 ^ j ≤ 9223372036854775807 := by decide
        exact this j (by omega)
      · have : ∀ j, j < 3 → 24 ^ j * (24 ^ j * 24 ^ (j + 1 + 1)) ≤ 9223372036854775807 := by decide
        exact this j (by omega)
      · have : ∀ j, j < 3 → 24 * 24 ^ j * 24 ^ (j + 1) ≤ 9223372036854775807 := by decide
        exact this j (by omega)
    · have eE : ∀ c, Ev a i j c = Dm a (j + 1) * Nm a i j c := fun c => by simp [Ev, h1, h2]
      have eF : Fv a i j = Dm a j * Dm a i := by simp [Fv, h1, h2]
      rw [eE, eE, eF]
      have cDs := h.Dc (i := j + 1) (by omega)
      have bN := h.N4 h1 hc.1 hc.2
      have bN1 := h.N1 i j i h1 (Nat.le_refl _) hi
      by_cases h3 : i = 3
      · subst h3
        have hn4 : n = 4 := by omega
        subst hn4
        obtain ⟨z0, z1, z2, z3, z4⟩ := h.Dp
        replace z1 := z1 (by omega); replace z2 := z2 (by omega); replace z3 := z3 (by omega); replace z4 := z4 (by omega)
        have g0 := h.d1 0 (by omega)
        have g1 := h.d1 1 (by omega)
        have g2 := h.d1 2 (by omega)
        have g3 := h.d1 3 (by omega)
        have hb := big4 g0 g1 g2 (h.sum rfl)
        have hM : (mn a 3 3 c).natAbs ≤ 4000 * d 3 * (d 0 * d 1 * d 2) := Nat.le_trans (h.M4 (Nat.le_refl _) (by omega) hc.1 hc.2) (Nat.mul_le_mul_left _ z3)
        have u1 : 1 ≤ d 0 * d 1 * d 2 * d 3 := Nat.mul_pos (Nat.mul_pos (Nat.mul_pos g0.1 g1.1) g2.1) g3.1
        have hX : d 0 ^ 4 * d 1 ^ 3 * d 2 ^ 3 * d 3 ≤ d 0 ^ 5 * d 1 ^ 4 * d 2 ^ 3 * d 3 := by
          refine Nat.mul_le_mul_right _ (Nat.mul_le_mul_right _ (Nat.mul_le_mul ?_ ?_))
          · exact Nat.pow_le_pow_right g0.1 (by omega)
          · exact Nat.pow_le_pow_right g1.1 (by omega)
        match j, h1, h2 with
        | 0, _, _ =>
          have eq0 : (Dm a 0 * Dm a 3).natAbs ≤ d 0 * d 1 * d 2 := by rw [Int.natAbs_mul, z0, Nat.one_mul]; exact z3
          refine gd_of (na_mul z1 (Nat.le_trans bN (Nat.mul_le_mul_left _ z3))) (na_mul z1 (Nat.le_trans bN1 z3)) hM eq0 z4 z3 ?_ ?_ ?_
          · have : d 0 * (4000 * (d 0 * d 1 * d 2)) * (d 0 * d 1 * d 2 * (d 0 * d 1 * d 2 * d 3)) + d 0 * (d 0 * d 1 * d 2) * (4000 * d 3 * (d 0 * d 1 * d 2)) * (d 0 * d 1 * d 2) = 8000 * (d 0 ^ 4 * d 1 ^ 3 * d 2 ^ 3 * d 3) := by grind
            omega
          · have e : d 0 * d 1 * d 2 * (d 0 * d 1 * d 2 * (d 0 * d 1 * d 2 * d 3)) = d 0 ^ 3 * d 1 ^ 3 * d 2 ^ 3 * d 3 := by grind
            have : d 0 ^ 3 * d 1 ^ 3 * d 2 ^ 3 * d 3 ≤ d 0 ^ 4 * d 1 ^ 3 * d 2 ^ 3 * d 3 := Nat.mul_le_mul_right _ (Nat.mul_le_mul_right _ (Nat.mul_le_mul_right _ (Nat.pow_le_pow_right g0.1 (by omega))))
            omega
          · refine Nat.le_trans (Nat.mul_le_mul (Nat.mul_le_mul g0.2 (Nat.mul_le_mul (Nat.mul_le_mul g0.2 g1.2) g2.2)) (Nat.mul_le_mul (Nat.mul_le_mul g0.2 g1.2) g2.2)) (by decide)
        | 1, _, _ =>
          refine gd_of (na_mul z2 (Nat.le_trans bN (Nat.mul_le_mul_left _ z3))) (na_mul z2 (Nat.le_trans bN1 z3)) hM (na_mul z1 z3) z4 z3 ?_ ?_ ?_
          · have : d 0 * d 1 * (4000 * (d 0 * d 1 * d 2)) * (d 0 * (d 0 * d 1 * d 2) * (d 0 * d 1 * d 2 * d 3)) + d 0 * d 1 * (d 0 * d 1 * d 2) * (4000 * d 3 * (d 0 * d 1 * d 2)) * (d 0 * (d 0 * d 1 * d 2)) = 8000 * (d 0 ^ 5 * d 1 ^ 4 * d 2 ^ 3 * d 3) := by grind
            omega
          · have e : d 0 * (d 0 * d 1 * d 2) * (d 0 * (d 0 * d 1 * d 2) * (d 0 * d 1 * d 2 * d 3)) = d 0 ^ 5 * d 1 ^ 3 * d 2 ^ 3 * d 3 := by grind
            have : d 0 ^ 5 * d 1 ^ 3 * d 2 ^ 3 * d 3 ≤ d 0 ^ 5 * d 1 ^ 4 * d 2 ^ 3 * d 3 := Nat.mul_le_mul_right _ (Nat.mul_le_mul_right _ (Nat.mul_le_mul_left _ (Nat.pow_le_pow_right g1.1 (by omega))))
            omega
          · refine Nat.le_trans (Nat.mul_le_mul (Nat.mul_le_mul (Nat.mul_le_mul g0.2 g1.2) (Nat.mul_le_mul (Nat.mul_le_mul g0.2 g1.2) g2.2)) (Nat.mul_le_mul (Nat.mul_le_mul g0.2 g1.2) g2.2)) (by decide)
        | j + 2, q1, q2 => exact absurd (show j + 2 + 1 = 3 by omega) q2
      · have hj0 : j = 0 := by omega
        have hi2 : i = 2 := by omega
        subst hj0 hi2
        refine gd_of (na_mul cDs (Nat.le_trans bN (Nat.mul_le_mul_left _ cD))) (na_mul cDs (Nat.le_trans bN1 cD)) hmi (na_mul cDj cD) cD' cD (by decide) (by decide) (by decide)
  · have eE : ∀ c, Ev a i j c = mn a i j c := fun c => by simp [Ev, h1]
    have eF : Fv a i j = Dm a i := by simp [Fv, h1]
    rw [eE, eE, eF]
    refine gd_of (Nat.le_trans (h.M4 (by omega) hj hc.1 hc.2) (Nat.mul_le_mul (Nat.mul_le_mul_left _ hdj.2) cD)) (Nat.le_trans (h.M1 i j i (by omega) (by omega) hj hi) (Nat.mul_le_mul hdj.2 cD)) hmi cD cD' cD ?_ ?_ ?_
    · have : ∀ i, i < 3 → 4000 * 24 * 24 ^ i * (24 ^ i * 24 ^ (i + 1)) + 24 * 24 ^ i * (4000 * 24 * 24 ^ i) * 24 ^ i ≤ 9223372036854775807 := by decide
      exact this i (by omega)
    · have : ∀ i, i < 3 → 24 ^ i * (24 ^ i * 24 ^ (i + 1)) ≤ 9223372036854775807 := by decide
      exact this i (by omega)
    · have : ∀ i, i < 3 → 24 * 24 ^ i * 24 ^ i ≤ 9223372036854775807 := by decide
      exact this i (by omega)
theorem Sol.Fne (h : Sol n a d) {i j : Nat} (hi : i ≤ n) (hj : j < n) : Fv a i j ≠ 0 := by
  have p1 := h.pos i hi
  have p2 := h.pos j (by omega)
  unfold Fv
  split
  · split
    · omega
    · exact Int.mul_ne_zero (by omega) (by omega)
  · omega
end Go.D1

set_option linter.unusedVariables false
set_option linter.unusedSimpArgs false
namespace Go.D1
open Go.Tb
theorem Is.of_eq {x : Rat} {n d n' d' : Int} (h : Is x n d) (hd : d ≠ 0) (e : n * d' = n' * d) : Is x n' d' := by
  refine ⟨h.1, ?_⟩
  have h2 := h.2
  refine Int.eq_of_mul_eq_mul_right hd ?_
  generalize x.num = p at *
  generalize x.den = q at *
  have e1 : p * d' * d = p * d * d' := by grind
  have e2 : n' * q * d = n' * d * q := by grind
  rw [e1, e2, h2, ← e]
  grind
theorem Is.mul_left {x : Rat} {n d k : Int} (h : Is x n d) (hd : d ≠ 0) : Is x (k * n) (k * d) := h.of_eq hd (by grind)
theorem Is.num0 {x : Rat} {n d : Int} (h : Is x n d) (hd : d ≠ 0) : x.num = 0 ↔ n = 0 := by
  have h2 := h.2
  have hq := h.1.den_ne
  constructor
  · intro e
    rw [e, Int.zero_mul] at h2
    rcases Int.mul_eq_zero.1 h2.symm with h | h
    · exact h
    · exact absurd h hq
  · intro e
    rw [e, Int.zero_mul] at h2
    rcases Int.mul_eq_zero.1 h2 with h | h
    · exact h
    · exact absurd h hd
theorem sm_of {x : Int} {B : Nat} (h : x.natAbs ≤ B) (hB : B ≤ 9223372036854775807) : Sm x := sm_abs.2 (Nat.le_trans h hB)
/-- A loop whose states are known by a property alone. -/
theorem ex_loop {S R : Type} (N : Nat) (Inv : Nat → S → Prop) (L : Nat → S → Int → Option R) (post : S → Option R)
    (step : ∀ n i s, i < N → Inv i s → ∃ s', Inv (i + 1) s' ∧ L (n + 1) s (i : Int) = L n s' ((i + 1 : Nat) : Int))
    (stop : ∀ n s, Inv N s → L (n + 1) s (N : Int) = post s) (hN : N ≤ 9223372036854775807) {i0 : Nat} (hi : i0 ≤ N) {s0 : S} (h0 : Inv i0 s0) : ∃ s', Inv N s' ∧ L FU s0 (i0 : Int) = post s' := by
  have key : ∀ (d i k : Nat) (s : S), N = i + d → d < k → Inv i s → ∃ s', Inv N s' ∧ L k s (i : Int) = post s' := by
    intro d
    induction d with
    | zero =>
      intro i k s hd hk hs
      cases k with
      | zero => omega
      | succ k =>
        have : i = N := by omega
        subst this
        exact ⟨s, hs, stop k s hs⟩
    | succ d ih =>
      intro i k s hd hk hs
      cases k with
      | zero => omega
      | succ k =>
        obtain ⟨s1, h1, h2⟩ := step k i s (by omega) hs
        obtain ⟨s', h3, h4⟩ := ih (i + 1) k s1 (by omega) (by omega) h1
        exact ⟨s', h3, h2.trans h4⟩
  exact key (N - i0) i0 FU s0 (by omega) (by have := FU_pos; omega) h0
variable {n : Nat} {a : Mt} {d : Nat → Nat}
/-- One place of one step. -/
theorem place_is (h : Sol n a d) {i j c : Nat} (hi : i < n) (hj : j < n) (hji : j ≠ i) (hc : i ≤ c ∧ c ≤ n) (hPi : Ev a i j i ≠ 0) {p f y : Rat} (hp : Is p (Ev a i j c) (Fv a i j)) (hf : Is f (Ev a i j i * Dm a i) (Fv a i j * Dm a (i + 1))) (hy : Is y (mn a i i c) (Dm a i)) :
    ∃ q z, level_mul f y = some q ∧ level_sub p q = some z ∧ Is z (Ev a (i + 1) j c) (Fv a (i + 1) j) := by
  have hn := h.n4
  have g := h.gd hi hj hji hc
  have hF := h.Fne (i := i) (by omega) hj
  have hF1 := h.Fne (i := i + 1) (by omega) hj
  have hDi : Dm a i ≠ 0 := by have := h.pos i (by omega); omega
  have hD' : Dm a (i + 1) ≠ 0 := by have := h.pos (i + 1) (by omega); omega
  have hef := EF a (show i < 4 by omega) hji c
  have g1 := g.s
  have g2 := g.q
  have g3 := g.f
  have hFD : Fv a i j * Dm a (i + 1) ≠ 0 := Int.mul_ne_zero hF hD'
  generalize Ev a i j c = P at *
  generalize Ev a i j i = Pi at *
  generalize mn a i i c = Mi at *
  generalize Fv a i j = Q at *
  generalize Dm a (i + 1) = D' at *
  generalize Dm a i = Di at *
  generalize Ev a (i + 1) j c = P1 at *
  generalize Fv a (i + 1) j = Q1 at *
  have fa : 1 ≤ Q.natAbs := by omega
  have da : 1 ≤ D'.natAbs := by omega
  have dia : 1 ≤ Di.natAbs := by omega
  have c1 : Pi.natAbs * Mi.natAbs ≤ (Pi.natAbs * Mi.natAbs) * Q.natAbs := Nat.le_mul_of_pos_right _ fa
  have c2 : Q.natAbs * D'.natAbs ≤ Q.natAbs * (Q.natAbs * D'.natAbs) := Nat.le_mul_of_pos_left _ fa
  have sFD : Sm (Q * D') := sm_of (B := Q.natAbs * D'.natAbs) (by rw [Int.natAbs_mul]; exact Nat.le_refl _) (by omega)
  have sPD : Sm (Pi * Di) := sm_of (B := Pi.natAbs * Di.natAbs) (by rw [Int.natAbs_mul]; exact Nat.le_refl _) (by omega)
  have sPM : Sm (Pi * Mi) := sm_of (B := Pi.natAbs * Mi.natAbs) (by rw [Int.natAbs_mul]; exact Nat.le_refl _) (by omega)
  have sy : Sm y.num ∧ Sm y.den := by
    have := hy.le hDi
    have e1 : Mi.natAbs ≤ Pi.natAbs * Mi.natAbs := Nat.le_mul_of_pos_left _ (by omega)
    have e2 : Di.natAbs ≤ Pi.natAbs * Di.natAbs := Nat.le_mul_of_pos_left _ (by omega)
    exact ⟨sm_of this.1 (by omega), sm_of this.2 (by omega)⟩
  obtain ⟨q, hq1, hq2⟩ := mul_is hf.1 hy.1 (hf.sm hFD sPD sFD) sy hFD (N := Pi * Mi) (by
    have e1 := hf.2
    have e2 := hy.2
    generalize f.num = u at *
    generalize f.den = v at *
    generalize y.num = s at *
    generalize y.den = t at *
    have : u * s * (Q * D') * Di = Pi * Mi * (v * t) * Di := by
      have e3 : u * s * (Q * D') * Di = (u * (Q * D')) * (s * Di) := by grind
      rw [e3, e1, e2]; grind
    exact Int.eq_of_mul_eq_mul_right hDi this) sPM sFD
  have lp := hp.le hF
  have lq := hq2.le hFD
  rw [Int.natAbs_mul, Int.natAbs_mul] at lq
  have b1 : (p.num * q.den).natAbs ≤ P.natAbs * (Q.natAbs * D'.natAbs) := na_mul lp.1 lq.2
  have b2 : (q.num * p.den).natAbs ≤ (Pi.natAbs * Mi.natAbs) * Q.natAbs := na_mul lq.1 lp.2
  have b3 : (p.den * q.den).natAbs ≤ Q.natAbs * (Q.natAbs * D'.natAbs) := na_mul lp.2 lq.2
  obtain ⟨z, hz1, hz2⟩ := sub_is hp.1 hq2.1 (sm_of b1 (by omega)) (sm_of b2 (by omega)) (sm_abs.2 (by omega)) (sm_of b3 g2)
  refine ⟨q, z, hq1, hz1, hz2.of_eq (Int.mul_ne_zero hp.1.den_ne hq2.1.den_ne) ?_⟩
  have e1 := hp.2
  have e2 := hq2.2
  clear g g1 g2 g3 c1 c2 sFD sPD sPM sy lp lq b1 b2 b3 hz1 hz2 hq1 hq2 hf hy hp
  generalize p.num = u at *
  generalize p.den = v at *
  generalize q.num = s at *
  generalize q.den = t at *
  refine Int.eq_of_mul_eq_mul_right hFD ?_
  have e3 : (u * t - s * v) * Q1 * (Q * D') = (u * Q) * (t * D' * Q1) - (s * (Q * D')) * (v * Q1) := by grind
  have e4 : P1 * (v * t) * (Q * D') = (P1 * (Q * D')) * (v * t) := by grind
  rw [e3, e4, e1, e2, hef]
  grind
end Go.D1
