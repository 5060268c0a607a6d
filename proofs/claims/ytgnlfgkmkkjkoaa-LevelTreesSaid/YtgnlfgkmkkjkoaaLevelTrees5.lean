/- Lemmas and walks that the proof of this claim uses: D1m17, Tb22, D1p1, D1p2, D1p3, D1p4, D1p5, D1p6. -/
import Derived.Test.YtgnlfgkmkkjkoaaLevelTrees4
set_option linter.unusedVariables false
set_option linter.unusedSimpArgs false
namespace Go.D1
open Go.Tb Go.Proofs Go.RowKit
theorem Tc51 : callable Try.prog 51 = true := by kernel_rfl
theorem Tc52 : callable Try.prog 52 = true := by kernel_rfl
theorem Tc53 : callable Try.prog 53 = true := by kernel_rfl
theorem Tc55 : callable Try.prog 55 = true := by kernel_rfl
theorem Tc56 : callable Try.prog 56 = true := by kernel_rfl
set_option maxRecDepth 20000 in
set_option maxHeartbeats 1000000 in
theorem law01_LevelTrees_ok {a0 : Survey} {A_a0_readings : Option Addr} {c_a0_readings : Nat} {w : World} {res : Bool} (h_a0_readings : Sl w A_a0_readings c_a0_readings 4 (a0.readings.map encReading)) (F : law01_LevelTrees a0 = some res) : Calls Try.prog 13 #[.agg #[.int .i64 a0.points, .slice A_a0_readings a0.readings.length c_a0_readings]] w (Rt w (.bool res)) := by
  refine calls_of_cw (args := [.agg #[.int .i64 a0.points, .slice A_a0_readings a0.readings.length c_a0_readings]]) Try.func13 rfl rfl rfl rfl ?_
  have H := Hp.start w
  have R0 := H.ext
  unfold law01_LevelTrees at F
  refine CW.seq fun K1 hK1 => ?_
  refine CW.region ?_
  refine LW.go rfl rfl (OW.box rfl fun b1 w1 N1 => ?_)
  replace H := H.new N1 N1.blk
  replace R0 := H.ext
  refine LW.pure rfl rfl (RV.assign rfl) ?_
  refine LW.nil (hK1 _ _ ?_)
  refine CW.seq fun K2 hK2 => ?_
  refine CW.seq fun K3 hK3 => ?_
  obtain ⟨r1, hr1, F⟩ := bnd_some F
  refine CW.region ?_
  refine LW.pure rfl rfl (RV.loadA [.int .i64 a0.points, .slice A_a0_readings a0.readings.length c_a0_readings] Tk24 rfl (H.blk 0 rfl).cells rfl rfl) ?_
  refine LW.go rfl rfl (OW.call Tc17 rfl (law01_Long_ok (a0 := a0) (h_a0_readings.ext R0) hr1) ?_)
  rintro _ w2 ⟨rfl, E1⟩
  refine ⟨_, rfl, ?_⟩
  replace H := H.grow E1
  replace R0 := H.ext
  refine LW.nil (hK3 _ _ ?_)
  by_cases hp1 : r1 = true
  ·
    replace F := ite_y hp1 F
    have hq1 : r1 = true := hp1
    refine CW.condT rfl hq1 ?_
    refine CW.seq fun K4 hK4 => ?_
    obtain ⟨r2, hr2, F⟩ := bnd_some F
    refine CW.region ?_
    refine LW.go rfl rfl (OW.call Tc18 rfl (law01_known_ok hr2) ?_)
    rintro _ w3 ⟨rfl, E2⟩
    refine ⟨_, rfl, ?_⟩
    replace H := H.grow E2
    replace R0 := H.ext
    refine LW.pure rfl rfl (RV.assign rfl) ?_
    refine LW.nil (hK4 _ _ ?_)
    refine CW.ret ?_
    obtain rfl := Option.some.inj F
    refine ⟨_, (ResOK.one rfl), ?_⟩
    refine ⟨(by first | rfl | simp), R0⟩
  ·
    replace F := ite_n hp1 F
    have hq1 : r1 = false := raw_f hp1
    refine CW.condF rfl hq1 ?_
    refine CW.skip (hK2 _ _ ?_)
    refine CW.seq fun K5 hK5 => ?_
    obtain ⟨r3, hr3, F⟩ := bnd_some F
    refine CW.region ?_
    refine LW.pure rfl rfl (RV.loadA [.int .i64 a0.points, .slice A_a0_readings a0.readings.length c_a0_readings] Tk24 rfl (H.blk 0 rfl).cells rfl rfl) ?_
    refine LW.go rfl rfl (OW.call Tc51 rfl (level_ByTree_ok (a0 := a0) (h_a0_readings.ext R0) hr3) ?_)
    rintro _ w4 ⟨A17_0, c17_0, rfl, E3⟩
    refine ⟨_, rfl, ?_⟩
    replace H : Hp w w4 [.own A17_0 c17_0 3 1 (List.map encN r3.1), .blk b1 24 [.int .i64 a0.points, .slice A_a0_readings a0.readings.length c_a0_readings]] := H.append E3
    replace R0 := H.ext
    refine LW.pure rfl rfl (RV.move rfl) ?_
    refine LW.pure rfl rfl (RV.extract rfl rfl) ?_
    refine LW.pure rfl rfl (RV.extract rfl rfl) ?_
    refine LW.pure rfl rfl (RV.assign rfl) ?_
    refine LW.pure rfl rfl (RV.assign rfl) ?_
    refine LW.nil (hK5 _ _ ?_)
    refine CW.seq fun K6 hK6 => ?_
    obtain ⟨r4, hr4, F⟩ := bnd_some F
    refine CW.region ?_
    refine LW.pure rfl rfl (RV.loadA [.int .i64 a0.points, .slice A_a0_readings a0.readings.length c_a0_readings] Tk24 rfl (H.blk 1 rfl).cells rfl rfl) ?_
    refine LW.go rfl rfl (OW.call Tc52 rfl (ref01_ByTree_ok (a0 := a0) (h_a0_readings.ext R0) hr4) ?_)
    rintro _ w5 ⟨A19_0, c19_0, rfl, E4⟩
    refine ⟨_, rfl, ?_⟩
    replace H : Hp w w5 [.own A19_0 c19_0 3 1 (List.map encN r4.1), .own A17_0 c17_0 3 1 (List.map encN r3.1), .blk b1 24 [.int .i64 a0.points, .slice A_a0_readings a0.readings.length c_a0_readings]] := H.append E4
    replace R0 := H.ext
    refine LW.pure rfl rfl (RV.move rfl) ?_
    refine LW.pure rfl rfl (RV.extract rfl rfl) ?_
    refine LW.pure rfl rfl (RV.extract rfl rfl) ?_
    refine LW.pure rfl rfl (RV.assign rfl) ?_
    refine LW.pure rfl rfl (RV.assign rfl) ?_
    refine LW.nil (hK6 _ _ ?_)
    refine CW.seq fun K7 hK7 => ?_
    obtain ⟨r5, hr5, F⟩ := bnd_some F
    refine CW.region ?_
    refine LW.pure rfl rfl (RV.loadA [.int .i64 a0.points, .slice A_a0_readings a0.readings.length c_a0_readings] Tk24 rfl (H.blk 2 rfl).cells rfl rfl) ?_
    refine LW.go rfl rfl (OW.call Tc53 rfl (level_Closures_ok (a0 := a0) (h_a0_readings.ext R0) hr5) ?_)
    rintro _ w6 ⟨A21_0, c21_0, rfl, E5⟩
    refine ⟨_, rfl, ?_⟩
    replace H : Hp w w6 [.own A21_0 c21_0 3 1 (List.map encN r5.1), .own A19_0 c19_0 3 1 (List.map encN r4.1), .own A17_0 c17_0 3 1 (List.map encN r3.1), .blk b1 24 [.int .i64 a0.points, .slice A_a0_readings a0.readings.length c_a0_readings]] := H.append E5
    replace R0 := H.ext
    refine LW.pure rfl rfl (RV.move rfl) ?_
    refine LW.pure rfl rfl (RV.extract rfl rfl) ?_
    refine LW.pure rfl rfl (RV.extract rfl rfl) ?_
    refine LW.pure rfl rfl (RV.assign rfl) ?_
    refine LW.pure rfl rfl (RV.assign rfl) ?_
    refine LW.nil (hK7 _ _ ?_)
    refine CW.seq fun K8 hK8 => ?_
    obtain ⟨r6, hr6, F⟩ := bnd_some F
    refine CW.region ?_
    refine LW.pure rfl rfl (RV.loadA [.int .i64 a0.points, .slice A_a0_readings a0.readings.length c_a0_readings] Tk24 rfl (H.blk 3 rfl).cells rfl rfl) ?_
    refine LW.go rfl rfl (OW.call Tc54 rfl (ref01_Closures_ok (a0 := a0) (h_a0_readings.ext R0) hr6) ?_)
    rintro _ w7 ⟨A23_0, c23_0, rfl, E6⟩
    refine ⟨_, rfl, ?_⟩
    replace H : Hp w w7 [.own A23_0 c23_0 3 1 (List.map encN r6.1), .own A21_0 c21_0 3 1 (List.map encN r5.1), .own A19_0 c19_0 3 1 (List.map encN r4.1), .own A17_0 c17_0 3 1 (List.map encN r3.1), .blk b1 24 [.int .i64 a0.points, .slice A_a0_readings a0.readings.length c_a0_readings]] := H.append E6
    replace R0 := H.ext
    refine LW.pure rfl rfl (RV.move rfl) ?_
    refine LW.pure rfl rfl (RV.extract rfl rfl) ?_
    refine LW.pure rfl rfl (RV.extract rfl rfl) ?_
    refine LW.pure rfl rfl (RV.assign rfl) ?_
    refine LW.pure rfl rfl (RV.assign rfl) ?_
    refine LW.nil (hK8 _ _ ?_)
    refine CW.seq fun K9 hK9 => ?_
    obtain ⟨r7, hr7, F⟩ := bnd_some F
    refine CW.region ?_
    refine LW.pure rfl rfl (RV.loadA [.int .i64 a0.points, .slice A_a0_readings a0.readings.length c_a0_readings] Tk24 rfl (H.blk 4 rfl).cells rfl rfl) ?_
    refine LW.go rfl rfl (OW.call Tc55 rfl (level_IsTrue_ok (a0 := a0) (h_a0_readings.ext R0) hr7) ?_)
    rintro _ w8 ⟨rfl, E7⟩
    refine ⟨_, rfl, ?_⟩
    replace H := H.grow E7
    replace R0 := H.ext
    refine LW.pure rfl rfl (RV.move rfl) ?_
    refine LW.pure rfl rfl (RV.extract rfl rfl) ?_
    refine LW.pure rfl rfl (RV.extract rfl rfl) ?_
    refine LW.pure rfl rfl (RV.assign rfl) ?_
    refine LW.pure rfl rfl (RV.assign rfl) ?_
    refine LW.nil (hK9 _ _ ?_)
    refine CW.seq fun K10 hK10 => ?_
    obtain ⟨r8, hr8, F⟩ := bnd_some F
    refine CW.region ?_
    refine LW.pure rfl rfl (RV.loadA [.int .i64 a0.points, .slice A_a0_readings a0.readings.length c_a0_readings] Tk24 rfl (H.blk 4 rfl).cells rfl rfl) ?_
    refine LW.go rfl rfl (OW.call Tc56 rfl (ref01_IsTrue_ok (a0 := a0) (h_a0_readings.ext R0) hr8) ?_)
    rintro _ w9 ⟨rfl, E8⟩
    refine ⟨_, rfl, ?_⟩
    replace H := H.grow E8
    replace R0 := H.ext
    refine LW.pure rfl rfl (RV.move rfl) ?_
    refine LW.pure rfl rfl (RV.extract rfl rfl) ?_
    refine LW.pure rfl rfl (RV.extract rfl rfl) ?_
    refine LW.pure rfl rfl (RV.assign rfl) ?_
    refine LW.pure rfl rfl (RV.assign rfl) ?_
    refine LW.nil (hK10 _ _ ?_)
    refine CW.seq fun K11 hK11 => ?_
    obtain ⟨r9, hr9, F⟩ := bnd_some F
    by_cases hp2 : r9 = true
    ·
      replace F := ite_y hp2 F
      have hq2 : r9 = true := hp2
      by_cases hp3 : r3.2 = r4.2
      ·
        replace F := ite_y hp3 F
        have hq3 := dec_t hp3
        obtain ⟨r10, hr10, F⟩ := bnd_some F
        by_cases hp4 : r10 = true
        ·
          replace F := ite_y hp4 F
          have hq4 : r10 = true := hp4
          by_cases hp5 : r5.2 = r6.2
          ·
            replace F := ite_y hp5 F
            have hq5 := dec_t hp5
            by_cases hp6 : (r7.1 == r8.1) = true
            ·
              replace F := ite_y hp6 F
              have hq6 : (r7.1 == r8.1) = true := hp6
              by_cases hp7 : r7.2 = r8.2
              ·
                replace F := ite_y hp7 F
                have hq7 := dec_t hp7
                obtain ⟨r11, hr11, F⟩ := bnd_some F
                refine CW.region ?_
                refine LW.pure rfl rfl (RV.move rfl) ?_
                refine LW.pure rfl rfl (RV.move rfl) ?_
                refine LW.go rfl rfl (OW.call Tc28 rfl (ref01_SameInts_ok (a0 := r3.1) (a1 := r4.1) (H.own 3 rfl).sl (H.own 2 rfl).sl hr9) ?_)
                rintro _ w10 ⟨rfl, E9⟩
                refine ⟨_, rfl, ?_⟩
                replace H := H.grow E9
                replace R0 := H.ext
                refine LW.pure rfl rfl (RV.move rfl) ?_
                refine LW.pureYB rfl rfl rfl rfl hq2 (RV.move rfl) ?_
                refine LW.pureYB rfl rfl rfl rfl hq2 (RV.move rfl) ?_
                refine LW.pureYB rfl rfl rfl rfl hq2 (RV.eqi rfl rfl) ?_
                refine LW.pure rfl rfl (RV.pickTB rfl hq2 rfl) ?_
                refine LW.pure rfl rfl (RV.move rfl) ?_
                refine LW.pureYB rfl rfl rfl rfl hq3 (RV.move rfl) ?_
                refine LW.pureYB rfl rfl rfl rfl hq3 (RV.move rfl) ?_
                refine LW.yesB rfl rfl rfl rfl hq3 (OW.call Tc28 rfl (ref01_SameInts_ok (a0 := r5.1) (a1 := r6.1) (H.own 1 rfl).sl (H.own 0 rfl).sl hr10) ?_)
                rintro _ w11 ⟨rfl, E10⟩
                refine ⟨_, rfl, ?_⟩
                replace H := H.grow E10
                replace R0 := H.ext
                refine LW.pure rfl rfl (RV.pickTB rfl hq3 rfl) ?_
                refine LW.pure rfl rfl (RV.move rfl) ?_
                refine LW.pureYB rfl rfl rfl rfl hq4 (RV.move rfl) ?_
                refine LW.pureYB rfl rfl rfl rfl hq4 (RV.move rfl) ?_
                refine LW.pureYB rfl rfl rfl rfl hq4 (RV.eqi rfl rfl) ?_
                refine LW.pure rfl rfl (RV.pickTB rfl hq4 rfl) ?_
                refine LW.pure rfl rfl (RV.move rfl) ?_
                refine LW.pureYB rfl rfl rfl rfl hq5 (RV.move rfl) ?_
                refine LW.pureYB rfl rfl rfl rfl hq5 (RV.move rfl) ?_
                refine LW.pureYB rfl rfl rfl rfl hq5 (RV.eqb Tb4 rfl rfl) ?_
                refine LW.pure rfl rfl (RV.pickTB rfl hq5 rfl) ?_
                refine LW.pure rfl rfl (RV.move rfl) ?_
                refine LW.pureYB rfl rfl rfl rfl hq6 (RV.move rfl) ?_
                refine LW.pureYB rfl rfl rfl rfl hq6 (RV.move rfl) ?_
                refine LW.pureYB rfl rfl rfl rfl hq6 (RV.eqi rfl rfl) ?_
                refine LW.pure rfl rfl (RV.pickTB rfl hq6 rfl) ?_
                refine LW.pure rfl rfl (RV.move rfl) ?_
                refine LW.yesB rfl rfl rfl rfl hq7 (OW.call Tc18 rfl (law01_known_ok hr11) ?_)
                rintro _ w12 ⟨rfl, E11⟩
                refine ⟨_, rfl, ?_⟩
                replace H := H.grow E11
                replace R0 := H.ext
                refine LW.pure rfl rfl (RV.pickTB rfl hq7 rfl) ?_
                refine LW.pure rfl rfl (RV.assign rfl) ?_
                refine LW.nil (hK11 _ _ ?_)
                refine CW.ret ?_
                obtain rfl := Option.some.inj F
                refine ⟨_, (ResOK.one rfl), ?_⟩
                refine ⟨(by first | rfl | simp), R0⟩
              ·
                replace F := ite_n hp7 F
                have hq7 := dec_f hp7
                refine CW.region ?_
                refine LW.pure rfl rfl (RV.move rfl) ?_
                refine LW.pure rfl rfl (RV.move rfl) ?_
                refine LW.go rfl rfl (OW.call Tc28 rfl (ref01_SameInts_ok (a0 := r3.1) (a1 := r4.1) (H.own 3 rfl).sl (H.own 2 rfl).sl hr9) ?_)
                rintro _ w13 ⟨rfl, E12⟩
                refine ⟨_, rfl, ?_⟩
                replace H := H.grow E12
                replace R0 := H.ext
                refine LW.pure rfl rfl (RV.move rfl) ?_
                refine LW.pureYB rfl rfl rfl rfl hq2 (RV.move rfl) ?_
                refine LW.pureYB rfl rfl rfl rfl hq2 (RV.move rfl) ?_
                refine LW.pureYB rfl rfl rfl rfl hq2 (RV.eqi rfl rfl) ?_
                refine LW.pure rfl rfl (RV.pickTB rfl hq2 rfl) ?_
                refine LW.pure rfl rfl (RV.move rfl) ?_
                refine LW.pureYB rfl rfl rfl rfl hq3 (RV.move rfl) ?_
                refine LW.pureYB rfl rfl rfl rfl hq3 (RV.move rfl) ?_
                refine LW.yesB rfl rfl rfl rfl hq3 (OW.call Tc28 rfl (ref01_SameInts_ok (a0 := r5.1) (a1 := r6.1) (H.own 1 rfl).sl (H.own 0 rfl).sl hr10) ?_)
                rintro _ w14 ⟨rfl, E13⟩
                refine ⟨_, rfl, ?_⟩
                replace H := H.grow E13
                replace R0 := H.ext
                refine LW.pure rfl rfl (RV.pickTB rfl hq3 rfl) ?_
                refine LW.pure rfl rfl (RV.move rfl) ?_
                refine LW.pureYB rfl rfl rfl rfl hq4 (RV.move rfl) ?_
                refine LW.pureYB rfl rfl rfl rfl hq4 (RV.move rfl) ?_
                refine LW.pureYB rfl rfl rfl rfl hq4 (RV.eqi rfl rfl) ?_
                refine LW.pure rfl rfl (RV.pickTB rfl hq4 rfl) ?_
                refine LW.pure rfl rfl (RV.move rfl) ?_
                refine LW.pureYB rfl rfl rfl rfl hq5 (RV.move rfl) ?_
                refine LW.pureYB rfl rfl rfl rfl hq5 (RV.move rfl) ?_
                refine LW.pureYB rfl rfl rfl rfl hq5 (RV.eqb Tb4 rfl rfl) ?_
                refine LW.pure rfl rfl (RV.pickTB rfl hq5 rfl) ?_
                refine LW.pure rfl rfl (RV.move rfl) ?_
                refine LW.pureYB rfl rfl rfl rfl hq6 (RV.move rfl) ?_
                refine LW.pureYB rfl rfl rfl rfl hq6 (RV.move rfl) ?_
                refine LW.pureYB rfl rfl rfl rfl hq6 (RV.eqi rfl rfl) ?_
                refine LW.pure rfl rfl (RV.pickTB rfl hq6 rfl) ?_
                refine LW.pure rfl rfl (RV.move rfl) ?_
                refine LW.noB rfl rfl rfl rfl (ne_beq (v := false) hq7 rfl) ?_
                refine LW.pure rfl rfl (RV.pickFB rfl hq7 rfl) ?_
                refine LW.pure rfl rfl (RV.assign rfl) ?_
                refine LW.nil (hK11 _ _ ?_)
                refine CW.ret ?_
                obtain rfl := Option.some.inj F
                refine ⟨_, (ResOK.one rfl), ?_⟩
                refine ⟨(by first | rfl | simp), R0⟩
            ·
              replace F := ite_n hp6 F
              have hq6 : (r7.1 == r8.1) = false := raw_f hp6
              refine CW.region ?_
              refine LW.pure rfl rfl (RV.move rfl) ?_
              refine LW.pure rfl rfl (RV.move rfl) ?_
              refine LW.go rfl rfl (OW.call Tc28 rfl (ref01_SameInts_ok (a0 := r3.1) (a1 := r4.1) (H.own 3 rfl).sl (H.own 2 rfl).sl hr9) ?_)
              rintro _ w15 ⟨rfl, E14⟩
              refine ⟨_, rfl, ?_⟩
              replace H := H.grow E14
              replace R0 := H.ext
              refine LW.pure rfl rfl (RV.move rfl) ?_
              refine LW.pureYB rfl rfl rfl rfl hq2 (RV.move rfl) ?_
              refine LW.pureYB rfl rfl rfl rfl hq2 (RV.move rfl) ?_
              refine LW.pureYB rfl rfl rfl rfl hq2 (RV.eqi rfl rfl) ?_
              refine LW.pure rfl rfl (RV.pickTB rfl hq2 rfl) ?_
              refine LW.pure rfl rfl (RV.move rfl) ?_
              refine LW.pureYB rfl rfl rfl rfl hq3 (RV.move rfl) ?_
              refine LW.pureYB rfl rfl rfl rfl hq3 (RV.move rfl) ?_
              refine LW.yesB rfl rfl rfl rfl hq3 (OW.call Tc28 rfl (ref01_SameInts_ok (a0 := r5.1) (a1 := r6.1) (H.own 1 rfl).sl (H.own 0 rfl).sl hr10) ?_)
              rintro _ w16 ⟨rfl, E15⟩
              refine ⟨_, rfl, ?_⟩
              replace H := H.grow E15
              replace R0 := H.ext
              refine LW.pure rfl rfl (RV.pickTB rfl hq3 rfl) ?_
              refine LW.pure rfl rfl (RV.move rfl) ?_
              refine LW.pureYB rfl rfl rfl rfl hq4 (RV.move rfl) ?_
              refine LW.pureYB rfl rfl rfl rfl hq4 (RV.move rfl) ?_
              refine LW.pureYB rfl rfl rfl rfl hq4 (RV.eqi rfl rfl) ?_
              refine LW.pure rfl rfl (RV.pickTB rfl hq4 rfl) ?_
              refine LW.pure rfl rfl (RV.move rfl) ?_
              refine LW.pureYB rfl rfl rfl rfl hq5 (RV.move rfl) ?_
              refine LW.pureYB rfl rfl rfl rfl hq5 (RV.move rfl) ?_
              refine LW.pureYB rfl rfl rfl rfl hq5 (RV.eqb Tb4 rfl rfl) ?_
              refine LW.pure rfl rfl (RV.pickTB rfl hq5 rfl) ?_
              refine LW.pure rfl rfl (RV.move rfl) ?_
              refine LW.noB rfl rfl rfl rfl (ne_beq (v := false) hq6 rfl) ?_
              refine LW.noB rfl rfl rfl rfl (ne_beq (v := false) hq6 rfl) ?_
              refine LW.noB rfl rfl rfl rfl (ne_beq (v := false) hq6 rfl) ?_
              refine LW.pure rfl rfl (RV.pickFB rfl hq6 rfl) ?_
              refine LW.pure rfl rfl (RV.move rfl) ?_
              refine LW.noB rfl rfl rfl rfl (ne_beq (v := false) rfl rfl) ?_
              refine LW.pure rfl rfl (RV.pickFB rfl rfl rfl) ?_
              refine LW.pure rfl rfl (RV.assign rfl) ?_
              refine LW.nil (hK11 _ _ ?_)
              refine CW.ret ?_
              obtain rfl := Option.some.inj F
              refine ⟨_, (ResOK.one rfl), ?_⟩
              refine ⟨(by first | rfl | simp), R0⟩
          ·
            replace F := ite_n hp5 F
            have hq5 := dec_f hp5
            refine CW.region ?_
            refine LW.pure rfl rfl (RV.move rfl) ?_
            refine LW.pure rfl rfl (RV.move rfl) ?_
            refine LW.go rfl rfl (OW.call Tc28 rfl (ref01_SameInts_ok (a0 := r3.1) (a1 := r4.1) (H.own 3 rfl).sl (H.own 2 rfl).sl hr9) ?_)
            rintro _ w17 ⟨rfl, E16⟩
            refine ⟨_, rfl, ?_⟩
            replace H := H.grow E16
            replace R0 := H.ext
            refine LW.pure rfl rfl (RV.move rfl) ?_
            refine LW.pureYB rfl rfl rfl rfl hq2 (RV.move rfl) ?_
            refine LW.pureYB rfl rfl rfl rfl hq2 (RV.move rfl) ?_
            refine LW.pureYB rfl rfl rfl rfl hq2 (RV.eqi rfl rfl) ?_
            refine LW.pure rfl rfl (RV.pickTB rfl hq2 rfl) ?_
            refine LW.pure rfl rfl (RV.move rfl) ?_
            refine LW.pureYB rfl rfl rfl rfl hq3 (RV.move rfl) ?_
            refine LW.pureYB rfl rfl rfl rfl hq3 (RV.move rfl) ?_
            refine LW.yesB rfl rfl rfl rfl hq3 (OW.call Tc28 rfl (ref01_SameInts_ok (a0 := r5.1) (a1 := r6.1) (H.own 1 rfl).sl (H.own 0 rfl).sl hr10) ?_)
            rintro _ w18 ⟨rfl, E17⟩
            refine ⟨_, rfl, ?_⟩
            replace H := H.grow E17
            replace R0 := H.ext
            refine LW.pure rfl rfl (RV.pickTB rfl hq3 rfl) ?_
            refine LW.pure rfl rfl (RV.move rfl) ?_
            refine LW.pureYB rfl rfl rfl rfl hq4 (RV.move rfl) ?_
            refine LW.pureYB rfl rfl rfl rfl hq4 (RV.move rfl) ?_
            refine LW.pureYB rfl rfl rfl rfl hq4 (RV.eqi rfl rfl) ?_
            refine LW.pure rfl rfl (RV.pickTB rfl hq4 rfl) ?_
            refine LW.pure rfl rfl (RV.move rfl) ?_
            refine LW.noB rfl rfl rfl rfl (ne_beq (v := false) hq5 rfl) ?_
            refine LW.noB rfl rfl rfl rfl (ne_beq (v := false) hq5 rfl) ?_
            refine LW.noB rfl rfl rfl rfl (ne_beq (v := false) hq5 rfl) ?_
            refine LW.pure rfl rfl (RV.pickFB rfl hq5 rfl) ?_
            refine LW.pure rfl rfl (RV.move rfl) ?_
            refine LW.noB rfl rfl rfl rfl (ne_beq (v := false) rfl rfl) ?_
            refine LW.noB rfl rfl rfl rfl (ne_beq (v := false) rfl rfl) ?_
            refine LW.noB rfl rfl rfl rfl (ne_beq (v := false) rfl rfl) ?_
            refine LW.pure rfl rfl (RV.pickFB rfl rfl rfl) ?_
            refine LW.pure rfl rfl (RV.move rfl) ?_
            refine LW.noB rfl rfl rfl rfl (ne_beq (v := false) rfl rfl) ?_
            refine LW.pure rfl rfl (RV.pickFB rfl rfl rfl) ?_
            refine LW.pure rfl rfl (RV.assign rfl) ?_
            refine LW.nil (hK11 _ _ ?_)
            refine CW.ret ?_
            obtain rfl := Option.some.inj F
            refine ⟨_, (ResOK.one rfl), ?_⟩
            refine ⟨(by first | rfl | simp), R0⟩
        ·
          replace F := ite_n hp4 F
          have hq4 : r10 = false := raw_f hp4
          refine CW.region ?_
          refine LW.pure rfl rfl (RV.move rfl) ?_
          refine LW.pure rfl rfl (RV.move rfl) ?_
          refine LW.go rfl rfl (OW.call Tc28 rfl (ref01_SameInts_ok (a0 := r3.1) (a1 := r4.1) (H.own 3 rfl).sl (H.own 2 rfl).sl hr9) ?_)
          rintro _ w19 ⟨rfl, E18⟩
          refine ⟨_, rfl, ?_⟩
          replace H := H.grow E18
          replace R0 := H.ext
          refine LW.pure rfl rfl (RV.move rfl) ?_
          refine LW.pureYB rfl rfl rfl rfl hq2 (RV.move rfl) ?_
          refine LW.pureYB rfl rfl rfl rfl hq2 (RV.move rfl) ?_
          refine LW.pureYB rfl rfl rfl rfl hq2 (RV.eqi rfl rfl) ?_
          refine LW.pure rfl rfl (RV.pickTB rfl hq2 rfl) ?_
          refine LW.pure rfl rfl (RV.move rfl) ?_
          refine LW.pureYB rfl rfl rfl rfl hq3 (RV.move rfl) ?_
          refine LW.pureYB rfl rfl rfl rfl hq3 (RV.move rfl) ?_
          refine LW.yesB rfl rfl rfl rfl hq3 (OW.call Tc28 rfl (ref01_SameInts_ok (a0 := r5.1) (a1 := r6.1) (H.own 1 rfl).sl (H.own 0 rfl).sl hr10) ?_)
          rintro _ w20 ⟨rfl, E19⟩
          refine ⟨_, rfl, ?_⟩
          replace H := H.grow E19
          replace R0 := H.ext
          refine LW.pure rfl rfl (RV.pickTB rfl hq3 rfl) ?_
          refine LW.pure rfl rfl (RV.move rfl) ?_
          refine LW.noB rfl rfl rfl rfl (ne_beq (v := false) hq4 rfl) ?_
          refine LW.noB rfl rfl rfl rfl (ne_beq (v := false) hq4 rfl) ?_
          refine LW.noB rfl rfl rfl rfl (ne_beq (v := false) hq4 rfl) ?_
          refine LW.pure rfl rfl (RV.pickFB rfl hq4 rfl) ?_
          refine LW.pure rfl rfl (RV.move rfl) ?_
          refine LW.noB rfl rfl rfl rfl (ne_beq (v := false) rfl rfl) ?_
          refine LW.noB rfl rfl rfl rfl (ne_beq (v := false) rfl rfl) ?_
          refine LW.noB rfl rfl rfl rfl (ne_beq (v := false) rfl rfl) ?_
          refine LW.pure rfl rfl (RV.pickFB rfl rfl rfl) ?_
          refine LW.pure rfl rfl (RV.move rfl) ?_
          refine LW.noB rfl rfl rfl rfl (ne_beq (v := false) rfl rfl) ?_
          refine LW.noB rfl rfl rfl rfl (ne_beq (v := false) rfl rfl) ?_
          refine LW.noB rfl rfl rfl rfl (ne_beq (v := false) rfl rfl) ?_
          refine LW.pure rfl rfl (RV.pickFB rfl rfl rfl) ?_
          refine LW.pure rfl rfl (RV.move rfl) ?_
          refine LW.noB rfl rfl rfl rfl (ne_beq (v := false) rfl rfl) ?_
          refine LW.pure rfl rfl (RV.pickFB rfl rfl rfl) ?_
          refine LW.pure rfl rfl (RV.assign rfl) ?_
          refine LW.nil (hK11 _ _ ?_)
          refine CW.ret ?_
          obtain rfl := Option.some.inj F
          refine ⟨_, (ResOK.one rfl), ?_⟩
          refine ⟨(by first | rfl | simp), R0⟩
      ·
        replace F := ite_n hp3 F
        have hq3 := dec_f hp3
        refine CW.region ?_
        refine LW.pure rfl rfl (RV.move rfl) ?_
        refine LW.pure rfl rfl (RV.move rfl) ?_
        refine LW.go rfl rfl (OW.call Tc28 rfl (ref01_SameInts_ok (a0 := r3.1) (a1 := r4.1) (H.own 3 rfl).sl (H.own 2 rfl).sl hr9) ?_)
        rintro _ w21 ⟨rfl, E20⟩
        refine ⟨_, rfl, ?_⟩
        replace H := H.grow E20
        replace R0 := H.ext
        refine LW.pure rfl rfl (RV.move rfl) ?_
        refine LW.pureYB rfl rfl rfl rfl hq2 (RV.move rfl) ?_
        refine LW.pureYB rfl rfl rfl rfl hq2 (RV.move rfl) ?_
        refine LW.pureYB rfl rfl rfl rfl hq2 (RV.eqi rfl rfl) ?_
        refine LW.pure rfl rfl (RV.pickTB rfl hq2 rfl) ?_
        refine LW.pure rfl rfl (RV.move rfl) ?_
        refine LW.noB rfl rfl rfl rfl (ne_beq (v := false) hq3 rfl) ?_
        refine LW.noB rfl rfl rfl rfl (ne_beq (v := false) hq3 rfl) ?_
        refine LW.noB rfl rfl rfl rfl (ne_beq (v := false) hq3 rfl) ?_
        refine LW.pure rfl rfl (RV.pickFB rfl hq3 rfl) ?_
        refine LW.pure rfl rfl (RV.move rfl) ?_
        refine LW.noB rfl rfl rfl rfl (ne_beq (v := false) rfl rfl) ?_
        refine LW.noB rfl rfl rfl rfl (ne_beq (v := false) rfl rfl) ?_
        refine LW.noB rfl rfl rfl rfl (ne_beq (v := false) rfl rfl) ?_
        refine LW.pure rfl rfl (RV.pickFB rfl rfl rfl) ?_
        refine LW.pure rfl rfl (RV.move rfl) ?_
        refine LW.noB rfl rfl rfl rfl (ne_beq (v := false) rfl rfl) ?_
        refine LW.noB rfl rfl rfl rfl (ne_beq (v := false) rfl rfl) ?_
        refine LW.noB rfl rfl rfl rfl (ne_beq (v := false) rfl rfl) ?_
        refine LW.pure rfl rfl (RV.pickFB rfl rfl rfl) ?_
        refine LW.pure rfl rfl (RV.move rfl) ?_
        refine LW.noB rfl rfl rfl rfl (ne_beq (v := false) rfl rfl) ?_
        refine LW.noB rfl rfl rfl rfl (ne_beq (v := false) rfl rfl) ?_
        refine LW.noB rfl rfl rfl rfl (ne_beq (v := false) rfl rfl) ?_
        refine LW.pure rfl rfl (RV.pickFB rfl rfl rfl) ?_
        refine LW.pure rfl rfl (RV.move rfl) ?_
        refine LW.noB rfl rfl rfl rfl (ne_beq (v := false) rfl rfl) ?_
        refine LW.pure rfl rfl (RV.pickFB rfl rfl rfl) ?_
        refine LW.pure rfl rfl (RV.assign rfl) ?_
        refine LW.nil (hK11 _ _ ?_)
        refine CW.ret ?_
        obtain rfl := Option.some.inj F
        refine ⟨_, (ResOK.one rfl), ?_⟩
        refine ⟨(by first | rfl | simp), R0⟩
    ·
      replace F := ite_n hp2 F
      have hq2 : r9 = false := raw_f hp2
      refine CW.region ?_
      refine LW.pure rfl rfl (RV.move rfl) ?_
      refine LW.pure rfl rfl (RV.move rfl) ?_
      refine LW.go rfl rfl (OW.call Tc28 rfl (ref01_SameInts_ok (a0 := r3.1) (a1 := r4.1) (H.own 3 rfl).sl (H.own 2 rfl).sl hr9) ?_)
      rintro _ w22 ⟨rfl, E21⟩
      refine ⟨_, rfl, ?_⟩
      replace H := H.grow E21
      replace R0 := H.ext
      refine LW.pure rfl rfl (RV.move rfl) ?_
      refine LW.noB rfl rfl rfl rfl (ne_beq (v := false) hq2 rfl) ?_
      refine LW.noB rfl rfl rfl rfl (ne_beq (v := false) hq2 rfl) ?_
      refine LW.noB rfl rfl rfl rfl (ne_beq (v := false) hq2 rfl) ?_
      refine LW.pure rfl rfl (RV.pickFB rfl hq2 rfl) ?_
      refine LW.pure rfl rfl (RV.move rfl) ?_
      refine LW.noB rfl rfl rfl rfl (ne_beq (v := false) rfl rfl) ?_
      refine LW.noB rfl rfl rfl rfl (ne_beq (v := false) rfl rfl) ?_
      refine LW.noB rfl rfl rfl rfl (ne_beq (v := false) rfl rfl) ?_
      refine LW.pure rfl rfl (RV.pickFB rfl rfl rfl) ?_
      refine LW.pure rfl rfl (RV.move rfl) ?_
      refine LW.noB rfl rfl rfl rfl (ne_beq (v := false) rfl rfl) ?_
      refine LW.noB rfl rfl rfl rfl (ne_beq (v := false) rfl rfl) ?_
      refine LW.noB rfl rfl rfl rfl (ne_beq (v := false) rfl rfl) ?_
      refine LW.pure rfl rfl (RV.pickFB rfl rfl rfl) ?_
      refine LW.pure rfl rfl (RV.move rfl) ?_
      refine LW.noB rfl rfl rfl rfl (ne_beq (v := false) rfl rfl) ?_
      refine LW.noB rfl rfl rfl rfl (ne_beq (v := false) rfl rfl) ?_
      refine LW.noB rfl rfl rfl rfl (ne_beq (v := false) rfl rfl) ?_
      refine LW.pure rfl rfl (RV.pickFB rfl rfl rfl) ?_
      refine LW.pure rfl rfl (RV.move rfl) ?_
      refine LW.noB rfl rfl rfl rfl (ne_beq (v := false) rfl rfl) ?_
      refine LW.noB rfl rfl rfl rfl (ne_beq (v := false) rfl rfl) ?_
      refine LW.noB rfl rfl rfl rfl (ne_beq (v := false) rfl rfl) ?_
      refine LW.pure rfl rfl (RV.pickFB rfl rfl rfl) ?_
      refine LW.pure rfl rfl (RV.move rfl) ?_
      refine LW.noB rfl rfl rfl rfl (ne_beq (v := false) rfl rfl) ?_
      refine LW.pure rfl rfl (RV.pickFB rfl rfl rfl) ?_
      refine LW.pure rfl rfl (RV.assign rfl) ?_
      refine LW.nil (hK11 _ _ ?_)
      refine CW.ret ?_
      obtain rfl := Option.some.inj F
      refine ⟨_, (ResOK.one rfl), ?_⟩
      refine ⟨(by first | rfl | simp), R0⟩
end Go.D1

namespace Go.Tb
/-- A loop over 0 .. N - 1 with a state, that is left at the first i for which p does not hold. -/
theorem scan_loop {S R : Type} (N : Nat) (p : Nat → Bool) (g : Nat → S) (L : Nat → S → Int → Option R) (yes : Option R) (no : Nat → Option R)
    (step : ∀ n i : Nat, i < N → L (n + 1) (g i) (i : Int) = if p i = true then L n (g (i + 1)) ((i + 1 : Nat) : Int) else no i)
    (stop : ∀ n : Nat, L (n + 1) (g N) (N : Int) = yes) : ∀ (d n i : Nat), N = i + d → d < n → L n (g i) (i : Int) = match (List.range' i d).find? (fun j => !p j) with | none => yes | some j => no j
  | 0, n + 1, i, hd, hn => by
    have hi : i = N := by omega
    subst hi
    rw [stop n]; rfl
  | d + 1, n + 1, i, hd, hn => by
    rw [step n i (by omega), List.range'_succ, List.find?_cons]
    cases hp : p i
    · simp
    · simp only [if_true, Bool.not_true]
      exact scan_loop N p g L yes no step stop d n (i + 1) (by omega) (by omega)
theorem find_all {p : Nat → Bool} {i d : Nat} : (List.range' i d).find? (fun j => !p j) = none ↔ ∀ j, i ≤ j → j < i + d → p j = true := by
  rw [List.find?_eq_none]
  constructor
  · intro h j h1 h2
    have := h j (by rw [List.mem_range'_1]; omega)
    simpa using this
  · intro h x hx
    rw [List.mem_range'_1] at hx
    simp [h x hx.1 hx.2]
/-- A loop over 0 .. N - 1 with a state and no way out. -/
theorem for_loop {S R : Type} (N : Nat) (g : Nat → S) (L : Nat → S → Int → Option R) (yes : Option R)
    (step : ∀ n i : Nat, i < N → L (n + 1) (g i) (i : Int) = L n (g (i + 1)) ((i + 1 : Nat) : Int))
    (stop : ∀ n : Nat, L (n + 1) (g N) (N : Int) = yes) : ∀ (d n i : Nat), N = i + d → d < n → L n (g i) (i : Int) = yes
  | 0, n + 1, i, hd, hn => by
    have hi : i = N := by omega
    subst hi
    exact stop n
  | d + 1, n + 1, i, hd, hn => by
    rw [step n i (by omega)]
    exact for_loop N g L yes step stop d n (i + 1) (by omega) (by omega)
theorem for_loop0 {S R : Type} (N : Nat) (g : Nat → S) (L : Nat → S → Int → Option R) (yes : Option R)
    (step : ∀ n i : Nat, i < N → L (n + 1) (g i) (i : Int) = L n (g (i + 1)) ((i + 1 : Nat) : Int))
    (stop : ∀ n : Nat, L (n + 1) (g N) (N : Int) = yes) (hN : N ≤ 9223372036854775807) : L FU (g 0) 0 = yes :=
  for_loop N g L yes step stop N FU 0 (by omega) (by have := FU_pos; omega)
theorem scan_loop0 {S R : Type} (N : Nat) (p : Nat → Bool) (g : Nat → S) (L : Nat → S → Int → Option R) (yes no : Option R)
    (step : ∀ n i : Nat, i < N → L (n + 1) (g i) (i : Int) = if p i = true then L n (g (i + 1)) ((i + 1 : Nat) : Int) else no)
    (stop : ∀ n : Nat, L (n + 1) (g N) (N : Int) = yes) (hN : N ≤ 9223372036854775807) : L FU (g 0) 0 = if (∀ j, j < N → p j = true) then yes else no := by
  have h := scan_loop N p g L yes (fun _ => no) step stop N FU 0 (by omega) (by have := FU_pos; omega)
  refine Eq.trans h ?_
  cases hf : (List.range' 0 N).find? (fun j => !p j) with
  | none => rw [if_pos (fun j hj => find_all.1 hf j (by omega) (by omega))]
  | some j =>
    have h1 := List.find?_some hf
    have h2 := List.mem_of_find?_eq_some hf
    rw [List.mem_range'_1] at h2
    rw [if_neg]
    intro hall
    have := hall j (by omega)
    simp [this] at h1
/-- The same over the elements of a list. -/
theorem list_loop0 {α R : Type} (l : List α) (p : α → Bool) (L : Nat → Int → Option R) (yes no : Option R)
    (step : ∀ (n i : Nat) (x : α), l[i]? = some x → L (n + 1) (i : Int) = if p x = true then L n ((i + 1 : Nat) : Int) else no)
    (stop : ∀ n : Nat, L (n + 1) (l.length : Int) = yes) (hl : l.length ≤ 9223372036854775807) : L FU 0 = if l.all p = true then yes else no := by
  have h := scan_loop0 l.length (fun i => (l[i]?.map p).getD true) (fun _ => ()) (fun n _ i => L n i) yes no (fun n i hi => by
    have hx : l[i]? = some l[i] := by simp [hi]
    rw [step n i _ hx]; simp [hx]) stop hl
  refine Eq.trans h ?_
  by_cases ha : l.all p = true
  · rw [if_pos ha, if_pos]
    intro j hj
    have := List.all_eq_true.1 ha l[j] (List.getElem_mem hj)
    simp [hj, this]
  · rw [if_neg ha, if_neg]
    intro hc
    refine ha (List.all_eq_true.2 fun x hx => ?_)
    obtain ⟨j, hj⟩ := List.getElem?_of_mem hx
    have := hc j (lt_of_at hj)
    simpa [hj] using this
end Go.Tb

set_option linter.unusedVariables false
set_option linter.unusedSimpArgs false
namespace Go.D1
open Go.Tb
theorem known_eq : law01_known = some true := by decide +kernel
theorem for0 {S R : Type} (N : Nat) (g : Nat → S) (L : Nat → S → Int → Option R) (yes : Option R) {s0 : S} (h0 : g 0 = s0)
    (step : ∀ n i : Nat, i < N → L (n + 1) (g i) (i : Int) = L n (g (i + 1)) ((i + 1 : Nat) : Int))
    (stop : ∀ n : Nat, L (n + 1) (g N) (N : Int) = yes) (hN : N ≤ 9223372036854775807) : L FU s0 0 = yes := by
  rw [← h0]; exact for_loop0 N g L yes step stop hN
def gi (l : List Int) (i : Nat) : Int := l.getD i 0
theorem gi_at {l : List Int} {i : Nat} (h : i < l.length) : l[i]? = some (gi l i) := by simp [gi, List.getD, h]
theorem gi_of {l : List Int} {i : Nat} {x : Int} (h : l[i]? = some x) : gi l i = x := by simp [gi, List.getD, h]
theorem gi_set {l : List Int} {i j : Nat} {x : Int} : gi (l.set i x) j = if i = j ∧ j < l.length then x else gi l j := by
  unfold gi
  simp only [List.getD_eq_getElem?_getD, List.getElem?_set]
  by_cases h : i = j
  · subst h
    by_cases h2 : i < l.length
    · simp [h2]
    · simp [h2]
  · simp [h]
theorem gi_ext {l l' : List Int} (hl : l.length = l'.length) (h : ∀ j, j < l.length → gi l j = gi l' j) : l = l' := by
  apply List.ext_getElem?
  intro j
  by_cases hj : j < l.length
  · rw [gi_at hj, gi_at (by omega), h j hj]
  · rw [List.getElem?_eq_none (by omega), List.getElem?_eq_none (by omega)]
def within (n lo hi : Int) : Bool := decide (lo ≤ n) && decide (n ≤ hi)
theorem within_iff {n lo hi : Int} : within n lo hi = true ↔ lo ≤ n ∧ n ≤ hi := by unfold within; simp
theorem lwithin_eq (n lo hi : Int) : level_within n lo hi = some (within n lo hi) := by
  unfold level_within within
  by_cases h : lo ≤ n <;> simp [h]
theorem rwithin_eq (n lo hi : Int) : ref01_within n lo hi = some (within n lo hi) := by
  unfold ref01_within within
  by_cases h : lo ≤ n <;> simp [h]
def okR (s : Survey) (r : Reading) : Bool := within r.from_ 0 (s.points - 1) && within r.to_ 0 (s.points - 1) && !decide (r.from_ = r.to_) && within r.rise (-1000) 1000 && within r.weight 1 3
def validate (s : Survey) : Int := if within s.points 1 5 = true then (if 8 < s.readings.length then 3 else if s.readings.all (okR s) = true then 0 else 1) else 1
theorem Validate_eq (s : Survey) : level_Validate s = some (validate s) := by
  unfold level_Validate validate
  rw [bnd_eq (lwithin_eq _ _ _)]
  by_cases hp : within s.points 1 5 = true
  · have hw := within_iff.1 hp
    rw [if_pos hp, if_pos hp]
    by_cases h8 : 8 < s.readings.length
    · rw [if_pos (by omega), if_pos h8]
    · rw [if_neg (by omega), if_neg h8]
      refine Eq.trans (list_loop0 s.readings (okR s) (level_Validate_L1 s) (some 0) (some 1) (fun k i x hx => ?_) (fun k => ?_) (by omega)) (by split <;> rfl)
      · have := lt_of_at hx
        show level_Validate_B1 s (level_Validate_L1 s k) _ = _
        unfold level_Validate_B1 okR level_Validate_k2
        rw [if_pos (by omega), ix_nat hx, gd_pos (by omega), bnd_eq (lwithin_eq _ _ _)]
        cases h1 : within x.from_ 0 (s.points - 1)
        · rw [if_neg (by simp), if_pos rfl]; rfl
        · rw [if_pos rfl, gd_pos (by omega), bnd_eq (lwithin_eq _ _ _)]
          cases h2 : within x.to_ 0 (s.points - 1)
          · rw [if_neg (by simp), if_pos rfl]; rfl
          · rw [if_pos rfl]
            by_cases h3 : x.from_ = x.to_
            · rw [if_pos h3, if_pos rfl, decide_eq_true h3]; rfl
            · rw [if_neg h3, decide_eq_false h3, bnd_eq (lwithin_eq _ _ _)]
              cases h4 : within x.rise (-1000) 1000
              · rw [if_neg (by simp), if_pos rfl]; rfl
              · rw [if_pos rfl, bnd_eq (lwithin_eq _ _ _)]
                cases h5 : within x.weight 1 3
                · rw [if_pos (by rfl)]; rfl
                · rw [if_neg (by simp), gd_pos (by omega)]; rfl
      · show level_Validate_B1 s (level_Validate_L1 s k) _ = _
        unfold level_Validate_B1
        rw [if_neg (by omega)]; rfl
  · rw [if_neg hp, if_neg hp]
theorem rValidate_eq (s : Survey) : ref01_Validate s = some (validate s) := by
  unfold ref01_Validate validate
  rw [bnd_eq (rwithin_eq _ _ _)]
  by_cases hp : within s.points 1 5 = true
  · have hw := within_iff.1 hp
    rw [if_pos hp, if_pos hp]
    by_cases h8 : 8 < s.readings.length
    · rw [if_pos (by omega), if_pos h8]
    · rw [if_neg (by omega), if_neg h8]
      refine Eq.trans (list_loop0 s.readings (okR s) (ref01_Validate_L1 s) (some 0) (some 1) (fun k i x hx => ?_) (fun k => ?_) (by omega)) (by split <;> rfl)
      · have := lt_of_at hx
        show ref01_Validate_B1 s (ref01_Validate_L1 s k) _ = _
        unfold ref01_Validate_B1 okR ref01_Validate_k2
        rw [if_pos (by omega), ix_nat hx, gd_pos (by omega), bnd_eq (rwithin_eq _ _ _)]
        cases h1 : within x.from_ 0 (s.points - 1)
        · rw [if_neg (by simp), if_pos rfl]; rfl
        · rw [if_pos rfl, gd_pos (by omega), bnd_eq (rwithin_eq _ _ _)]
          cases h2 : within x.to_ 0 (s.points - 1)
          · rw [if_neg (by simp), if_pos rfl]; rfl
          · rw [if_pos rfl]
            by_cases h3 : x.from_ = x.to_
            · rw [if_pos h3, if_pos rfl, decide_eq_true h3]; rfl
            · rw [if_neg h3, decide_eq_false h3, bnd_eq (rwithin_eq _ _ _)]
              cases h4 : within x.rise (-1000) 1000
              · rw [if_neg (by simp), if_pos rfl]; rfl
              · rw [if_pos rfl, bnd_eq (rwithin_eq _ _ _)]
                cases h5 : within x.weight 1 3
                · rw [if_pos (by rfl)]; rfl
                · rw [if_neg (by simp), gd_pos (by omega)]; rfl
      · show ref01_Validate_B1 s (ref01_Validate_L1 s k) _ = _
        unfold ref01_Validate_B1
        rw [if_neg (by omega)]; rfl
  · rw [if_neg hp, if_neg hp]
structure SvOk (s : Survey) : Prop where
  p1 : 1 ≤ s.points
  p5 : s.points ≤ 5
  len : s.readings.length ≤ 8
  rd : ∀ r ∈ s.readings, (0 ≤ r.from_ ∧ r.from_ < s.points) ∧ (0 ≤ r.to_ ∧ r.to_ < s.points) ∧ r.from_ ≠ r.to_ ∧ (-1000 ≤ r.rise ∧ r.rise ≤ 1000) ∧ (1 ≤ r.weight ∧ r.weight ≤ 3)
theorem val0 {s : Survey} : validate s = 0 ↔ SvOk s := by
  unfold validate
  constructor
  · intro h
    split at h
    · rename_i hp
      have hw := within_iff.1 hp
      split at h
      · omega
      · split at h
        · rename_i hall
          refine ⟨hw.1, hw.2, by omega, fun r hr => ?_⟩
          have := List.all_eq_true.1 hall r hr
          unfold okR at this
          simp only [Bool.and_eq_true, within_iff, Bool.not_eq_true', decide_eq_false_iff_not] at this
          omega
        · omega
    · omega
  · intro h
    rw [if_pos (within_iff.2 ⟨h.p1, h.p5⟩), if_neg (by have := h.len; omega), if_pos]
    rw [List.all_eq_true]
    intro r hr
    have := h.rd r hr
    unfold okR
    simp only [Bool.and_eq_true, within_iff, Bool.not_eq_true', decide_eq_false_iff_not]
    omega
theorem Long_eq (s : Survey) : law01_Long s = some (decide ((100 : Int) < (s.readings.length : Int))) := rfl
theorem SameInts_self {l : List Int} (hl : l.length ≤ 1000000) : ref01_SameInts l l = some true := by
  unfold ref01_SameInts
  rw [if_pos rfl, list_loop0 l (fun _ => true) (ref01_SameInts_L1 l l) (some true) (some false) (fun k i x hx => ?_) (fun k => ?_) (by omega)]
  · rw [if_pos (by simp)]
  · have := lt_of_at hx
    show ref01_SameInts_B1 l l (ref01_SameInts_L1 l l k) _ = _
    unfold ref01_SameInts_B1
    rw [if_pos (by omega), ix_nat hx, ix_nat hx, if_pos rfl, gd_pos (by omega), if_pos rfl]; rfl
  · show ref01_SameInts_B1 l l (ref01_SameInts_L1 l l k) _ = _
    unfold ref01_SameInts_B1
    rw [if_neg (by omega)]; rfl
end Go.D1

set_option linter.unusedVariables false
set_option linter.unusedSimpArgs false
namespace Go.D1
open Go.Tb
def gr (l : List Reading) (i : Nat) : Reading := l.getD i ⟨0, 0, 0, 0⟩
theorem gr_at {l : List Reading} {i : Nat} (h : i < l.length) : l[i]? = some (gr l i) := by simp [gr, List.getD, h]
theorem gr_ok {s : Survey} (h : SvOk s) {i : Nat} (hi : i < s.readings.length) : (0 ≤ (gr s.readings i).from_ ∧ (gr s.readings i).from_ < s.points) ∧ (0 ≤ (gr s.readings i).to_ ∧ (gr s.readings i).to_ < s.points) ∧ (gr s.readings i).from_ ≠ (gr s.readings i).to_ ∧ (-1000 ≤ (gr s.readings i).rise ∧ (gr s.readings i).rise ≤ 1000) ∧ (1 ≤ (gr s.readings i).weight ∧ (gr s.readings i).weight ≤ 3) := h.rd _ (List.mem_of_getElem? (gr_at hi))
/-- Joined by the first j readings. -/
inductive Con (s : Survey) (j : Nat) : Int → Int → Prop where
  | refl (a : Int) : Con s j a a
  | edge {i : Nat} : i < j → i < s.readings.length → Con s j (gr s.readings i).from_ (gr s.readings i).to_
  | symm {a b : Int} : Con s j a b → Con s j b a
  | trans {a b c : Int} : Con s j a b → Con s j b c → Con s j a c
theorem Con.mono {s : Survey} {j k : Nat} (hjk : j ≤ k) {a b : Int} (h : Con s j a b) : Con s k a b := by
  induction h with
  | refl a => exact .refl a
  | edge h1 h2 => exact .edge (by omega) h2
  | symm _ ih => exact ih.symm
  | trans _ _ i1 i2 => exact i1.trans i2
/-- A list that gives the smallest point of each point's part. -/
structure Roots (s : Survey) (j : Nat) (f : List Int) : Prop where
  len : f.length = s.points.toNat
  le : ∀ i, i < f.length → 0 ≤ gi f i ∧ gi f i ≤ i
  con : ∀ i, i < f.length → Con s j (gi f i) (i : Int)
  same : ∀ i, i < j → i < s.readings.length → gi f (gr s.readings i).from_.toNat = gi f (gr s.readings i).to_.toNat
theorem Roots.eq_of {s : Survey} (hs : SvOk s) {j : Nat} {f : List Int} (h : Roots s j f) {a b : Int} (hc : Con s j a b) : (0 ≤ a ∧ a < s.points ↔ 0 ≤ b ∧ b < s.points) ∧ (0 ≤ a ∧ a < s.points → gi f a.toNat = gi f b.toNat) := by
  induction hc with
  | refl a => exact ⟨Iff.rfl, fun _ => rfl⟩
  | edge h1 h2 =>
    have := gr_ok hs h2
    exact ⟨by omega, fun _ => h.same _ h1 h2⟩
  | symm _ ih => exact ⟨ih.1.symm, fun hb => (ih.2 (ih.1.2 hb)).symm⟩
  | trans _ _ i1 i2 => exact ⟨i1.1.trans i2.1, fun ha => (i1.2 ha).trans (i2.2 (i1.1.1 ha))⟩
theorem Roots.uniq {s : Survey} (hs : SvOk s) {j : Nat} {f g : List Int} (hf : Roots s j f) (hg : Roots s j g) : f = g := by
  have hp := hs.p1
  refine gi_ext (by rw [hf.len, hg.len]) fun i hi => ?_
  have hfl := hf.len
  have hgl := hg.len
  have key : ∀ {f g : List Int}, Roots s j f → Roots s j g → ∀ i, i < s.points.toNat → gi g i ≤ gi f i := fun {f g} hf hg i hi => by
    have h1 := hf.le i (by rw [hf.len]; exact hi)
    have h2 := (hg.eq_of hs (hf.con i (by rw [hf.len]; exact hi))).2 (by omega)
    have h3 := hg.le (gi f i).toNat (by rw [hg.len]; omega)
    rw [show ((i : Int)).toNat = i by omega] at h2
    omega
  have := key hf hg i (by omega)
  have := key hg hf i (by omega)
  omega
def relab (f : List Int) (a b : Int) : List Int := f.map fun x => if x = max (gi f a.toNat) (gi f b.toNat) then min (gi f a.toNat) (gi f b.toNat) else x
theorem relab_len (f : List Int) (a b : Int) : (relab f a b).length = f.length := by unfold relab; simp
theorem relab_gi {f : List Int} {a b : Int} {i : Nat} (hi : i < f.length) : gi (relab f a b) i = if gi f i = max (gi f a.toNat) (gi f b.toNat) then min (gi f a.toNat) (gi f b.toNat) else gi f i := by
  apply gi_of
  unfold relab
  rw [List.getElem?_map, gi_at hi]; rfl
theorem join_eq {f : List Int} {a b : Int} (hf : f.length ≤ 1000) (ha : 0 ≤ a ∧ a < (f.length : Int)) (hb : 0 ≤ b ∧ b < (f.length : Int)) : level_forest_1 f a b = some (!decide (gi f a.toNat = gi f b.toNat), relab f a b) := by
  have hA : f[a.toNat]? = some (gi f a.toNat) := gi_at (by omega)
  have hB : f[b.toNat]? = some (gi f b.toNat) := gi_at (by omega)
  unfold level_forest_1
  rw [ix_eq ha.1 hA, ix_eq hb.1 hB, ix_eq ha.1 hA, ix_eq hb.1 hB]
  refine Eq.trans (for0 f.length (fun i => (relab f a b).take i ++ f.drop i) (fun k s i => level_forest_1_L1 f (gi f a.toNat) (gi f b.toNat) (gi f a.toNat) (gi f b.toNat) k i s) (some (!decide (gi f a.toNat = gi f b.toNat), relab f a b)) (by simp) (fun k i hi => ?_) (fun k => ?_) (by omega)) rfl
  · show level_forest_1_B1 f _ _ _ _ (level_forest_1_L1 f _ _ _ _ k) _ _ = _
    have hl := relab_len f a b
    have hx : ((relab f a b).take i ++ f.drop i)[i]? = some (gi f i) := by
      rw [List.getElem?_append_right (by rw [List.length_take]; omega), List.length_take, hl, List.getElem?_drop, show i + (i - min i f.length) = i by omega]
      exact gi_at hi
    have hnext : (relab f a b).take (i + 1) ++ f.drop (i + 1) = ((relab f a b).take i ++ f.drop i).set i (gi (relab f a b) i) := by
      rw [List.set_append_right _ _ (by rw [List.length_take]; omega), List.length_take, hl, show i - min i f.length = 0 by omega, List.drop_eq_getElem_cons hi, List.set_cons_zero, List.take_add_one, gi_at (by omega)]
      simp
    unfold level_forest_1_B1 level_forest_1_k2
    rw [if_pos (by omega), ix_nat hx]
    by_cases hm : gi f i = max (gi f a.toNat) (gi f b.toNat)
    · rw [if_pos hm, ix_nat hx, gd_pos (by omega), hnext, relab_gi hi, if_pos hm]; rfl
    · rw [if_neg hm, gd_pos (by omega), hnext, relab_gi hi, if_neg hm]
      have e : ((relab f a b).take i ++ f.drop i).set i (gi f i) = (relab f a b).take i ++ f.drop i := by
        apply List.ext_getElem?
        intro q
        rw [List.getElem?_set]
        by_cases hq : i = q
        · subst hq; rw [if_pos rfl, if_pos (lt_of_at hx), hx]
        · rw [if_neg hq]
      rw [e]; rfl
  · show level_forest_1_B1 f _ _ _ _ (level_forest_1_L1 f _ _ _ _ k) _ _ = _
    unfold level_forest_1_B1 level_forest_1_k1
    have hl := relab_len f a b
    rw [if_neg (by omega), List.drop_of_length_le (Nat.le_refl _), List.append_nil, List.take_of_length_le (by omega)]
    congr 3
    exact decide_eq_decide.2 (by omega)
def iota (n : Nat) : List Int := (List.range n).map fun (i : Nat) => (i : Int)
theorem iota_gi {n i : Nat} (h : i < n) : gi (iota n) i = i := by
  apply gi_of
  unfold iota
  rw [List.getElem?_map, List.getElem?_range h]; rfl
theorem iota_len (n : Nat) : (iota n).length = n := by unfold iota; simp
theorem iota_succ (n : Nat) : iota (n + 1) = iota n ++ [(n : Int)] := by unfold iota; rw [List.range_succ, List.map_append]; rfl
def firsts (s : Survey) : Nat → List Int
  | 0 => iota s.points.toNat
  | j + 1 => relab (firsts s j) (gr s.readings j).from_ (gr s.readings j).to_
theorem firsts_ok {s : Survey} (hs : SvOk s) : ∀ j, j ≤ s.readings.length → Roots s j (firsts s j)
  | 0, _ => {
    len := iota_len _
    le := fun i hi => by
      simp only [firsts] at hi ⊢
      rw [iota_len] at hi
      rw [iota_gi hi]; omega
    con := fun i hi => by
      simp only [firsts] at hi ⊢
      rw [iota_len] at hi
      rw [iota_gi hi]; exact .refl _
    same := fun i hi => by omega }
  | j + 1, hj => by
    have ih := firsts_ok hs j (by omega)
    have hr := gr_ok hs (i := j) (by omega)
    have hl := ih.len
    have hp := hs.p1
    have la := ih.le (gr s.readings j).from_.toNat (by omega)
    have lb := ih.le (gr s.readings j).to_.toNat (by omega)
    have ca := (ih.con (gr s.readings j).from_.toNat (by omega)).mono (Nat.le_succ j)
    have cb := (ih.con (gr s.readings j).to_.toNat (by omega)).mono (Nat.le_succ j)
    rw [show (((gr s.readings j).from_.toNat : Nat) : Int) = (gr s.readings j).from_ by omega] at ca
    rw [show (((gr s.readings j).to_.toNat : Nat) : Int) = (gr s.readings j).to_ by omega] at cb
    have cab : Con s (j + 1) (gi (firsts s j) (gr s.readings j).from_.toNat) (gi (firsts s j) (gr s.readings j).to_.toNat) := ca.trans ((Con.edge (Nat.lt_succ_self j) (by omega)).trans cb.symm)
    have hg : ∀ i, i < (firsts s j).length → gi (firsts s (j + 1)) i = if gi (firsts s j) i = max (gi (firsts s j) (gr s.readings j).from_.toNat) (gi (firsts s j) (gr s.readings j).to_.toNat) then min (gi (firsts s j) (gr s.readings j).from_.toNat) (gi (firsts s j) (gr s.readings j).to_.toNat) else gi (firsts s j) i := fun i hi => relab_gi hi
    generalize hA : gi (firsts s j) (gr s.readings j).from_.toNat = A at *
    generalize hB : gi (firsts s j) (gr s.readings j).to_.toNat = B at *
    have hl' : (firsts s (j + 1)).length = (firsts s j).length := relab_len _ _ _
    refine ⟨by rw [hl', hl], fun i hi => ?_, fun i hi => ?_, fun i hi hi2 => ?_⟩
    · rw [hl'] at hi
      have := ih.le i hi
      rw [hg i hi]
      split <;> omega
    · rw [hl'] at hi
      rw [hg i hi]
      have hc := (ih.con i hi).mono (Nat.le_succ j)
      split
      · rename_i he
        rw [he] at hc
        have cm : Con s (j + 1) (min A B) (max A B) := by
          rcases Int.le_total A B with h | h
          · rw [show min A B = A by omega, show max A B = B by omega]; exact cab
          · rw [show min A B = B by omega, show max A B = A by omega]; exact cab.symm
        exact cm.trans hc
      · exact hc
    · have hri := gr_ok hs hi2
      rw [hg _ (by omega), hg _ (by omega)]
      by_cases e : i = j
      · subst e
        rw [hA, hB]
        split <;> split <;> omega
      · rw [ih.same i (by omega) hi2]
def treeL (s : Survey) : Nat → List Int
  | 0 => []
  | j + 1 => treeL s j ++ (if gi (firsts s j) (gr s.readings j).from_.toNat = gi (firsts s j) (gr s.readings j).to_.toNat then [] else [(j : Int)])
theorem treeL_len (s : Survey) : ∀ j, (treeL s j).length ≤ j
  | 0 => Nat.le_refl _
  | j + 1 => by
    have := treeL_len s j
    simp only [treeL]
    split <;> simp <;> omega
theorem forest_eq {s : Survey} (hs : SvOk s) : level_forest s = some (firsts s s.readings.length, treeL s s.readings.length) := by
  have hp := hs.p1
  have hp5 := hs.p5
  have h8 := hs.len
  unfold level_forest
  refine for0 s.points.toNat iota (fun k l i => level_forest_L2 s k i l) _ rfl (fun k i hi => ?_) (fun k => ?_) (by omega)
  · show level_forest_B2 s (level_forest_L2 s k) _ _ = _
    unfold level_forest_B2
    have := iota_len i
    rw [if_pos (by omega), gd_pos (by rw [this]; simp; omega), gd_pos (by omega), iota_succ]; rfl
  · show level_forest_B2 s (level_forest_L2 s k) _ _ = _
    unfold level_forest_B2 level_forest_k3
    rw [if_neg (by omega)]
    refine for0 s.readings.length (fun i => (treeL s i, firsts s i)) (fun k l i => level_forest_L1 s k i l.1 l.2) _ (s0 := ([], iota s.points.toNat)) rfl (fun k i hi => ?_) (fun k => ?_) (by omega)
    · show level_forest_B1 s (level_forest_L1 s k) (i : Int) (treeL s i) (firsts s i) = _
      have hF := firsts_ok hs i (by omega)
      have hl := hF.len
      have hr := gr_ok hs hi
      have ht := treeL_len s i
      unfold level_forest_B1 level_forest_k2
      rw [if_pos (by omega), ix_nat (gr_at hi), bnd_eq (join_eq (by omega) (by omega) (by omega))]
      simp only [treeL, firsts]
      by_cases he : gi (firsts s i) (gr s.readings i).from_.toNat = gi (firsts s i) (gr s.readings i).to_.toNat
      · rw [if_neg (by simp [he]), gd_pos (by omega), if_pos he, List.append_nil]; rfl
      · rw [if_pos (by simp [he]), gd_pos (by simp; omega), gd_pos (by omega), if_neg he]; rfl
    · show level_forest_B1 s (level_forest_L1 s k) _ _ _ = _
      unfold level_forest_B1
      rw [if_neg (by omega)]; rfl
/-- What is kept while points are told smaller ones. -/
structure Pre (s : Survey) (j : Nat) (f : List Int) : Prop where
  len : f.length = s.points.toNat
  le : ∀ i, i < f.length → 0 ≤ gi f i ∧ gi f i ≤ i
  con : ∀ i, i < f.length → Con s j (gi f i) (i : Int)
def tot : List Int → Nat
  | [] => 0
  | x :: r => x.toNat + tot r
theorem tot_set : ∀ {l : List Int} {i : Nat} {x : Int}, i < l.length → tot (l.set i x) + (gi l i).toNat = tot l + x.toNat
  | [], i, x, h => by simp at h
  | y :: r, 0, x, h => by simp [tot, gi]; omega
  | y :: r, i + 1, x, h => by
    have := tot_set (l := r) (i := i) (x := x) (by simpa using h)
    have e : gi (y :: r) (i + 1) = gi r i := by simp [gi]
    simp only [List.set_cons_succ, tot, e]; omega
theorem tot_le {B : Nat} : ∀ {l : List Int}, (∀ x ∈ l, x.toNat ≤ B) → tot l ≤ B * l.length
  | [], _ => Nat.le_refl _
  | x :: r, h => by
    have := tot_le (l := r) (fun y hy => h y (List.mem_cons_of_mem _ hy))
    have := h x (List.mem_cons_self ..)
    simp only [tot, List.length_cons, Nat.mul_succ]; omega
/-- One step: two points are told the smaller number. -/
def step (f : List Int) (a b : Nat) : List Int := (f.set a (min (gi f a) (gi f b))).set b (min (gi f a) (gi f b))
theorem step_len (f : List Int) (a b : Nat) : (step f a b).length = f.length := by unfold step; simp
theorem step_gi {f : List Int} {a b : Nat} (ha : a < f.length) (hb : b < f.length) (i : Nat) : gi (step f a b) i = if i = a ∨ i = b then min (gi f a) (gi f b) else gi f i := by
  unfold step
  rw [gi_set, gi_set]
  simp only [List.length_set]
  by_cases h1 : b = i
  · subst h1; rw [if_pos ⟨rfl, hb⟩, if_pos (.inr rfl)]
  · rw [if_neg (fun h => h1 h.1)]
    by_cases h2 : a = i
    · subst h2; rw [if_pos ⟨rfl, ha⟩, if_pos (.inl rfl)]
    · rw [if_neg (fun h => h2 h.1), if_neg (by omega)]
theorem step_pre {s : Survey} (hs : SvOk s) {j : Nat} {f : List Int} (h : Pre s j f) {i : Nat} (hi : i < j) (hi2 : i < s.readings.length) (hne : gi f (gr s.readings i).from_.toNat ≠ gi f (gr s.readings i).to_.toNat) :
    Pre s j (step f (gr s.readings i).from_.toNat (gr s.readings i).to_.toNat) ∧ tot (step f (gr s.readings i).from_.toNat (gr s.readings i).to_.toNat) < tot f := by
  have hr := gr_ok hs hi2
  have hl := h.len
  have ha : (gr s.readings i).from_.toNat < f.length := by omega
  have hb : (gr s.readings i).to_.toNat < f.length := by omega
  have hab : (gr s.readings i).from_.toNat ≠ (gr s.readings i).to_.toNat := by omega
  have ca := h.con _ ha
  have cb := h.con _ hb
  rw [show (((gr s.readings i).from_.toNat : Nat) : Int) = (gr s.readings i).from_ by omega] at ca
  rw [show (((gr s.readings i).to_.toNat : Nat) : Int) = (gr s.readings i).to_ by omega] at cb
  have ce : Con s j (gr s.readings i).from_ (gr s.readings i).to_ := .edge hi hi2
  have la := h.le _ ha
  have lb := h.le _ hb
  constructor
  · refine ⟨by rw [step_len, hl], fun q hq => ?_, fun q hq => ?_⟩
    · rw [step_len] at hq
      have := h.le q hq
      rw [step_gi ha hb]
      split
      · rename_i e
        rcases e with e | e <;> subst e <;> omega
      · exact this
    · rw [step_len] at hq
      rw [step_gi ha hb]
      split
      · rename_i e
        have cm : Con s j (min (gi f (gr s.readings i).from_.toNat) (gi f (gr s.readings i).to_.toNat)) (gr s.readings i).from_ := by
          rcases Int.le_total (gi f (gr s.readings i).from_.toNat) (gi f (gr s.readings i).to_.toNat) with h | h
          · rw [show min (gi f (gr s.readings i).from_.toNat) (gi f (gr s.readings i).to_.toNat) = gi f (gr s.readings i).from_.toNat by omega]; exact ca
          · rw [show min (gi f (gr s.readings i).from_.toNat) (gi f (gr s.readings i).to_.toNat) = gi f (gr s.readings i).to_.toNat by omega]; exact cb.trans ce.symm
        rcases e with e | e
        · rw [e, show (((gr s.readings i).from_.toNat : Nat) : Int) = (gr s.readings i).from_ by omega]; exact cm
        · rw [e, show (((gr s.readings i).to_.toNat : Nat) : Int) = (gr s.readings i).to_ by omega]; exact cm.trans ce
      · exact h.con q hq
  · have t1 := tot_set (l := f) (x := min (gi f (gr s.readings i).from_.toNat) (gi f (gr s.readings i).to_.toNat)) ha
    have t2 := tot_set (l := f.set (gr s.readings i).from_.toNat (min (gi f (gr s.readings i).from_.toNat) (gi f (gr s.readings i).to_.toNat))) (x := min (gi f (gr s.readings i).from_.toNat) (gi f (gr s.readings i).to_.toNat)) (i := (gr s.readings i).to_.toNat) (by rw [List.length_set]; exact hb)
    rw [gi_set, if_neg (fun h => hab h.1)] at t2
    unfold step
    omega
/-- One round of the document's search. -/
theorem round_eq {s : Survey} (hs : SvOk s) {j : Nat} (hj : j ≤ s.readings.length) (rec2 : Bool → List Int → Option (List Int)) : ∀ (d i k : Nat) (f : List Int) (b : Bool), j = i + d → d < k → Pre s j f → (b = false → ∀ q, q < i → gi f (gr s.readings q).from_.toNat = gi f (gr s.readings q).to_.toNat) →
    ∃ f' b', ref01_roots_L1 s (j : Int) rec2 k b (i : Int) f = rec2 b' f' ∧ Pre s j f' ∧ tot f' ≤ tot f ∧ (b = true → b' = true) ∧ (b = false → b' = true → tot f' < tot f) ∧ (b' = false → Roots s j f')
  | 0, i, k + 1, f, b, hd, hk, hP, hb => by
    have h8 := hs.len
    refine ⟨f, b, ?_, hP, Nat.le_refl _, id, (fun h1 h2 => by rw [h1] at h2; cases h2), fun h => ⟨hP.len, hP.le, hP.con, fun q hq hq2 => hb h q (by omega)⟩⟩
    show ref01_roots_B1 s (j : Int) rec2 (ref01_roots_L1 s (j : Int) rec2 k) b _ f = _
    unfold ref01_roots_B1
    rw [if_neg (by omega)]
  | d + 1, i, k + 1, f, b, hd, hk, hP, hb => by
    have h8 := hs.len
    have hi2 : i < s.readings.length := by omega
    have hr := gr_ok hs hi2
    have hl := hP.len
    have hA : f[(gr s.readings i).from_.toNat]? = some (gi f (gr s.readings i).from_.toNat) := gi_at (by omega)
    have hB : f[(gr s.readings i).to_.toNat]? = some (gi f (gr s.readings i).to_.toNat) := gi_at (by omega)
    have e : ref01_roots_L1 s (j : Int) rec2 (k + 1) b (i : Int) f = ref01_roots_B1 s (j : Int) rec2 (ref01_roots_L1 s (j : Int) rec2 k) b (i : Int) f := rfl
    rw [e]
    unfold ref01_roots_B1 ref01_roots_k2
    rw [if_pos (by omega), ix_nat (gr_at hi2), ix_nat (gr_at hi2), ix_eq hr.1.1 hA, ix_eq hr.2.1.1 hB]
    by_cases he : gi f (gr s.readings i).from_.toNat = gi f (gr s.readings i).to_.toNat
    · rw [if_pos he, gd_pos (by omega)]
      exact round_eq hs hj rec2 d (i + 1) k f b (by omega) (by omega) hP (fun h q hq => by
        by_cases e : q = i
        · subst e; exact he
        · exact hb h q (by omega))
    · rw [if_neg he, ix_eq hr.1.1 hA, ix_eq hr.2.1.1 hB, ix_eq hr.1.1 hA]
      have ⟨s1, s2⟩ := step_pre hs hP (i := i) (by omega) hi2 he
      have hX : (f.set (gr s.readings i).from_.toNat (min (gi f (gr s.readings i).from_.toNat) (gi f (gr s.readings i).to_.toNat)))[(gr s.readings i).to_.toNat]? = some (gi (f.set (gr s.readings i).from_.toNat (min (gi f (gr s.readings i).from_.toNat) (gi f (gr s.readings i).to_.toNat))) (gr s.readings i).to_.toNat) := gi_at (by rw [List.length_set]; omega)
      rw [ix_eq hr.2.1.1 hX, gd_pos (by omega)]
      obtain ⟨f', b', q1, q2, q3, q4, q5, q6⟩ := round_eq hs hj rec2 d (i + 1) k (step f (gr s.readings i).from_.toNat (gr s.readings i).to_.toNat) true (by omega) (by omega) s1 (fun h => by cases h)
      exact ⟨f', b', q1, q2, by omega, fun _ => q4 rfl, fun _ _ => by omega, q6⟩
theorem rounds_eq {s : Survey} (hs : SvOk s) {j : Nat} (hj : j ≤ s.readings.length) : ∀ (q k : Nat) (f : List Int), tot f < q → q < k → Pre s j f → ref01_roots_L2 s (j : Int) k true f = some (firsts s j)
  | 0, k, f, hq, _, _ => by omega
  | q + 1, k + 1, f, hq, hk, hP => by
    have e : ref01_roots_L2 s (j : Int) (k + 1) true f = ref01_roots_B2 s (j : Int) (ref01_roots_L2 s (j : Int) k) true f := rfl
    rw [e]
    unfold ref01_roots_B2
    rw [if_pos rfl]
    obtain ⟨f', b', q1, q2, q3, q4, q5, q6⟩ := round_eq hs hj (ref01_roots_L2 s (j : Int) k) j 0 FU f false (by omega) (by have := FU_pos; have := hs.len; omega) hP (fun _ q hq => by omega)
    have q1' : ref01_roots_L1 s (j : Int) (ref01_roots_L2 s (j : Int) k) FU false 0 f = ref01_roots_L2 s (j : Int) k b' f' := q1
    rw [q1']
    cases b' with
    | true => exact rounds_eq hs hj q k f' (by have := q5 rfl rfl; omega) (by omega) q2
    | false =>
      cases k with
      | zero => omega
      | succ k =>
        show ref01_roots_B2 s (j : Int) (ref01_roots_L2 s (j : Int) k) false f' = _
        unfold ref01_roots_B2 ref01_roots_k1
        rw [if_neg (by simp), (q6 rfl).uniq hs (firsts_ok hs j hj)]
theorem roots_eq {s : Survey} (hs : SvOk s) {j : Nat} (hj : j ≤ s.readings.length) : ref01_roots s (j : Int) = some (firsts s j) := by
  have hp := hs.p1
  have hp5 := hs.p5
  have h8 := hs.len
  unfold ref01_roots
  rw [gd_pos (by omega)]
  refine for0 s.points.toNat (fun i => iota i ++ List.replicate (s.points.toNat - i) 0) (fun k l i => ref01_roots_L3 s (j : Int) k i l) _ (by simp [iota]) (fun k i hi => ?_) (fun k => ?_) (by omega)
  · show ref01_roots_B3 s (j : Int) (ref01_roots_L3 s (j : Int) k) _ _ = _
    have hil := iota_len i
    have hx : (iota i ++ List.replicate (s.points.toNat - i) 0)[i]? = some 0 := by
      rw [List.getElem?_append_right (by omega), hil, Nat.sub_self, List.getElem?_replicate, if_pos (by omega)]
    have hn : iota (i + 1) ++ List.replicate (s.points.toNat - (i + 1)) 0 = (iota i ++ List.replicate (s.points.toNat - i) 0).set i (i : Int) := by
      rw [List.set_append_right _ _ (by omega), hil, Nat.sub_self, show s.points.toNat - i = (s.points.toNat - (i + 1)) + 1 by omega, List.replicate_succ, List.set_cons_zero, iota_succ]; simp
    unfold ref01_roots_B3
    rw [if_pos (by omega), ix_nat hx, gd_pos (by omega), hn]; rfl
  · show ref01_roots_B3 s (j : Int) (ref01_roots_L3 s (j : Int) k) _ _ = _
    unfold ref01_roots_B3 ref01_roots_k3
    rw [if_neg (by omega), Nat.sub_self, List.replicate_zero, List.append_nil]
    have h0 := firsts_ok hs 0 (by omega)
    have hP : Pre s j (iota s.points.toNat) := ⟨h0.len, h0.le, fun i hi => (h0.con i hi).mono (Nat.zero_le _)⟩
    have ht : tot (iota s.points.toNat) ≤ 5 * (iota s.points.toNat).length := tot_le fun x hx => by
      obtain ⟨q, hq⟩ := List.getElem?_of_mem hx
      have := hP.le q (lt_of_at hq)
      have := hP.len
      have := lt_of_at hq
      rw [gi_of hq] at *
      omega
    rw [iota_len] at ht
    exact rounds_eq hs hj 100 FU _ (by omega) (by have := FU_pos; omega) hP
end Go.D1

set_option linter.unusedVariables false
set_option linter.unusedSimpArgs false
namespace Go.D1
open Go.Tb
def isRoot (f : List Int) (i : Int) : Bool := decide (gi f i.toNat = i)
def rootsOf (s : Survey) : List Int := firsts s s.readings.length
theorem rootsOf_ok {s : Survey} (hs : SvOk s) : Roots s s.readings.length (rootsOf s) := firsts_ok hs _ (Nat.le_refl _)
theorem whole_eq {s : Survey} (hs : SvOk s) : ref01_whole s = some (rootsOf s) := by
  unfold ref01_whole
  rw [bnd_eq (roots_eq hs (Nat.le_refl _))]; rfl
def treeR (s : Survey) : List Int := treeL s s.readings.length
theorem rtree_eq {s : Survey} (hs : SvOk s) : ref01_tree s = some (treeR s) := by
  have hp := hs.p1
  have hp5 := hs.p5
  have h8 := hs.len
  unfold ref01_tree
  refine for0 s.readings.length (treeL s) (fun k l i => ref01_tree_L1 s k i l) _ rfl (fun k i hi => ?_) (fun k => ?_) (by omega)
  · show ref01_tree_B1 s (ref01_tree_L1 s k) _ _ = _
    have hF := firsts_ok hs i (by omega)
    have hl := hF.len
    have hr := gr_ok hs hi
    have ht := treeL_len s i
    have hA : (firsts s i)[(gr s.readings i).from_.toNat]? = some (gi (firsts s i) (gr s.readings i).from_.toNat) := gi_at (by omega)
    have hB : (firsts s i)[(gr s.readings i).to_.toNat]? = some (gi (firsts s i) (gr s.readings i).to_.toNat) := gi_at (by omega)
    unfold ref01_tree_B1 ref01_tree_k2
    rw [if_pos (by omega), bnd_eq (roots_eq hs (by omega)), ix_nat (gr_at hi), ix_eq hr.1.1 hA, ix_nat (gr_at hi), ix_eq hr.2.1.1 hB]
    simp only [treeL]
    by_cases he : gi (firsts s i) (gr s.readings i).from_.toNat = gi (firsts s i) (gr s.readings i).to_.toNat
    · rw [if_pos he, gd_pos (by omega), if_pos he, List.append_nil]; rfl
    · rw [if_neg he, gd_pos (by simp; omega), gd_pos (by omega), if_neg he]; rfl
  · show ref01_tree_B1 s (ref01_tree_L1 s k) _ _ = _
    unfold ref01_tree_B1
    rw [if_neg (by omega)]; rfl
end Go.D1

set_option linter.unusedVariables false
set_option linter.unusedSimpArgs false
namespace Go.D1
open Go.Tb
def gb (l : List Bool) (i : Nat) : Bool := l.getD i false
theorem gb_at {l : List Bool} {i : Nat} (h : i < l.length) : l[i]? = some (gb l i) := by simp [gb, List.getD, h]
theorem gb_set {l : List Bool} {i j : Nat} {x : Bool} : gb (l.set i x) j = if i = j ∧ j < l.length then x else gb l j := by
  unfold gb
  simp only [List.getD_eq_getElem?_getD, List.getElem?_set]
  by_cases h : i = j
  · subst h
    by_cases h2 : i < l.length
    · simp [h2]
    · simp [h2]
  · simp [h]
abbrev HK := List Int × List Bool
/-- One reading of the tree is gone along, if one of its points alone is known. -/
def go1 (r : Reading) (x : HK) : HK :=
  if gb x.2 r.from_.toNat = true ∧ gb x.2 r.to_.toNat = false then (x.1.set r.to_.toNat (gi x.1 r.from_.toNat + r.rise), x.2.set r.to_.toNat true)
  else if gb x.2 r.to_.toNat = true ∧ gb x.2 r.from_.toNat = false then (x.1.set r.from_.toNat (gi x.1 r.to_.toNat - r.rise), x.2.set r.from_.toNat true)
  else x
def goTo (s : Survey) (l : List Int) (q : Nat) (x : HK) : HK := (l.take q).foldl (fun y k => go1 (gr s.readings k.toNat) y) x
theorem goTo_succ {s : Survey} {l : List Int} {q : Nat} (hq : q < l.length) (x : HK) : goTo s l (q + 1) x = go1 (gr s.readings (gi l q).toNat) (goTo s l q x) := by
  unfold goTo
  rw [List.take_add_one, gi_at hq, List.foldl_append]; rfl
def round1 (s : Survey) (l : List Int) (x : HK) : HK := goTo s l l.length x
def rounds (s : Survey) (l : List Int) (x : HK) : Nat → HK
  | 0 => x
  | q + 1 => round1 s l (rounds s l x q)
structure HB (s : Survey) (B : Int) (x : HK) : Prop where
  l1 : x.1.length = s.points.toNat
  l2 : x.2.length = s.points.toNat
  bd : ∀ i, -B ≤ gi x.1 i ∧ gi x.1 i ≤ B
theorem HB.mono {s : Survey} {B B' : Int} {x : HK} (h : HB s B x) (hb : B ≤ B') : HB s B' x := ⟨h.l1, h.l2, fun i => by have := h.bd i; omega⟩
theorem HB.go {s : Survey} {B : Int} {x : HK} (h : HB s B x) (hB : 0 ≤ B) {r : Reading} (hr : -1000 ≤ r.rise ∧ r.rise ≤ 1000) : HB s (B + 1000) (go1 r x) := by
  have hf := h.bd r.from_.toNat
  have ht := h.bd r.to_.toNat
  unfold go1
  split
  · refine ⟨by simp [h.l1], by simp [h.l2], fun i => ?_⟩
    have := h.bd i
    rw [gi_set]
    split <;> omega
  · split
    · refine ⟨by simp [h.l1], by simp [h.l2], fun i => ?_⟩
      have := h.bd i
      rw [gi_set]
      split <;> omega
    · exact h.mono (by omega)
def okL (s : Survey) (l : List Int) : Prop := ∀ q, q < l.length → 0 ≤ gi l q ∧ gi l q < (s.readings.length : Int)
theorem HB.goTo {s : Survey} (hs : SvOk s) {l : List Int} (hl : okL s l) {B : Int} {x : HK} (h : HB s B x) (hB : 0 ≤ B) : ∀ q, q ≤ l.length → HB s (B + 1000 * (q : Int)) (goTo s l q x)
  | 0, _ => by simpa [D1.goTo] using h
  | q + 1, hq => by
    have ih := HB.goTo hs hl h hB q (by omega)
    have hk := hl q (by omega)
    have hr := gr_ok hs (i := (gi l q).toNat) (by omega)
    rw [goTo_succ (by omega), show B + 1000 * ((q + 1 : Nat) : Int) = B + 1000 * (q : Int) + 1000 by omega]
    exact ih.go (by omega) hr.2.2.2.1
theorem HB.rounds {s : Survey} (hs : SvOk s) {l : List Int} (hl : okL s l) (h8 : l.length ≤ 8) {x : HK} (h : HB s 0 x) : ∀ q : Nat, HB s (8000 * (q : Int)) (rounds s l x q)
  | 0 => by simpa [D1.rounds] using h
  | q + 1 => by
    have := HB.goTo hs hl (HB.rounds hs hl h8 h q) (by omega) l.length (Nat.le_refl _)
    exact this.mono (by omega)
def op (x : HK) (r : Reading) : Bool := !(gb x.2 r.from_.toNat && gb x.2 r.to_.toNat)
def opens (s : Survey) (l : List Int) (x : HK) : Nat := (l.filter fun k => op x (gr s.readings k.toNat)).length
def unk (x : HK) : Nat := (x.2.filter fun b => !b).length
theorem filter_le {α : Type} {p q : α → Bool} : ∀ l : List α, (∀ x ∈ l, p x = true → q x = true) → (l.filter p).length ≤ (l.filter q).length
  | [], _ => Nat.le_refl _
  | x :: r, h => by
    have ih := filter_le (p := p) (q := q) r (fun y hy => h y (List.mem_cons_of_mem _ hy))
    have hx := h x (List.mem_cons_self ..)
    simp only [List.filter_cons]
    by_cases h1 : p x = true
    · rw [if_pos h1, if_pos (hx h1)]; simp only [List.length_cons]; omega
    · rw [if_neg h1]
      split
      · simp only [List.length_cons]; omega
      · exact ih
theorem filter_lt {α : Type} {p q : α → Bool} : ∀ (l : List α) (y : α), y ∈ l → (∀ x ∈ l, p x = true → q x = true) → p y = false → q y = true → (l.filter p).length < (l.filter q).length
  | x :: r, y, hy, h, hp, hq => by
    have h' : ∀ z ∈ r, p z = true → q z = true := fun z hz => h z (List.mem_cons_of_mem _ hz)
    simp only [List.filter_cons]
    rcases List.mem_cons.1 hy with rfl | hy
    · rw [if_neg (by simp [hp]), if_pos hq]
      have := filter_le r h'
      simp only [List.length_cons]; omega
    · have ih := filter_lt r y hy h' hp hq
      have hx := h x (List.mem_cons_self ..)
      by_cases h1 : p x = true
      · rw [if_pos h1, if_pos (hx h1)]; simp only [List.length_cons]; omega
      · rw [if_neg h1]
        split
        · simp only [List.length_cons]; omega
        · exact ih
theorem filter_set : ∀ {l : List Bool} {i : Nat}, i < l.length → gb l i = false → ((l.set i true).filter fun b => !b).length + 1 = (l.filter fun b => !b).length
  | [], i, h, _ => by simp at h
  | b :: r, 0, h, hb => by
    simp [gb] at hb; subst hb
    simp
  | b :: r, i + 1, h, hb => by
    have := filter_set (l := r) (i := i) (by simpa using h) (by simpa [gb] using hb)
    simp only [List.set_cons_succ, List.filter_cons]
    cases b <;> simp <;> omega
/-- What one reading does. -/
theorem go1_cases {s : Survey} {r : Reading} (hr : (0 ≤ r.from_ ∧ r.from_ < s.points) ∧ (0 ≤ r.to_ ∧ r.to_ < s.points) ∧ r.from_ ≠ r.to_) (x : HK) (hx : x.2.length = s.points.toNat) :
    go1 r x = x ∨ (op x r = true ∧ op (go1 r x) r = false ∧ (∀ i, gb x.2 i = true → gb (go1 r x).2 i = true) ∧ unk (go1 r x) + 1 = unk x) := by
  have key : ∀ (u : List Int) (p q : Nat), p < s.points.toNat → gb x.2 q = true → gb x.2 p = false → p ≠ q → (gb (x.2.set p true) q = true ∧ gb (x.2.set p true) p = true) ∧ (∀ i, gb x.2 i = true → gb (x.2.set p true) i = true) ∧ unk (u, x.2.set p true) + 1 = unk x := fun u p q h1 h2 h3 h4 => by
    refine ⟨⟨?_, ?_⟩, fun i hi => ?_, ?_⟩
    · rw [gb_set, if_neg (fun h => h4 h.1)]; exact h2
    · rw [gb_set, if_pos ⟨rfl, by omega⟩]
    · rw [gb_set]
      split
      · rfl
      · exact hi
    · exact filter_set (by omega) h3
  unfold go1
  split
  · rename_i h
    right
    have := key (x.1.set r.to_.toNat (gi x.1 r.from_.toNat + r.rise)) r.to_.toNat r.from_.toNat (by omega) h.1 h.2 (by omega)
    exact ⟨by unfold op; rw [h.1, h.2]; rfl, by unfold op; simp only; rw [this.1.1, this.1.2]; rfl, this.2.1, this.2.2⟩
  · split
    · rename_i h
      right
      have := key (x.1.set r.from_.toNat (gi x.1 r.to_.toNat - r.rise)) r.from_.toNat r.to_.toNat (by omega) h.1 h.2 (by omega)
      exact ⟨by unfold op; rw [h.1, h.2]; rfl, by unfold op; simp only; rw [this.1.1, this.1.2]; rfl, this.2.1, this.2.2⟩
    · exact .inl rfl
theorem go1_len {r : Reading} {x : HK} : (go1 r x).2.length = x.2.length := by
  unfold go1
  split
  · simp
  · split <;> simp
theorem goTo_rest {s : Survey} (hs : SvOk s) {l : List Int} (hl : okL s l) (x : HK) (hx : x.2.length = s.points.toNat) : ∀ q, q ≤ l.length →
    (goTo s l q x).2.length = s.points.toNat ∧ (∀ i, gb x.2 i = true → gb (goTo s l q x).2 i = true) ∧ (goTo s l q x = x ∨ (unk (goTo s l q x) < unk x ∧ opens s l (goTo s l q x) < opens s l x))
  | 0, _ => ⟨hx, fun _ h => h, .inl rfl⟩
  | q + 1, hq => by
    have ⟨h1, h2, h3⟩ := goTo_rest hs hl x hx q (by omega)
    have hk := hl q (by omega)
    have hr := gr_ok hs (i := (gi l q).toNat) (by omega)
    rw [goTo_succ (by omega)]
    have hc := go1_cases (s := s) (r := gr s.readings (gi l q).toNat) ⟨hr.1, hr.2.1, hr.2.2.1⟩ (goTo s l q x) h1
    refine ⟨by rw [go1_len, h1], fun i hi => ?_, ?_⟩
    · rcases hc with h | h
      · rw [h]; exact h2 i hi
      · exact h.2.2.1 i (h2 i hi)
    · rcases hc with h | ⟨o1, o2, o3, o4⟩
      · rw [h]; exact h3
      · right
        have hop : opens s l (go1 (gr s.readings (gi l q).toNat) (goTo s l q x)) < opens s l (goTo s l q x) := by
          refine filter_lt l (gi l q) (List.mem_of_getElem? (gi_at (by omega))) (fun k _ hk' => ?_) o2 o1
          unfold op at hk' ⊢
          simp only [Bool.not_eq_true', Bool.and_eq_false_iff] at hk' ⊢
          rcases hk' with h | h
          · left
            cases hq' : gb (goTo s l q x).2 (gr s.readings k.toNat).from_.toNat
            · rfl
            · rw [o3 _ hq'] at h; cases h
          · right
            cases hq' : gb (goTo s l q x).2 (gr s.readings k.toNat).to_.toNat
            · rfl
            · rw [o3 _ hq'] at h; cases h
        rcases h3 with h3 | h3
        · rw [h3] at hop o4 ⊢
          exact ⟨by omega, hop⟩
        · exact ⟨by omega, by omega⟩
theorem rounds_len {s : Survey} (hs : SvOk s) {l : List Int} (hl : okL s l) {x : HK} (hx : x.2.length = s.points.toNat) : ∀ q, (rounds s l x q).2.length = s.points.toNat
  | 0 => hx
  | q + 1 => (goTo_rest hs hl _ (rounds_len hs hl hx q) l.length (Nat.le_refl _)).1
theorem rounds_rest {s : Survey} (hs : SvOk s) {l : List Int} (hl : okL s l) {x : HK} (hx : x.2.length = s.points.toNat) (μ : HK → Nat) (hμ : ∀ y : HK, y.2.length = s.points.toNat → round1 s l y = y ∨ μ (round1 s l y) < μ y) : ∀ q : Nat, round1 s l (rounds s l x q) = rounds s l x q ∨ μ (rounds s l x q) + q ≤ μ x
  | 0 => .inr (by simp [rounds])
  | q + 1 => by
    rcases rounds_rest hs hl hx μ hμ q with h | h
    · left
      show round1 s l (round1 s l (rounds s l x q)) = round1 s l (rounds s l x q)
      rw [h, h]
    · rcases hμ _ (rounds_len hs hl hx q) with h2 | h2
      · left
        show round1 s l (round1 s l (rounds s l x q)) = round1 s l (rounds s l x q)
        rw [h2, h2]
      · right
        show μ (round1 s l (rounds s l x q)) + (q + 1) ≤ μ x
        omega
theorem rounds_stay {s : Survey} {l : List Int} {x : HK} {q : Nat} (h : round1 s l (rounds s l x q) = rounds s l x q) : ∀ d, rounds s l x (q + d) = rounds s l x q
  | 0 => rfl
  | d + 1 => by
    show round1 s l (rounds s l x (q + d)) = _
    rw [rounds_stay h d, h]
theorem rounds_same {s : Survey} (hs : SvOk s) {l : List Int} (hl : okL s l) {x : HK} (hx : x.2.length = s.points.toNat) {a b : Nat} (ha : l.length ≤ a) (hb : s.points.toNat ≤ b) : rounds s l x a = rounds s l x b := by
  have fa : round1 s l (rounds s l x a) = rounds s l x a := by
    rcases rounds_rest hs hl hx (opens s l) (fun y hy => by
      rcases (goTo_rest hs hl y hy l.length (Nat.le_refl _)).2.2 with h | h
      · exact .inl h
      · exact .inr h.2) a with h | h
    · exact h
    · have h1 : opens s l x ≤ l.length := List.length_filter_le _ _
      rcases (goTo_rest hs hl _ (rounds_len hs hl hx a) l.length (Nat.le_refl _)).2.2 with h2 | h2
      · exact h2
      · have := h2.2; omega
  have fb : round1 s l (rounds s l x b) = rounds s l x b := by
    rcases rounds_rest hs hl hx unk (fun y hy => by
      rcases (goTo_rest hs hl y hy l.length (Nat.le_refl _)).2.2 with h | h
      · exact .inl h
      · exact .inr h.1) b with h | h
    · exact h
    · have h1 : unk x ≤ x.2.length := List.length_filter_le _ _
      rcases (goTo_rest hs hl _ (rounds_len hs hl hx b) l.length (Nat.le_refl _)).2.2 with h2 | h2
      · exact h2
      · have := h2.1; omega
  rcases Nat.le_total a b with h | h
  · rw [show b = a + (b - a) by omega, rounds_stay fa]
  · rw [show a = b + (a - b) by omega, rounds_stay fb]
end Go.D1

set_option linter.unusedVariables false
set_option linter.unusedSimpArgs false
namespace Go.D1
open Go.Tb
theorem treeL_ok (s : Survey) : ∀ j, j ≤ s.readings.length → ∀ x ∈ treeL s j, 0 ≤ x ∧ x < (j : Int)
  | 0, _, x, hx => by simp [treeL] at hx
  | j + 1, hj, x, hx => by
    simp only [treeL] at hx
    rcases List.mem_append.1 hx with h | h
    · have := treeL_ok s j (by omega) x h; omega
    · split at h
      · simp at h
      · simp at h; omega
theorem treeR_ok (s : Survey) : okL s (treeR s) := fun q hq => treeL_ok s _ (Nat.le_refl _) _ (List.mem_of_getElem? (gi_at hq))
theorem step_eq {s : Survey} (hs : SvOk s) {B : Int} {x : HK} (h : HB s B x) (hB : 0 ≤ B ∧ B ≤ 1000000) {r : Reading} (hr : (0 ≤ r.from_ ∧ r.from_ < s.points) ∧ (0 ≤ r.to_ ∧ r.to_ < s.points) ∧ r.from_ ≠ r.to_ ∧ (-1000 ≤ r.rise ∧ r.rise ≤ 1000)) (t : Int) (ht : InR (t + 1)) (rec2 : Int → List Int → List Bool → Option (List Int)) :
    (ix x.2 r.from_ fun x11 => if x11 = true then ix x.2 r.to_ fun x12 => level_byTree_k5 t x.1 x.2 rec2 r (!x12) else level_byTree_k5 t x.1 x.2 rec2 r false) = rec2 (t + 1) (go1 r x).1 (go1 r x).2 := by
  have l1 := h.l1
  have l2 := h.l2
  have hf := h.bd r.from_.toNat
  have hto := h.bd r.to_.toNat
  have bA : x.2[r.from_.toNat]? = some (gb x.2 r.from_.toNat) := gb_at (by omega)
  have bB : x.2[r.to_.toNat]? = some (gb x.2 r.to_.toNat) := gb_at (by omega)
  have hA : x.1[r.from_.toNat]? = some (gi x.1 r.from_.toNat) := gi_at (by omega)
  have hBB : x.1[r.to_.toNat]? = some (gi x.1 r.to_.toNat) := gi_at (by omega)
  unfold level_byTree_k5 level_byTree_k4 level_byTree_k3 go1
  rw [ix_eq hr.1.1 bA]
  cases e1 : gb x.2 r.from_.toNat <;> cases e2 : gb x.2 r.to_.toNat
  · rw [e2] at bB
    rw [if_neg (by simp), if_neg (by simp), ix_eq hr.2.1.1 bB, if_neg (by simp), if_neg (by simp), gd_pos ht, if_neg (by simp), if_neg (by simp)]
  · rw [e1] at bA
    rw [e2] at bB
    rw [if_neg (by simp), if_neg (by simp), ix_eq hr.2.1.1 bB, if_pos rfl, ix_eq hr.1.1 bA, if_pos (by rfl), ix_eq hr.2.1.1 hBB, gd_pos (by omega), ix_eq hr.1.1 hA, ix_eq hr.1.1 bA, gd_pos ht, if_neg (by simp), if_pos ⟨rfl, rfl⟩]
  · rw [e2] at bB
    rw [if_pos rfl, ix_eq hr.2.1.1 bB, if_pos (by rfl), ix_eq hr.1.1 hA, gd_pos (by omega), ix_eq hr.2.1.1 hBB, ix_eq hr.2.1.1 bB, gd_pos ht, if_pos ⟨rfl, rfl⟩]
  · rw [e1] at bA
    rw [e2] at bB
    rw [if_pos rfl, ix_eq hr.2.1.1 bB, if_neg (by simp), ix_eq hr.2.1.1 bB, if_pos rfl, ix_eq hr.1.1 bA, if_neg (by simp), gd_pos ht, if_neg (by simp), if_neg (by simp)]
theorem rstep_eq {s : Survey} (hs : SvOk s) {B : Int} {x : HK} (h : HB s B x) (hB : 0 ≤ B ∧ B ≤ 1000000) {r : Reading} (hr : (0 ≤ r.from_ ∧ r.from_ < s.points) ∧ (0 ≤ r.to_ ∧ r.to_ < s.points) ∧ r.from_ ≠ r.to_ ∧ (-1000 ≤ r.rise ∧ r.rise ≤ 1000)) (t : Int) (ht : InR (t + 1)) (rec2 : Int → List Int → List Bool → Option (List Int)) :
    (ix x.2 r.from_ fun x11 => if x11 = true then ix x.2 r.to_ fun x12 => ref01_byTree_k6 t x.1 x.2 rec2 r (!x12) else ref01_byTree_k6 t x.1 x.2 rec2 r false) = rec2 (t + 1) (go1 r x).1 (go1 r x).2 := by
  have l1 := h.l1
  have l2 := h.l2
  have hf := h.bd r.from_.toNat
  have hto := h.bd r.to_.toNat
  have hne : r.to_.toNat ≠ r.from_.toNat := by omega
  have bA : x.2[r.from_.toNat]? = some (gb x.2 r.from_.toNat) := gb_at (by omega)
  have bB : x.2[r.to_.toNat]? = some (gb x.2 r.to_.toNat) := gb_at (by omega)
  have hA : x.1[r.from_.toNat]? = some (gi x.1 r.from_.toNat) := gi_at (by omega)
  have hBB : x.1[r.to_.toNat]? = some (gi x.1 r.to_.toNat) := gi_at (by omega)
  unfold ref01_byTree_k6 ref01_byTree_k5 ref01_byTree_k4 ref01_byTree_k3 go1
  rw [ix_eq hr.1.1 bA]
  cases e1 : gb x.2 r.from_.toNat <;> cases e2 : gb x.2 r.to_.toNat
  · rw [e2] at bB
    rw [if_neg (by simp), if_neg (by simp), ix_eq hr.2.1.1 bB, if_neg (by simp), if_neg (by simp), gd_pos ht, if_neg (by simp), if_neg (by simp)]
  · rw [e1] at bA
    rw [e2] at bB
    rw [if_neg (by simp), if_neg (by simp), ix_eq hr.2.1.1 bB, if_pos rfl, ix_eq hr.1.1 bA, if_pos (by rfl), ix_eq hr.2.1.1 hBB, gd_pos (by omega), ix_eq hr.1.1 hA, ix_eq hr.1.1 bA, gd_pos ht, if_neg (by simp), if_pos ⟨rfl, rfl⟩]
  · rw [e1] at bA
    rw [e2] at bB
    have c1 : (x.2.set r.to_.toNat true)[r.to_.toNat]? = some true := by rw [List.getElem?_set, if_pos rfl, if_pos (by omega)]
    have c2 : (x.2.set r.to_.toNat true)[r.from_.toNat]? = some true := by rw [List.getElem?_set, if_neg hne, bA]
    rw [if_pos rfl, ix_eq hr.2.1.1 bB, if_pos (by rfl), ix_eq hr.1.1 hA, gd_pos (by omega), ix_eq hr.2.1.1 hBB, ix_eq hr.2.1.1 bB, ix_eq hr.2.1.1 c1, if_pos rfl, ix_eq hr.1.1 c2, if_neg (by simp), gd_pos ht, if_pos ⟨rfl, rfl⟩]
  · rw [e1] at bA
    rw [e2] at bB
    rw [if_pos rfl, ix_eq hr.2.1.1 bB, if_neg (by simp), ix_eq hr.2.1.1 bB, if_pos rfl, ix_eq hr.1.1 bA, if_neg (by simp), gd_pos ht, if_neg (by simp), if_neg (by simp)]
/-- Where the heights begin. -/
def start (s : Survey) : HK := (List.replicate s.points.toNat 0, (iota s.points.toNat).map (isRoot (rootsOf s)))
theorem start_HB (s : Survey) : HB s 0 (start s) := ⟨by simp [start], by simp [start, iota_len], fun i => by
  have : gi (start s).1 i = 0 := by unfold start gi; simp [List.getD_eq_getElem?_getD, List.getElem?_replicate]; split <;> rfl
  omega⟩
def heightsR (s : Survey) : List Int := (rounds s (treeR s) (start s) s.points.toNat).1
theorem known_loop {s : Survey} (hs : SvOk s) (L : Nat → Int → List Bool → Option (List Int)) (yes : Option (List Int))
    (step : ∀ k i : Nat, ∀ l : List Bool, i < s.points.toNat → i < l.length → L (k + 1) (i : Int) l = L k ((i + 1 : Nat) : Int) (l.set i (isRoot (rootsOf s) (i : Int))))
    (stop : ∀ k : Nat, L (k + 1) (s.points.toNat : Int) (start s).2 = yes) : L FU 0 (List.replicate s.points.toNat false) = yes := by
  have hp5 := hs.p5
  have hll : ((iota s.points.toNat).map (isRoot (rootsOf s))).length = s.points.toNat := by rw [List.length_map, iota_len]
  refine for0 s.points.toNat (fun i => ((iota s.points.toNat).map (isRoot (rootsOf s))).take i ++ List.replicate (s.points.toNat - i) false) (fun k l i => L k i l) yes (by simp) (fun k i hi => ?_) (fun k => ?_) (by omega)
  · rw [step k i _ hi (by rw [List.length_append, List.length_take, hll, List.length_replicate]; omega)]
    congr 1
    have h1 : (((iota s.points.toNat).map (isRoot (rootsOf s))).take i).length = i := by rw [List.length_take, hll]; omega
    have h2 : ((iota s.points.toNat).map (isRoot (rootsOf s)))[i]? = some (isRoot (rootsOf s) (i : Int)) := by
      rw [List.getElem?_map, gi_at (by rw [iota_len]; exact hi), iota_gi hi]; rfl
    rw [List.set_append_right _ _ (by omega), h1, Nat.sub_self, show s.points.toNat - i = (s.points.toNat - (i + 1)) + 1 by omega, List.replicate_succ, List.set_cons_zero, List.take_add_one, h2]
    simp
  · have := stop k
    rw [Nat.sub_self, List.replicate_zero, List.append_nil, List.take_of_length_le (by omega)]
    exact this
theorem byTree_eq {s : Survey} (hs : SvOk s) : level_byTree s = some (heightsR s) := by
  have hp := hs.p1
  have hp5 := hs.p5
  have h8 := hs.len
  have hf := rootsOf_ok hs
  have hfl := hf.len
  have htl : (treeR s).length ≤ s.readings.length := treeL_len s _
  have hok := treeR_ok s
  unfold level_byTree
  rw [bnd_eq (forest_eq hs), gd_pos (by omega), gd_pos (by omega)]
  show level_byTree_L3 s (rootsOf s, treeR s) (List.replicate (Int.toNat s.points) 0) FU 0 (List.replicate (Int.toNat s.points) false) = _
  refine known_loop hs (fun k i l => level_byTree_L3 s (rootsOf s, treeR s) (List.replicate (Int.toNat s.points) 0) k i l) _ (fun k i l hi hl => ?_) (fun k => ?_)
  · show level_byTree_B3 s (rootsOf s, treeR s) _ (level_byTree_L3 s (rootsOf s, treeR s) _ k) _ _ = _
    unfold level_byTree_B3
    rw [if_pos (by simp only; omega), ix_nat (gi_at (l := rootsOf s) (by omega)), ix_nat (gb_at hl), gd_pos (by omega)]; rfl
  · show level_byTree_B3 s (rootsOf s, treeR s) _ (level_byTree_L3 s (rootsOf s, treeR s) _ k) _ _ = _
    unfold level_byTree_B3 level_byTree_k6
    rw [if_neg (by simp only; omega)]
    have e : heightsR s = (rounds s (treeR s) (start s) (treeR s).length).1 := by
      unfold heightsR
      rw [rounds_same hs hok (start_HB s).l2 (a := (treeR s).length) (b := s.points.toNat) (Nat.le_refl _) (Nat.le_refl _)]
    rw [e]
    refine for0 (treeR s).length (rounds s (treeR s) (start s)) (fun k x i => level_byTree_L2 s (rootsOf s, treeR s) k i x.1 x.2) _ (s0 := start s) rfl (fun k i hi => ?_) (fun k => ?_) (by omega)
    · have hR := HB.rounds hs hok (by omega) (start_HB s) i
      show level_byTree_B2 s (rootsOf s, treeR s) (level_byTree_L2 s (rootsOf s, treeR s) k) _ _ _ = _
      unfold level_byTree_B2
      rw [if_pos (by simp only; omega)]
      refine for0 (treeR s).length (fun q => goTo s (treeR s) q (rounds s (treeR s) (start s) i)) (fun k' x q => level_byTree_L1 s (rootsOf s, treeR s) (i : Int) (level_byTree_L2 s (rootsOf s, treeR s) k) k' q x.1 x.2) _ (s0 := rounds s (treeR s) (start s) i) (by simp [goTo]) (fun k' q hq => ?_) (fun k' => ?_) (by omega)
      · have hG := HB.goTo hs hok hR (by omega) q (by omega)
        have hk := hok q hq
        have hr := gr_ok hs (i := (gi (treeR s) q).toNat) (by omega)
        show level_byTree_B1 s (rootsOf s, treeR s) _ _ (level_byTree_L1 s (rootsOf s, treeR s) _ _ k') _ _ _ = _
        unfold level_byTree_B1
        rw [if_pos (by simp only; omega), ix_nat (gi_at (l := treeR s) hq), ix_eq hk.1 (gr_at (by omega)), step_eq hs hG (by omega) ⟨hr.1, hr.2.1, hr.2.2.1, hr.2.2.2.1⟩ (q : Int) (by omega), goTo_succ hq]; rfl
      · show level_byTree_B1 s (rootsOf s, treeR s) _ _ (level_byTree_L1 s (rootsOf s, treeR s) _ _ k') _ _ _ = _
        unfold level_byTree_B1 level_byTree_k2
        rw [if_neg (by simp only; omega), gd_pos (by omega)]; rfl
    · show level_byTree_B2 s (rootsOf s, treeR s) (level_byTree_L2 s (rootsOf s, treeR s) k) _ _ _ = _
      unfold level_byTree_B2
      rw [if_neg (by simp only; omega)]; rfl
theorem rbyTree_eq {s : Survey} (hs : SvOk s) : ref01_byTree s = some (heightsR s) := by
  have hp := hs.p1
  have hp5 := hs.p5
  have h8 := hs.len
  have hf := rootsOf_ok hs
  have hfl := hf.len
  have htl : (treeR s).length ≤ s.readings.length := treeL_len s _
  have hok := treeR_ok s
  unfold ref01_byTree
  rw [bnd_eq (whole_eq hs), bnd_eq (rtree_eq hs), gd_pos (by omega), gd_pos (by omega)]
  refine known_loop hs (fun k i l => ref01_byTree_L3 s (rootsOf s) (treeR s) k i l) _ (fun k i l hi hl => ?_) (fun k => ?_)
  · show ref01_byTree_B3 s (rootsOf s) (treeR s) (ref01_byTree_L3 s (rootsOf s) (treeR s) k) _ _ = _
    unfold ref01_byTree_B3
    rw [if_pos (by omega), ix_nat (gi_at (l := rootsOf s) (by omega)), ix_nat (gb_at hl), gd_pos (by omega)]; rfl
  · show ref01_byTree_B3 s (rootsOf s) (treeR s) (ref01_byTree_L3 s (rootsOf s) (treeR s) k) _ _ = _
    unfold ref01_byTree_B3 ref01_byTree_k7
    rw [if_neg (by omega)]
    refine for0 s.points.toNat (rounds s (treeR s) (start s)) (fun k x i => ref01_byTree_L2 s (treeR s) k i x.1 x.2) _ (s0 := start s) rfl (fun k i hi => ?_) (fun k => ?_) (by omega)
    · have hR := HB.rounds hs hok (by omega) (start_HB s) i
      show ref01_byTree_B2 s (treeR s) (ref01_byTree_L2 s (treeR s) k) _ _ _ = _
      unfold ref01_byTree_B2
      rw [if_pos (by omega)]
      refine for0 (treeR s).length (fun q => goTo s (treeR s) q (rounds s (treeR s) (start s) i)) (fun k' x q => ref01_byTree_L1 s (treeR s) (i : Int) (ref01_byTree_L2 s (treeR s) k) k' q x.1 x.2) _ (s0 := rounds s (treeR s) (start s) i) (by simp [goTo]) (fun k' q hq => ?_) (fun k' => ?_) (by omega)
      · have hG := HB.goTo hs hok hR (by omega) q (by omega)
        have hk := hok q hq
        have hr := gr_ok hs (i := (gi (treeR s) q).toNat) (by omega)
        show ref01_byTree_B1 s (treeR s) _ _ (ref01_byTree_L1 s (treeR s) _ _ k') _ _ _ = _
        unfold ref01_byTree_B1
        rw [if_pos (by omega), ix_nat (gi_at (l := treeR s) hq), ix_eq hk.1 (gr_at (by omega)), rstep_eq hs hG (by omega) ⟨hr.1, hr.2.1, hr.2.2.1, hr.2.2.2.1⟩ (q : Int) (by omega), goTo_succ hq]; rfl
      · show ref01_byTree_B1 s (treeR s) _ _ (ref01_byTree_L1 s (treeR s) _ _ k') _ _ _ = _
        unfold ref01_byTree_B1 ref01_byTree_k2
        rw [if_neg (by omega), gd_pos (by omega)]; rfl
    · show ref01_byTree_B2 s (treeR s) (ref01_byTree_L2 s (treeR s) k) _ _ _ = _
      unfold ref01_byTree_B2
      rw [if_neg (by omega)]; rfl
end Go.D1

set_option linter.unusedVariables false
set_option linter.unusedSimpArgs false
namespace Go.D1
open Go.Tb
theorem heights_ok {s : Survey} (hs : SvOk s) : (heightsR s).length = s.points.toNat ∧ ∀ i, -40000 ≤ gi (heightsR s) i ∧ gi (heightsR s) i ≤ 40000 := by
  have hp5 := hs.p5
  have h8 := hs.len
  have htl : (treeR s).length ≤ s.readings.length := treeL_len s _
  have h := HB.rounds hs (treeR_ok s) (by omega) (start_HB s) s.points.toNat
  refine ⟨h.l1, fun i => ?_⟩
  have := h.bd i
  unfold heightsR
  omega
/-- What does not close. -/
def closeR (s : Survey) (r : Reading) : Int := r.rise - gi (heightsR s) r.to_.toNat + gi (heightsR s) r.from_.toNat
def closuresR (s : Survey) : List Int := s.readings.map (closeR s)
theorem map_loop0 {α β R : Type} (l : List α) (f : α → β) (L : Nat → List β → Int → Option R) (yes : Option R)
    (step : ∀ (n i : Nat) (x : α), l[i]? = some x → L (n + 1) ((l.map f).take i) (i : Int) = L n ((l.map f).take i ++ [f x]) ((i + 1 : Nat) : Int))
    (stop : ∀ n : Nat, L (n + 1) (l.map f) (l.length : Int) = yes) (hl : l.length ≤ 9223372036854775807) : L FU [] 0 = yes := by
  refine for0 l.length (fun i => (l.map f).take i) L yes rfl (fun n i hi => ?_) (fun n => ?_) hl
  · have hx : l[i]? = some l[i] := by simp [hi]
    have hs : (l.map f)[i]? = some (f l[i]) := by rw [List.getElem?_map, hx]; rfl
    rw [step n i _ hx, List.take_add_one, hs]; rfl
  · rw [List.take_of_length_le (by simp)]; exact stop n
theorem take_len {α β : Type} (l : List α) (f : α → β) (i : Nat) : ((l.map f).take i).length ≤ i := by rw [List.length_take]; omega
theorem closures_eq {s : Survey} (hs : SvOk s) : level_closures s = some (closuresR s) := by
  have h8 := hs.len
  have ⟨hl, hb⟩ := heights_ok hs
  unfold level_closures
  rw [bnd_eq (byTree_eq hs)]
  refine map_loop0 s.readings (closeR s) (fun k l i => level_closures_L1 s (heightsR s) k i l) _ (fun k i x hx => ?_) (fun k => ?_) (by omega)
  · have hi := lt_of_at hx
    have hr := hs.rd x (List.mem_of_getElem? hx)
    have hA : (heightsR s)[x.from_.toNat]? = some (gi (heightsR s) x.from_.toNat) := gi_at (by omega)
    have hB : (heightsR s)[x.to_.toNat]? = some (gi (heightsR s) x.to_.toNat) := gi_at (by omega)
    have b1 := hb x.from_.toNat
    have b2 := hb x.to_.toNat
    have := take_len s.readings (closeR s) i
    show level_closures_B1 s (heightsR s) (level_closures_L1 s (heightsR s) k) _ _ = _
    unfold level_closures_B1
    rw [if_pos (by omega), ix_nat hx, ix_eq hr.2.1.1 hB, gd_pos (by omega), ix_eq hr.1.1 hA, gd_pos (by omega), gd_pos (by simp only [List.length_singleton]; omega), gd_pos (by omega)]; rfl
  · show level_closures_B1 s (heightsR s) (level_closures_L1 s (heightsR s) k) _ _ = _
    unfold level_closures_B1
    rw [if_neg (by omega)]; rfl
theorem Closures_eq (s : Survey) : level_Closures s = some (if validate s = 0 then (closuresR s, 0) else ([], validate s)) := by
  unfold level_Closures
  rw [bnd_eq (Validate_eq s)]
  by_cases hv : validate s = 0
  · rw [if_pos hv, if_pos hv, bnd_eq (closures_eq (val0.1 hv))]
  · rw [if_neg hv, if_neg hv]
theorem rClosures_eq (s : Survey) : ref01_Closures s = some (if validate s = 0 then (closuresR s, 0) else ([], validate s)) := by
  unfold ref01_Closures
  rw [bnd_eq (rValidate_eq s)]
  by_cases hv : validate s = 0
  · have hs := val0.1 hv
    have h8 := hs.len
    have ⟨hl, hb⟩ := heights_ok hs
    rw [if_pos hv, if_pos hv, bnd_eq (rbyTree_eq hs)]
    refine map_loop0 s.readings (closeR s) (fun k l i => ref01_Closures_L1 s (heightsR s) k i l) _ (fun k i x hx => ?_) (fun k => ?_) (by omega)
    · have hi := lt_of_at hx
      have hr := hs.rd x (List.mem_of_getElem? hx)
      have hA : (heightsR s)[x.from_.toNat]? = some (gi (heightsR s) x.from_.toNat) := gi_at (by omega)
      have hB : (heightsR s)[x.to_.toNat]? = some (gi (heightsR s) x.to_.toNat) := gi_at (by omega)
      have b1 := hb x.from_.toNat
      have b2 := hb x.to_.toNat
      have := take_len s.readings (closeR s) i
      show ref01_Closures_B1 s (heightsR s) (ref01_Closures_L1 s (heightsR s) k) _ _ = _
      unfold ref01_Closures_B1
      rw [if_pos (by omega), ix_nat hx, ix_eq hr.2.1.1 hB, gd_pos (by omega), ix_eq hr.1.1 hA, gd_pos (by omega), gd_pos (by simp only [List.length_singleton]; omega), gd_pos (by omega)]; rfl
    · show ref01_Closures_B1 s (heightsR s) (ref01_Closures_L1 s (heightsR s) k) _ _ = _
      unfold ref01_Closures_B1
      rw [if_neg (by omega)]; rfl
  · rw [if_neg hv, if_neg hv]
theorem ByTree_eq (s : Survey) : level_ByTree s = some (if validate s = 0 then (heightsR s, 0) else ([], validate s)) := by
  unfold level_ByTree
  rw [bnd_eq (Validate_eq s)]
  by_cases hv : validate s = 0
  · rw [if_pos hv, if_pos hv, bnd_eq (byTree_eq (val0.1 hv))]
  · rw [if_neg hv, if_neg hv]
theorem rByTree_eq (s : Survey) : ref01_ByTree s = some (if validate s = 0 then (heightsR s, 0) else ([], validate s)) := by
  unfold ref01_ByTree
  rw [bnd_eq (rValidate_eq s)]
  by_cases hv : validate s = 0
  · rw [if_pos hv, if_pos hv, bnd_eq (rbyTree_eq (val0.1 hv))]
  · rw [if_neg hv, if_neg hv]
/-- Whether a list holds a number with a property. -/
theorem has_eq {l : List Int} (hl : l.length ≤ 1000) {f : Int → Option Bool} {p : Int → Bool} (hf : ∀ x ∈ l, f x = some (p x)) : slices_ContainsFunc_int l f = some (l.any p) := by
  unfold slices_ContainsFunc_int slices_IndexFunc_int
  have h := scan_loop l.length (fun i => (l[i]?.map fun x => !p x).getD true) (fun _ => ()) (fun n _ i => slices_IndexFunc_int_L1 l f n i) (some (-1)) (fun j => some (j : Int)) (fun n i hi => ?_) (fun n => ?_) l.length FU 0 (by omega) (by have := FU_pos; omega)
  · have h' : slices_IndexFunc_int_L1 l f FU 0 = _ := h
    cases hf' : (List.range' 0 l.length).find? (fun j => !((l[j]?.map fun x => !p x).getD true)) with
    | none =>
      rw [hf'] at h'
      rw [bnd_eq h']
      have hall := find_all.1 hf'
      have : l.any p = false := by
        rw [List.any_eq_false]
        intro x hx hpx
        obtain ⟨i, hi⟩ := List.getElem?_of_mem hx
        have := hall i (by omega) (by have := lt_of_at hi; omega)
        simp [hi, hpx] at this
      rw [this]; rfl
    | some j =>
      rw [hf'] at h'
      rw [bnd_eq h']
      have hj := List.find?_some hf'
      have hm := List.mem_of_find?_eq_some hf'
      rw [List.mem_range'] at hm
      obtain ⟨q, hq, hjq⟩ := hm
      have hlt : j < l.length := by omega
      have hx : l[j]? = some l[j] := by simp [hlt]
      rw [hx] at hj
      simp at hj
      have : l.any p = true := List.any_eq_true.2 ⟨_, List.getElem_mem hlt, hj⟩
      rw [this, decide_eq_true (by omega)]
  · have hx : l[i]? = some l[i] := by simp [hi]
    show slices_IndexFunc_int_B1 l f (slices_IndexFunc_int_L1 l f n) _ = _
    unfold slices_IndexFunc_int_B1
    rw [if_pos (by omega), ix_nat hx, bnd_eq (hf _ (List.getElem_mem hi))]
    simp only [hx, Option.map_some, Option.getD_some]
    cases hp : p l[i]
    · rw [if_neg (by simp), gd_pos (by omega), if_pos (by rfl)]; rfl
    · rw [if_pos rfl, if_neg (by simp)]
  · show slices_IndexFunc_int_B1 l f (slices_IndexFunc_int_L1 l f n) _ = _
    unfold slices_IndexFunc_int_B1
    rw [if_neg (by omega)]; rfl
def trueR (s : Survey) : Bool := !(closuresR s).any fun x => !decide (x = 0)
theorem IsTrue_eq (s : Survey) : level_IsTrue s = some (if validate s = 0 then (trueR s, 0) else (false, validate s)) := by
  unfold level_IsTrue
  rw [bnd_eq (Validate_eq s)]
  by_cases hv : validate s = 0
  · have hs := val0.1 hv
    have h8 := hs.len
    rw [if_pos hv, if_pos hv, bnd_eq (closures_eq hs), bnd_eq (has_eq (l := closuresR s) (f := level_IsTrue_1) (p := fun x => !decide (x = 0)) (by unfold closuresR; rw [List.length_map]; omega) (fun x _ => rfl))]; rfl
  · rw [if_neg hv, if_neg hv]
theorem rIsTrue_eq (s : Survey) : ref01_IsTrue s = some (if validate s = 0 then (trueR s, 0) else (false, validate s)) := by
  unfold ref01_IsTrue
  rw [bnd_eq (rClosures_eq s)]
  by_cases hv : validate s = 0
  · have hs := val0.1 hv
    have h8 := hs.len
    have hl : (closuresR s).length ≤ 8 := by unfold closuresR; rw [List.length_map]; omega
    rw [if_pos hv, if_pos hv]
    refine Eq.trans (list_loop0 (closuresR s) (fun x => decide (x = 0)) (ref01_IsTrue_L1 (closuresR s, 0)) (some (true, 0)) (some (false, 0)) (fun k i x hx => ?_) (fun k => ?_) (by omega)) ?_
    · have hi := lt_of_at hx
      show ref01_IsTrue_B1 (closuresR s, 0) (ref01_IsTrue_L1 (closuresR s, 0) k) _ = _
      unfold ref01_IsTrue_B1
      rw [if_pos (by simp only; omega), ix_nat hx]
      by_cases h : x = 0
      · rw [if_pos h, gd_pos (by omega), if_pos (decide_eq_true h)]; rfl
      · rw [if_neg h, if_neg (by simpa using h)]
    · show ref01_IsTrue_B1 (closuresR s, 0) (ref01_IsTrue_L1 (closuresR s, 0) k) _ = _
      unfold ref01_IsTrue_B1
      rw [if_neg (by simp only; omega)]; rfl
    · have e : trueR s = (closuresR s).all fun x => decide (x = 0) := by unfold trueR; simp [List.any_eq_not_all_not]
      rw [e]
      cases (closuresR s).all fun x => decide (x = 0) <;> rfl
  · rw [if_neg hv, if_neg hv]
    show ref01_IsTrue_B1 ([], validate s) (ref01_IsTrue_L1 ([], validate s) _) 0 = _
    unfold ref01_IsTrue_B1 ref01_IsTrue_k1
    rw [if_neg (by simp)]
    show some (decide (validate s = 0), validate s) = _
    rw [decide_eq_false hv]
theorem law_LevelTrees (s : Survey) (hb : s.readings.length ≤ 9223372036854775807) : law01_LevelTrees s = some true := by
  unfold law01_LevelTrees
  rw [bnd_eq (Long_eq s)]
  by_cases hL : (100 : Int) < (s.readings.length : Int)
  · rw [if_pos (by simpa using hL), bnd_eq known_eq]
  · rw [if_neg (by simpa using hL), bnd_eq (ByTree_eq s), bnd_eq (rByTree_eq s), bnd_eq (Closures_eq s), bnd_eq (rClosures_eq s), bnd_eq (IsTrue_eq s), bnd_eq (rIsTrue_eq s)]
    by_cases hv : validate s = 0
    · have hs := val0.1 hv
      have hp5 := hs.p5
      have h8 := hs.len
      have h1 := (heights_ok hs).1
      have h2 : (closuresR s).length = s.readings.length := by unfold closuresR; rw [List.length_map]
      rw [if_pos hv, if_pos hv, if_pos hv, bnd_eq (SameInts_self (by simp only; omega)), if_pos rfl, if_pos rfl, bnd_eq (SameInts_self (by simp only; omega)), if_pos rfl, if_pos rfl, if_pos (by simp), if_pos rfl, bnd_eq known_eq]
    · rw [if_neg hv, if_neg hv, if_neg hv, bnd_eq (SameInts_self (by simp)), if_pos rfl, if_pos rfl, bnd_eq (SameInts_self (by simp)), if_pos rfl, if_pos rfl, if_pos (by rfl), if_pos rfl, bnd_eq known_eq]
end Go.D1
