/- Lemmas and walks that the proof of this claim uses: D1m21, Tb22, D1p1, D1p2, D1p3, D1p8, D1q1, D1q2, D1q3, D1q4, D1p9, D1pA, D1pB, D1pC, D1q5. -/
import Derived.Test.YtgnlfgkmkkjkoaaLevelProves3
set_option linter.unusedVariables false
set_option linter.unusedSimpArgs false
namespace Go.D1
open Go.Tb Go.Proofs Go.RowKit
theorem Tc41 : callable Try.prog 41 = true := by kernel_rfl
theorem Tk59 : tyK Try.prog 59 = some (true, 2) := by kernel_rfl
theorem Tz59 : tyZ Try.prog 59 = some (.agg #[.int .i64 0, .slice none 0 0]) := by kernel_rfl
set_option maxRecDepth 20000 in
set_option maxHeartbeats 1000000 in
theorem law01_LevelProves_ok {a0 : Survey} {a1 : Int} {a2 : Int} {A_a0_readings : Option Addr} {c_a0_readings : Nat} {w : World} {res : Bool} (h_a0_readings : Sl w A_a0_readings c_a0_readings 4 (a0.readings.map encReading)) (F : law01_LevelProves a0 a1 a2 = some res) : Calls Try.prog 10 #[.agg #[.int .i64 a0.points, .slice A_a0_readings a0.readings.length c_a0_readings], .int .i64 a1, .int .i64 a2] w (Rt w (.bool res)) := by
  refine calls_of_cw (args := [.agg #[.int .i64 a0.points, .slice A_a0_readings a0.readings.length c_a0_readings], .int .i64 a1, .int .i64 a2]) Try.func10 rfl rfl rfl rfl ?_
  have H := Hp.start w
  have R0 := H.ext
  unfold law01_LevelProves at F
  refine CW.seq fun K1 hK1 => ?_
  refine CW.region ?_
  refine LW.go rfl rfl (OW.box rfl fun b1 w1 N1 => ?_)
  replace H := H.new N1 N1.blk
  replace R0 := H.ext
  refine LW.pure rfl rfl (RV.assign rfl) ?_
  refine LW.nil (hK1 _ _ ?_)
  refine CW.seq fun K2 hK2 => ?_
  refine CW.seq fun K3 hK3 => ?_
  obtain ⟨r6, hr6, F⟩ := bnd_some F
  refine CW.region ?_
  refine LW.pure rfl rfl (RV.loadA [.int .i64 a0.points, .slice A_a0_readings a0.readings.length c_a0_readings] Tk24 rfl (H.blk 0 rfl).cells rfl rfl) ?_
  refine LW.go rfl rfl (OW.call Tc17 rfl (law01_Long_ok (a0 := a0) (h_a0_readings.ext R0) hr6) ?_)
  rintro _ w2 ⟨rfl, E1⟩
  refine ⟨_, rfl, ?_⟩
  replace H := H.grow E1
  replace R0 := H.ext
  refine LW.nil (hK3 _ _ ?_)
  by_cases hp1 : r6 = true
  ·
    replace F := ite_y hp1 F
    have hq1 : r6 = true := hp1
    refine CW.condT rfl hq1 ?_
    refine CW.seq fun K4 hK4 => ?_
    obtain ⟨r7, hr7, F⟩ := bnd_some F
    refine CW.region ?_
    refine LW.go rfl rfl (OW.call Tc18 rfl (law01_known_ok hr7) ?_)
    rintro _ w3 ⟨rfl, E2⟩
    refine ⟨_, rfl, ?_⟩
    replace H := H.grow E2
    replace R0 := H.ext
    refine LW.pure rfl rfl (RV.assign rfl) ?_
    refine LW.nil (hK4 _ _ ?_)
    refine CW.ret ?_
    obtain rfl := Option.some.inj F
    refine ⟨_, (ResOK.one rfl), ?_⟩
    refine ⟨(by first | rfl | simp), R0⟩
  ·
    replace F := ite_n hp1 F
    have hq1 : r6 = false := raw_f hp1
    refine CW.condF rfl hq1 ?_
    refine CW.skip (hK2 _ _ ?_)
    refine CW.seq fun K5 hK5 => ?_
    obtain ⟨r5, hr5, F⟩ := bnd_some F
    refine CW.region ?_
    refine LW.pure rfl rfl (RV.loadA [.int .i64 a0.points, .slice A_a0_readings a0.readings.length c_a0_readings] Tk24 rfl (H.blk 0 rfl).cells rfl rfl) ?_
    refine LW.go rfl rfl (OW.call Tc34 rfl (level_Best_ok (a0 := a0) (h_a0_readings.ext R0) hr5) ?_)
    rintro _ w4 ⟨A14_0, c14_0, rfl, E3⟩
    refine ⟨_, rfl, ?_⟩
    replace H : Hp w w4 [.own A14_0 c14_0 28 2 (List.map encRat r5.1), .blk b1 24 [.int .i64 a0.points, .slice A_a0_readings a0.readings.length c_a0_readings]] := H.append E3
    replace R0 := H.ext
    refine LW.pure rfl rfl (RV.move rfl) ?_
    refine LW.pure rfl rfl (RV.extract rfl rfl) ?_
    refine LW.pure rfl rfl (RV.extract rfl rfl) ?_
    refine LW.pure rfl rfl (RV.assign rfl) ?_
    refine LW.pure rfl rfl (RV.assign rfl) ?_
    refine LW.nil (hK5 _ _ ?_)
    refine CW.seq fun K6 hK6 => ?_
    refine CW.seq fun K7 hK7 => ?_
    refine CW.region ?_
    refine LW.pure rfl rfl (RV.move rfl) ?_
    refine LW.pure rfl rfl (RV.nei rfl rfl) ?_
    refine LW.nil (hK7 _ _ ?_)
    by_cases hp2 : r5.2 = 0
    ·
      replace F := ite_y hp2 F
      have hq2 := dec_t hp2
      refine CW.condF rfl (not_f hq2) ?_
      refine CW.skip (hK6 _ _ ?_)
      refine CW.seq fun K8 hK8 => ?_
      refine CW.region ?_
      refine LW.pure rfl rfl (RV.build (vs := [.int .i64 1]) (cs := [.int .i64 1, .slice none 0 0]) rfl (fun _ => by kernel_rfl)) ?_
      refine LW.go rfl rfl (OW.alloc Tz59 fun b2 w5 N2 => ?_)
      replace H := H.new N2 N2.blk
      replace R0 := H.ext
      refine LW.go rfl rfl (OW.store Tk59 rfl rfl (H.blk 0 rfl) (off := 0) (vs := [.int .i64 1, .slice none 0 0]) rfl rfl rfl rfl rfl fun w6 S1 => ?_)
      replace H : Hp w w6 [.blk b2 59 [.int .i64 1, .slice none 0 0], .own A14_0 c14_0 28 2 (List.map encRat r5.1), .blk b1 24 [.int .i64 a0.points, .slice A_a0_readings a0.readings.length c_a0_readings]] := H.stored 0 rfl S1
      replace R0 := H.ext
      refine LW.nil (hK8 _ _ ?_)
      refine CW.seqJ (fun ρ wl1 => (∃ (c1_0_1 : Int), law01_LevelProves_k5 a0 a1 a2 r5 c1_0_1 = some res ∧ ρ = [(1, .int .i64 a1), (2, .int .i64 a2), (3, .pointer (some (⟨b1, 0, none⟩))), (6, .bool false), (7, .slice A14_0 r5.1.length c14_0), (9, .pointer (some (⟨b2, 0, none⟩)))] ∧ Hp w wl1 [.own A14_0 c14_0 28 2 (List.map encRat r5.1), .blk b1 24 [.int .i64 a0.points, .slice A_a0_readings a0.readings.length c_a0_readings], .blk b2 59 [.int .i64 c1_0_1, .slice none 0 0]])) ?_ ?_
      ·
        rintro _ wl1 ⟨c1_0_1, F, rfl, H⟩
        have R0 := H.ext
        unfold law01_LevelProves_k5 at F
        refine CW.seqJ (fun ρ wl2 => (∃ (t1_1 : Int), law01_LevelProves_k3 a0 a2 r5 c1_0_1 t1_1 = some res ∧ ρ = [(1, .int .i64 t1_1), (2, .int .i64 a2), (3, .pointer (some (⟨b1, 0, none⟩))), (6, .bool false), (7, .slice A14_0 r5.1.length c14_0), (9, .pointer (some (⟨b2, 0, none⟩)))] ∧ Hp w wl2 [.own A14_0 c14_0 28 2 (List.map encRat r5.1), .blk b1 24 [.int .i64 a0.points, .slice A_a0_readings a0.readings.length c_a0_readings], .blk b2 59 [.int .i64 c1_0_1, .slice none 0 0]])) ?_ ?_
        ·
          rintro _ wl2 ⟨t1_1, F, rfl, H⟩
          have R0 := H.ext
          unfold law01_LevelProves_k3 at F
          refine CW.seq fun K9 hK9 => ?_
          obtain ⟨hg1, F⟩ := gd_some F
          refine CW.region ?_
          refine LW.pure rfl rfl (RV.fieldAddr Tf59_0 rfl) ?_
          refine LW.pure rfl rfl (RV.load1 Tk3 rfl ((H.blk 2 rfl).cells.off 0) rfl) ?_
          refine LW.pure rfl rfl (RV.move rfl) ?_
          refine LW.pure rfl rfl (RV.mul rfl rfl hg1) ?_
          refine LW.pure rfl rfl (RV.fieldAddr Tf59_0 rfl) ?_
          refine LW.go rfl rfl (OW.store Tk3 rfl rfl (H.blk 2 rfl) (off := 0) (vs := [.int .i64 (c1_0_1 * t1_1)]) rfl rfl rfl rfl rfl fun w7 S2 => ?_)
          replace H : Hp w w7 [.own A14_0 c14_0 28 2 (List.map encRat r5.1), .blk b1 24 [.int .i64 a0.points, .slice A_a0_readings a0.readings.length c_a0_readings], .blk b2 59 [.int .i64 (c1_0_1 * t1_1), .slice none 0 0]] := H.stored 2 rfl S2
          replace R0 := H.ext
          refine LW.nil (hK9 _ _ ?_)
          refine CW.seqJ (fun ρ wl3 => (∃ (l1 : List Int) (Al1 : Option Addr) (cl1 : Nat), law01_LevelProves_k2 a0 a2 c1_0_1 t1_1 l1 = some res ∧ ρ = [(2, .int .i64 a2), (3, .pointer (some (⟨b1, 0, none⟩))), (6, .bool false), (9, .pointer (some (⟨b2, 0, none⟩)))] ∧ Hp w wl3 [.own Al1 cl1 3 1 (List.map encN l1), .blk b1 24 [.int .i64 a0.points, .slice A_a0_readings a0.readings.length c_a0_readings], .blk b2 59 [.int .i64 (c1_0_1 * t1_1), .slice Al1 l1.length cl1]])) ?_ ?_
          ·
            rintro _ wl3 ⟨l1, Al1, cl1, F, rfl, H⟩
            have R0 := H.ext
            unfold law01_LevelProves_k2 at F
            refine CW.seq fun K10 hK10 => ?_
            refine CW.seq fun K11 hK11 => ?_
            obtain ⟨r4, hr4, F⟩ := bnd_some F
            refine CW.region ?_
            refine LW.pure rfl rfl (RV.loadA [.int .i64 a0.points, .slice A_a0_readings a0.readings.length c_a0_readings] Tk24 rfl (H.blk 1 rfl).cells rfl rfl) ?_
            refine LW.pure rfl rfl (RV.loadA [.int .i64 (c1_0_1 * t1_1), .slice Al1 l1.length cl1] Tk59 rfl (H.blk 2 rfl).cells rfl rfl) ?_
            refine LW.go rfl rfl (OW.call Tc41 rfl (level_CheckBest_ok (a0 := a0) (a1 := (⟨c1_0_1 * t1_1, l1⟩ : Table)) (h_a0_readings.ext R0) (H.own 0 rfl).sl hr4) ?_)
            rintro _ w8 ⟨rfl, E4⟩
            refine ⟨_, rfl, ?_⟩
            replace H := H.grow E4
            replace R0 := H.ext
            refine LW.pure rfl rfl (RV.nei rfl rfl) ?_
            refine LW.nil (hK11 _ _ ?_)
            by_cases hp3 : r4 = 0
            ·
              replace F := ite_y hp3 F
              have hq3 := dec_t hp3
              refine CW.condF rfl (not_f hq3) ?_
              refine CW.skip (hK10 _ _ ?_)
              refine CW.seq fun K12 hK12 => ?_
              refine CW.seqJ (fun ρ wl4 => (∃ (t136_1 : Bool), law01_LevelProves_k1 a0 a2 c1_0_1 t1_1 l1 t136_1 = some res ∧ ρ = [(2, .int .i64 a2), (3, .pointer (some (⟨b1, 0, none⟩))), (6, .bool false), (9, .pointer (some (⟨b2, 0, none⟩))), (136, .bool t136_1)] ∧ Hp w wl4 [.own Al1 cl1 3 1 (List.map encN l1), .blk b1 24 [.int .i64 a0.points, .slice A_a0_readings a0.readings.length c_a0_readings], .blk b2 59 [.int .i64 (c1_0_1 * t1_1), .slice Al1 l1.length cl1]])) ?_ ?_
              ·
                rintro _ wl4 ⟨t136_1, F, rfl, H⟩
                have R0 := H.ext
                unfold law01_LevelProves_k1 at F
                by_cases hp4 : t136_1 = true
                ·
                  replace F := ite_y hp4 F
                  have hq4 : t136_1 = true := hp4
                  refine CW.condT rfl hq4 ?_
                  refine CW.seq fun K13 hK13 => ?_
                  obtain ⟨r1, hr1, F⟩ := bnd_some F
                  refine CW.region ?_
                  refine LW.go rfl rfl (OW.call Tc18 rfl (law01_known_ok hr1) ?_)
                  rintro _ w9 ⟨rfl, E5⟩
                  refine ⟨_, rfl, ?_⟩
                  replace H := H.grow E5
                  replace R0 := H.ext
                  refine LW.pure rfl rfl (RV.assign rfl) ?_
                  refine LW.nil (hK13 _ _ ?_)
                  refine CW.ret ?_
                  obtain rfl := Option.some.inj F
                  refine ⟨_, (ResOK.one rfl), ?_⟩
                  refine ⟨(by first | rfl | simp), R0⟩
                ·
                  replace F := ite_n hp4 F
                  have hq4 : t136_1 = false := raw_f hp4
                  refine CW.condF rfl hq4 ?_
                  refine CW.skip (hK12 _ _ ?_)
                  refine CW.seq fun K14 hK14 => ?_
                  obtain ⟨x1, hbx1, hx1, F⟩ := ix_some F
                  obtain ⟨hg2, F⟩ := gd_some F
                  obtain ⟨x2, hbx2, hx2, F⟩ := ix_some F
                  refine CW.region ?_
                  refine LW.pure rfl rfl (RV.fieldAddr Tf59_1 rfl) ?_
                  refine LW.pure rfl rfl (RV.load1 Tk39 rfl ((H.blk 2 rfl).cells.off 1) rfl) ?_
                  refine LW.pure rfl rfl (RV.move rfl) ?_
                  refine LW.pure rfl rfl (RV.indexAddr Ts39 rfl rfl hbx1 ((H.own 0 rfl).sl.addr_ hx1)) ?_
                  refine LW.pure rfl rfl (RV.load1 Tk3 rfl ((H.own 0 rfl).sl.at_ hx1) rfl) ?_
                  refine LW.pure rfl rfl (RV.add rfl rfl hg2) ?_
                  refine LW.pure rfl rfl (RV.indexAddr Ts39 rfl rfl hbx2 ((H.own 0 rfl).sl.addr_ hx2)) ?_
                  refine LW.go rfl rfl (OW.storeO (enc := encN) (vs := [.int .i64 (x1 + 1)]) 0 (x1 + 1) Tk3 rfl rfl (H.own 0 rfl) (fun _ => rfl) rfl hx2 rfl rfl (by decide) rfl rfl fun w10 M1 O1 => ?_)
                  replace H : Hp w w10 [.own Al1 cl1 3 1 (List.map encN ((l1.set (Int.toNat a2) (x1 + 1)))), .blk b1 24 [.int .i64 a0.points, .slice A_a0_readings a0.readings.length c_a0_readings], .blk b2 59 [.int .i64 (c1_0_1 * t1_1), .slice Al1 l1.length cl1]] := H.mod 0 rfl M1 O1 (.inl rfl)
                  replace R0 := H.ext
                  refine LW.nil (hK14 _ _ ?_)
                  refine CW.seq fun K15 hK15 => ?_
                  obtain ⟨r2, hr2, F⟩ := bnd_some F
                  by_cases hp5 : r2 = 7
                  ·
                    replace F := ite_y hp5 F
                    have hq5 := dec_t hp5
                    obtain ⟨r3, hr3, F⟩ := bnd_some F
                    refine CW.region ?_
                    refine LW.pure rfl rfl (RV.loadA [.int .i64 a0.points, .slice A_a0_readings a0.readings.length c_a0_readings] Tk24 rfl (H.blk 1 rfl).cells rfl rfl) ?_
                    refine LW.pure rfl rfl (RV.loadA [.int .i64 (c1_0_1 * t1_1), .slice Al1 l1.length cl1] Tk59 rfl (H.blk 2 rfl).cells rfl rfl) ?_
                    refine LW.go rfl rfl (OW.call Tc41 (evs_cast rfl (by first | rfl | (simp; done) | (simp; omega))) (level_CheckBest_ok (a0 := a0) (a1 := (⟨c1_0_1 * t1_1, (l1.set (Int.toNat a2) (x1 + 1))⟩ : Table)) (h_a0_readings.ext R0) (H.own 0 rfl).sl hr2) ?_)
                    rintro _ w11 ⟨rfl, E6⟩
                    refine ⟨_, rfl, ?_⟩
                    replace H := H.grow E6
                    replace R0 := H.ext
                    refine LW.pure rfl rfl (RV.eqi rfl rfl) ?_
                    refine LW.pure rfl rfl (RV.move rfl) ?_
                    refine LW.yesB rfl rfl rfl rfl hq5 (OW.call Tc18 rfl (law01_known_ok hr3) ?_)
                    rintro _ w12 ⟨rfl, E7⟩
                    refine ⟨_, rfl, ?_⟩
                    replace H := H.grow E7
                    replace R0 := H.ext
                    refine LW.pure rfl rfl (RV.pickTB rfl hq5 rfl) ?_
                    refine LW.pure rfl rfl (RV.assign rfl) ?_
                    refine LW.nil (hK15 _ _ ?_)
                    refine CW.ret ?_
                    obtain rfl := Option.some.inj F
                    refine ⟨_, (ResOK.one rfl), ?_⟩
                    refine ⟨(by first | rfl | simp), R0⟩
                  ·
                    replace F := ite_n hp5 F
                    have hq5 := dec_f hp5
                    refine CW.region ?_
                    refine LW.pure rfl rfl (RV.loadA [.int .i64 a0.points, .slice A_a0_readings a0.readings.length c_a0_readings] Tk24 rfl (H.blk 1 rfl).cells rfl rfl) ?_
                    refine LW.pure rfl rfl (RV.loadA [.int .i64 (c1_0_1 * t1_1), .slice Al1 l1.length cl1] Tk59 rfl (H.blk 2 rfl).cells rfl rfl) ?_
                    refine LW.go rfl rfl (OW.call Tc41 (evs_cast rfl (by first | rfl | (simp; done) | (simp; omega))) (level_CheckBest_ok (a0 := a0) (a1 := (⟨c1_0_1 * t1_1, (l1.set (Int.toNat a2) (x1 + 1))⟩ : Table)) (h_a0_readings.ext R0) (H.own 0 rfl).sl hr2) ?_)
                    rintro _ w13 ⟨rfl, E8⟩
                    refine ⟨_, rfl, ?_⟩
                    replace H := H.grow E8
                    replace R0 := H.ext
                    refine LW.pure rfl rfl (RV.eqi rfl rfl) ?_
                    refine LW.pure rfl rfl (RV.move rfl) ?_
                    refine LW.noB rfl rfl rfl rfl (ne_beq (v := false) hq5 rfl) ?_
                    refine LW.pure rfl rfl (RV.pickFB rfl hq5 rfl) ?_
                    refine LW.pure rfl rfl (RV.assign rfl) ?_
                    refine LW.nil (hK15 _ _ ?_)
                    refine CW.ret ?_
                    obtain rfl := Option.some.inj F
                    refine ⟨_, (ResOK.one rfl), ?_⟩
                    refine ⟨(by first | rfl | simp), R0⟩
              ·
                intro K16 hK16 jK460
                by_cases hp6 : a2 < 0
                ·
                  replace F := ite_y hp6 F
                  have hq6 := dec_t hp6
                  refine CW.region ?_
                  refine LW.pure rfl rfl (RV.move rfl) ?_
                  refine LW.pure rfl rfl (RV.lss rfl rfl) ?_
                  refine LW.pure rfl rfl (RV.move rfl) ?_
                  refine LW.noB rfl rfl rfl rfl (ne_beq (v := true) hq6 rfl) ?_
                  refine LW.noB rfl rfl rfl rfl (ne_beq (v := true) hq6 rfl) ?_
                  refine LW.noB rfl rfl rfl rfl (ne_beq (v := true) hq6 rfl) ?_
                  refine LW.noB rfl rfl rfl rfl (ne_beq (v := true) hq6 rfl) ?_
                  refine LW.noB rfl rfl rfl rfl (ne_beq (v := true) hq6 rfl) ?_
                  refine LW.pure rfl rfl (RV.pickTB rfl hq6 rfl) ?_
                  refine LW.pure rfl rfl (RV.move rfl) ?_
                  refine LW.noB rfl rfl rfl rfl (ne_beq (v := true) rfl rfl) ?_
                  refine LW.noB rfl rfl rfl rfl (ne_beq (v := true) rfl rfl) ?_
                  refine LW.noB rfl rfl rfl rfl (ne_beq (v := true) rfl rfl) ?_
                  refine LW.noB rfl rfl rfl rfl (ne_beq (v := true) rfl rfl) ?_
                  refine LW.noB rfl rfl rfl rfl (ne_beq (v := true) rfl rfl) ?_
                  refine LW.noB rfl rfl rfl rfl (ne_beq (v := true) rfl rfl) ?_
                  refine LW.pure rfl rfl (RV.pickTB rfl rfl rfl) ?_
                  refine LW.nil (jK460 _ _ ⟨_, ?_, ⟨true, F, rfl, H⟩⟩)
                  exact ⟨rfl, rfl, rfl, rfl, rfl, trivial⟩
                ·
                  replace F := ite_n hp6 F
                  have hq6 := dec_f hp6
                  by_cases hp7 : ((l1.length : Int)) ≤ a2
                  ·
                    replace F := ite_y hp7 F
                    have hq7 := dec_t hp7
                    refine CW.region ?_
                    refine LW.pure rfl rfl (RV.move rfl) ?_
                    refine LW.pure rfl rfl (RV.lss rfl rfl) ?_
                    refine LW.pure rfl rfl (RV.move rfl) ?_
                    refine LW.pureYB rfl rfl rfl rfl hq6 (RV.move rfl) ?_
                    refine LW.pureYB rfl rfl rfl rfl hq6 (RV.fieldAddr Tf59_1 rfl) ?_
                    refine LW.pureYB rfl rfl rfl rfl hq6 (RV.load1 Tk39 rfl ((H.blk 2 rfl).cells.off 1) rfl) ?_
                    refine LW.pureYB rfl rfl rfl rfl hq6 (RV.len Ts39 rfl) ?_
                    refine LW.pureYB rfl rfl rfl rfl hq6 (RV.geq rfl rfl) ?_
                    refine LW.pure rfl rfl (RV.pickFB rfl hq6 rfl) ?_
                    refine LW.pure rfl rfl (RV.move rfl) ?_
                    refine LW.noB rfl rfl rfl rfl (ne_beq (v := true) hq7 rfl) ?_
                    refine LW.noB rfl rfl rfl rfl (ne_beq (v := true) hq7 rfl) ?_
                    refine LW.noB rfl rfl rfl rfl (ne_beq (v := true) hq7 rfl) ?_
                    refine LW.noB rfl rfl rfl rfl (ne_beq (v := true) hq7 rfl) ?_
                    refine LW.noB rfl rfl rfl rfl (ne_beq (v := true) hq7 rfl) ?_
                    refine LW.noB rfl rfl rfl rfl (ne_beq (v := true) hq7 rfl) ?_
                    refine LW.pure rfl rfl (RV.pickTB rfl hq7 rfl) ?_
                    refine LW.nil (jK460 _ _ ⟨_, ?_, ⟨true, F, rfl, H⟩⟩)
                    exact ⟨rfl, rfl, rfl, rfl, rfl, trivial⟩
                  ·
                    replace F := ite_n hp7 F
                    have hq7 := dec_f hp7
                    obtain ⟨x3, hbx3, hx3, F⟩ := ix_some F
                    refine CW.region ?_
                    refine LW.pure rfl rfl (RV.move rfl) ?_
                    refine LW.pure rfl rfl (RV.lss rfl rfl) ?_
                    refine LW.pure rfl rfl (RV.move rfl) ?_
                    refine LW.pureYB rfl rfl rfl rfl hq6 (RV.move rfl) ?_
                    refine LW.pureYB rfl rfl rfl rfl hq6 (RV.fieldAddr Tf59_1 rfl) ?_
                    refine LW.pureYB rfl rfl rfl rfl hq6 (RV.load1 Tk39 rfl ((H.blk 2 rfl).cells.off 1) rfl) ?_
                    refine LW.pureYB rfl rfl rfl rfl hq6 (RV.len Ts39 rfl) ?_
                    refine LW.pureYB rfl rfl rfl rfl hq6 (RV.geq rfl rfl) ?_
                    refine LW.pure rfl rfl (RV.pickFB rfl hq6 rfl) ?_
                    refine LW.pure rfl rfl (RV.move rfl) ?_
                    refine LW.pureYB rfl rfl rfl rfl hq7 (RV.fieldAddr Tf59_1 rfl) ?_
                    refine LW.pureYB rfl rfl rfl rfl hq7 (RV.load1 Tk39 rfl ((H.blk 2 rfl).cells.off 1) rfl) ?_
                    refine LW.pureYB rfl rfl rfl rfl hq7 (RV.move rfl) ?_
                    refine LW.pureYB rfl rfl rfl rfl hq7 (RV.indexAddr Ts39 rfl rfl hbx3 ((H.own 0 rfl).sl.addr_ hx3)) ?_
                    refine LW.pureYB rfl rfl rfl rfl hq7 (RV.load1 Tk3 rfl ((H.own 0 rfl).sl.at_ hx3) rfl) ?_
                    refine LW.pureYB rfl rfl rfl rfl hq7 (RV.geq rfl rfl) ?_
                    refine LW.pure rfl rfl (RV.pickFB rfl hq7 rfl) ?_
                    refine LW.nil (jK460 _ _ ⟨_, ?_, ⟨(decide ((1000000000 : Int) ≤ x3)), F, rfl, H⟩⟩)
                    exact ⟨rfl, rfl, rfl, rfl, rfl, trivial⟩
            ·
              replace F := ite_n hp3 F
              have hq3 := dec_f hp3
              refine CW.condT rfl (not_t hq3) ?_
              refine CW.seq fun K17 hK17 => ?_
              refine CW.region ?_
              refine LW.pure rfl rfl (RV.assign rfl) ?_
              refine LW.nil (hK17 _ _ ?_)
              refine CW.ret ?_
              obtain rfl := Option.some.inj F
              refine ⟨_, (ResOK.one rfl), ?_⟩
              refine ⟨(by first | rfl | simp), R0⟩
          ·
            intro K18 hK18 jK462
            refine CW.seq fun K19 hK19 => ?_
            refine CW.region ?_
            refine LW.pure rfl rfl (RV.assign rfl) ?_
            refine LW.nil (hK19 _ _ ?_)
            refine CW.block ?_
            replace H := H.nilOwn 3 1
            replace R0 := H.ext
            replace H := H.pick (L' := [.own A14_0 c14_0 28 2 (List.map encRat r5.1), .own none 0 3 1 (List.map encN (([] : List Int))), .blk b1 24 [.int .i64 a0.points, .slice A_a0_readings a0.readings.length c_a0_readings], .blk b2 59 [.int .i64 (c1_0_1 * t1_1), .slice none 0 0]]) [1, 0, 2, 3] (by decide) rfl
            replace R0 := H.ext
            have hce1 : 0 = (([] : List Int)).length := by first | omega | (simp; done) | (simp; omega) | rfl | assumption
            replace H := H.cast (L' := [.own A14_0 c14_0 28 2 (List.map encRat r5.1), .own none 0 3 1 (List.map encN (([] : List Int))), .blk b1 24 [.int .i64 a0.points, .slice A_a0_readings a0.readings.length c_a0_readings], .blk b2 59 [.int .i64 (c1_0_1 * t1_1), .slice none ((([] : List Int)).length) 0]]) (by first | (rw [hce1]; done) | simp [hce1] | rfl)
            refine CW.loop (fun meas ρ wl5 => ∃ (t13_1 : Int) (l2 : List Int) (Al2 : Option Addr) (cl2 : Nat), law01_LevelProves_L1 a0 a2 r5 c1_0_1 t1_1 meas t13_1 l2 = some res ∧ ρ = [(2, .int .i64 a2), (3, .pointer (some (⟨b1, 0, none⟩))), (6, .bool false), (7, .slice A14_0 r5.1.length c14_0), (9, .pointer (some (⟨b2, 0, none⟩))), (13, .int .i64 t13_1)] ∧ Hp w wl5 [.own A14_0 c14_0 28 2 (List.map encRat r5.1), .own Al2 cl2 3 1 (List.map encN l2), .blk b1 24 [.int .i64 a0.points, .slice A_a0_readings a0.readings.length c_a0_readings], .blk b2 59 [.int .i64 (c1_0_1 * t1_1), .slice Al2 l2.length cl2]]) FU ⟨_, ?_, ((0 : Int)), (([] : List Int)), none, 0, F, rfl, H⟩ ?_
            · exact ⟨rfl, rfl, rfl, (look_slice rfl (by first | rfl | (simp; done) | omega | (simp; omega))), rfl, rfl, trivial⟩
            rintro mk1 _ wl5 ⟨t13_1, l2, Al2, cl2, F, rfl, H⟩
            have R0 := H.ext
            replace F := law01_LevelProves_L1_s F
            obtain ⟨mk1, rfl, F⟩ := F
            generalize hrec1 : law01_LevelProves_L1 a0 a2 r5 c1_0_1 t1_1 mk1 = rec1 at F
            unfold law01_LevelProves_B1 at F
            refine CW.seq fun K20 hK20 => ?_
            refine CW.seq fun K21 hK21 => ?_
            refine CW.region ?_
            refine LW.pure rfl rfl (RV.move rfl) ?_
            refine LW.pure rfl rfl (RV.move rfl) ?_
            refine LW.pure rfl rfl (RV.len Ts53 rfl) ?_
            refine LW.pure rfl rfl (RV.lss rfl rfl) ?_
            refine LW.nil (hK21 _ _ ?_)
            by_cases hp8 : t13_1 < ((r5.1.length : Int))
            ·
              replace F := ite_y hp8 F
              have hq8 := dec_t hp8
              refine CW.condT rfl hq8 ?_
              refine CW.skip (hK20 _ _ ?_)
              refine CW.seq fun K22 hK22 => ?_
              refine CW.block ?_
              obtain ⟨x4, hbx4, hx4, F⟩ := ix_some F
              obtain ⟨x5, hbx5, hx5, F⟩ := ix_some F
              obtain ⟨hg3, F⟩ := gd_some F
              obtain ⟨hg4, F⟩ := gd_some F
              obtain ⟨hg5, F⟩ := gd_some F
              have H0 := H
              have hz : wl5.heap.size ≤ wl5.heap.size := Nat.le_refl _
              refine CW.draw [17, 19] (XB wl5 [.own A14_0 c14_0 28 2 (List.map encRat r5.1), .own Al2 cl2 3 1 (List.map encN l2), .blk b1 24 [.int .i64 a0.points, .slice A_a0_readings a0.readings.length c_a0_readings], .blk b2 59 [.int .i64 (c1_0_1 * t1_1), .slice Al2 l2.length cl2]] [1, 3]) (.cons 0 2 (.cons 1 1 (.cons 2 2 (.cons 3 2 (.cons 4 2 (.cons 5 2 (.cons 6 2 (.cons 7 2 (.cons 9 2 (.cons 10 2 (.cons 11 2 (.cons 12 2 (.cons 13 2 (.cons 8 0 (.cons 14 2 (.cons 15 2 (.cons 16 0 (.cons 17 0 (.cons 18 2 (.cons 19 0 .nil)))))))))))))))))))) mixed (by kernel_rfl) fun w14 E9 => ?_
              replace H := H.grow E9
              replace R0 := H.ext
              replace hz := Nat.le_trans hz (Ext.size E9)
              refine DW.thru rfl rfl rfl (fun _ EQ => RV.fieldAddr Tf59_1 rfl) ?_
              refine DW.fix rfl rfl rfl (fun _ EQ => RV.load1 Tk39 rfl (((H.grow EQ).blk 3 rfl).cells.off 1) rfl) ?_
              refine DW.thru rfl rfl rfl (fun _ EQ => RV.move rfl) ?_
              refine DW.thru rfl rfl rfl (fun _ EQ => RV.move rfl) ?_
              refine DW.thru rfl rfl rfl (fun _ EQ => RV.indexAddr Ts53 rfl rfl hbx4 ((H.own 0 rfl).sl.addr_ hx4)) ?_
              refine DW.thru rfl rfl rfl (fun _ EQ => RV.fieldAddr Tf28_0 rfl) ?_
              refine DW.thru rfl rfl rfl (fun _ EQ => RV.load1 Tk3 rfl (((H.thruO 0 rfl EQ (H0.notX [1, 3] 0 rfl (by decide))).sl.at_ hx4).off 0) rfl) ?_
              refine DW.thru rfl rfl rfl (fun _ EQ => RV.fieldAddr Tf59_0 rfl) ?_
              refine DW.thru rfl rfl rfl (fun _ EQ => RV.move rfl) ?_
              refine DW.thru rfl rfl rfl (fun _ EQ => RV.move rfl) ?_
              refine DW.thru rfl rfl rfl (fun _ EQ => RV.indexAddr Ts53 rfl rfl hbx5 ((H.own 0 rfl).sl.addr_ hx5)) ?_
              refine DW.thru rfl rfl rfl (fun _ EQ => RV.fieldAddr Tf28_1 rfl) ?_
              refine DW.thru rfl rfl rfl (fun _ EQ => RV.load1 Tk3 rfl (((H.thruO 0 rfl EQ (H0.notX [1, 3] 0 rfl (by decide))).sl.at_ hx5).off 1) rfl) ?_
              refine DW.sole rfl rfl rfl (OW.value (RV.load1 Tk3 rfl ((H.blk 3 rfl).cells.off 0) rfl) ⟨fun _ => Ext.refl _, ModX.refl _ _, ?_⟩)
              refine DW.thru rfl rfl rfl (fun _ EQ => RV.quo rfl rfl hg3) ?_
              refine DW.thru rfl rfl rfl (fun _ EQ => RV.mul rfl rfl hg4) ?_
              refine DW.sole rfl rfl rfl (OW.buildSlice (e := 3) (vs := [.int .i64 (x4.num * (Int.tdiv (c1_0_1 * t1_1) x5.den))]) (cs := [.int .i64 (x4.num * (Int.tdiv (c1_0_1 * t1_1) x5.den))]) rfl (fun _ => by kernel_rfl) fun b3 w15 N3 => ?_)
              refine ⟨fun _ => N3.ext, ModX.ext N3.ext, ?_⟩
              have G0_b3 : wl5.heap.size ≤ b3 := by rw [N3.at_]; exact hz
              replace H := H.made' (k := 1) (t := 3) (enc := encN) (l := ([x4.num * (Int.tdiv (c1_0_1 * t1_1) x5.den)] : List Int)) N3 N3.blk (fun _ => rfl) rfl (by first | decide | omega | (simp; done) | (simp; omega))
              replace R0 := H.ext
              replace hz := Nat.le_trans hz (Ext.size N3.ext)
              refine DW.sole rfl rfl rfl (OW.appendG (enc := encN) (l := l2) (xs := ([x4.num * (Int.tdiv (c1_0_1 * t1_1) x5.den)] : List Int)) Ts39 rfl (look_slice rfl (by first | rfl | (simp; done) | (simp; omega))) (H.own 2 rfl) (H.own 0 rfl).sl (fun _ => rfl) rfl rfl hg5 (by decide) fun A1 c1 w16 O2 M2 D1 => ?_)
              refine ⟨fun h => absurd h (by decide), M2.modx (XB.own_ 1 (by decide) rfl), ?_⟩
              replace H : Hp w w16 [.own (some ⟨b3, 0, none⟩) ((([x4.num * (Int.tdiv (c1_0_1 * t1_1) x5.den)] : List Int)).length) 3 1 (List.map encN (([x4.num * (Int.tdiv (c1_0_1 * t1_1) x5.den)] : List Int))), .own A14_0 c14_0 28 2 (List.map encRat r5.1), .own A1 c1 3 1 (List.map encN ((l2 ++ ([x4.num * (Int.tdiv (c1_0_1 * t1_1) x5.den)] : List Int)))), .blk b1 24 [.int .i64 a0.points, .slice A_a0_readings a0.readings.length c_a0_readings], .blk b2 59 [.int .i64 (c1_0_1 * t1_1), .slice Al2 l2.length cl2]] := H.mod 2 rfl M2 O2 D1
              replace R0 := H.ext
              replace hz := Nat.le_trans hz M2.size
              refine DW.thru rfl rfl rfl (fun _ EQ => RV.fieldAddr Tf59_1 rfl) ?_
              refine DW.sole rfl rfl rfl (OW.store Tk39 rfl rfl (H.blk 4 rfl) (off := 1) (vs := [.slice A1 (((l2 ++ ([x4.num * (Int.tdiv (c1_0_1 * t1_1) x5.den)] : List Int))).length) c1]) rfl rfl rfl rfl rfl fun w17 S3 => ?_)
              refine ⟨fun h => absurd h (by decide), S3.modx (XB.in_ 3 (by decide) rfl (List.mem_singleton.2 rfl)), ?_⟩
              replace H : Hp w w17 [.own (some ⟨b3, 0, none⟩) ((([x4.num * (Int.tdiv (c1_0_1 * t1_1) x5.den)] : List Int)).length) 3 1 (List.map encN (([x4.num * (Int.tdiv (c1_0_1 * t1_1) x5.den)] : List Int))), .own A14_0 c14_0 28 2 (List.map encRat r5.1), .own A1 c1 3 1 (List.map encN ((l2 ++ ([x4.num * (Int.tdiv (c1_0_1 * t1_1) x5.den)] : List Int)))), .blk b1 24 [.int .i64 a0.points, .slice A_a0_readings a0.readings.length c_a0_readings], .blk b2 59 [.int .i64 (c1_0_1 * t1_1), .slice A1 (((l2 ++ ([x4.num * (Int.tdiv (c1_0_1 * t1_1) x5.den)] : List Int))).length) c1]] := H.stored 4 rfl S3
              replace R0 := H.ext
              replace hz := Nat.le_trans hz (Nat.le_of_eq S3.size.symm)
              refine DW.nil (hK22 _ _ ?_)
              obtain ⟨hg6, F⟩ := gd_some F
              refine CW.region ?_
              refine LW.pure rfl rfl (RV.move rfl) ?_
              refine LW.pure rfl rfl (RV.add rfl rfl hg6) ?_
              refine LW.pure rfl rfl (RV.assign rfl) ?_
              refine LW.nil ?_
              replace H := H.pick (L' := [.own A14_0 c14_0 28 2 (List.map encRat r5.1), .own A1 c1 3 1 (List.map encN ((l2 ++ ([x4.num * (Int.tdiv (c1_0_1 * t1_1) x5.den)] : List Int)))), .blk b1 24 [.int .i64 a0.points, .slice A_a0_readings a0.readings.length c_a0_readings], .blk b2 59 [.int .i64 (c1_0_1 * t1_1), .slice A1 (((l2 ++ ([x4.num * (Int.tdiv (c1_0_1 * t1_1) x5.den)] : List Int))).length) c1]]) [1, 2, 3, 4] (by decide) rfl
              replace R0 := H.ext
              subst hrec1
              refine ⟨mk1, Nat.lt_succ_self _, _, ?_, (t13_1 + 1), ((l2 ++ ([x4.num * (Int.tdiv (c1_0_1 * t1_1) x5.den)] : List Int))), A1, c1, F, rfl, H⟩
              exact ⟨rfl, rfl, rfl, (look_slice rfl (by first | rfl | (simp; done) | omega | (simp; omega))), rfl, rfl, trivial⟩
            ·
              replace F := ite_n hp8 F
              have hq8 := dec_f hp8
              refine CW.condF rfl hq8 ?_
              replace H := H.pick (L' := [.own Al2 cl2 3 1 (List.map encN l2), .blk b1 24 [.int .i64 a0.points, .slice A_a0_readings a0.readings.length c_a0_readings], .blk b2 59 [.int .i64 (c1_0_1 * t1_1), .slice Al2 l2.length cl2]]) [1, 2, 3] (by decide) rfl
              replace R0 := H.ext
              refine CW.exit (jK462 _ _ ⟨_, ?_, ⟨l2, Al2, cl2, F, rfl, H⟩⟩)
              exact ⟨rfl, rfl, rfl, rfl, trivial⟩
        ·
          intro K23 hK23 jK473
          refine CW.seqJ (fun ρ wl6 => (∃ (t85_1 : Bool), law01_LevelProves_k4 a0 a1 a2 r5 c1_0_1 t85_1 = some res ∧ ρ = [(1, .int .i64 a1), (2, .int .i64 a2), (3, .pointer (some (⟨b1, 0, none⟩))), (6, .bool false), (7, .slice A14_0 r5.1.length c14_0), (9, .pointer (some (⟨b2, 0, none⟩))), (85, .bool t85_1)] ∧ Hp w wl6 [.own A14_0 c14_0 28 2 (List.map encRat r5.1), .blk b1 24 [.int .i64 a0.points, .slice A_a0_readings a0.readings.length c_a0_readings], .blk b2 59 [.int .i64 c1_0_1, .slice none 0 0]])) ?_ ?_
          ·
            rintro _ wl6 ⟨t85_1, F, rfl, H⟩
            have R0 := H.ext
            unfold law01_LevelProves_k4 at F
            by_cases hp9 : t85_1 = true
            ·
              replace F := ite_y hp9 F
              have hq9 : t85_1 = true := hp9
              refine CW.condT rfl hq9 ?_
              refine CW.region ?_
              refine LW.pure rfl rfl (RV.assign rfl) ?_
              refine LW.nil (jK473 _ _ ⟨_, ?_, ⟨((1 : Int)), F, rfl, H⟩⟩)
              exact ⟨rfl, rfl, rfl, rfl, (look_slice rfl (by first | rfl | (simp; done) | omega | (simp; omega))), rfl, trivial⟩
            ·
              replace F := ite_n hp9 F
              have hq9 : t85_1 = false := raw_f hp9
              refine CW.condF rfl hq9 ?_
              refine CW.skip (jK473 _ _ ⟨_, ?_, ⟨a1, F, rfl, H⟩⟩)
              exact ⟨rfl, rfl, rfl, rfl, (look_slice rfl (by first | rfl | (simp; done) | omega | (simp; omega))), rfl, trivial⟩
          ·
            intro K24 hK24 jK474
            by_cases hp10 : a1 < 1
            ·
              replace F := ite_y hp10 F
              have hq10 := dec_t hp10
              refine CW.region ?_
              refine LW.pure rfl rfl (RV.move rfl) ?_
              refine LW.pure rfl rfl (RV.lss rfl rfl) ?_
              refine LW.pure rfl rfl (RV.move rfl) ?_
              refine LW.noB rfl rfl rfl rfl (ne_beq (v := true) hq10 rfl) ?_
              refine LW.noB rfl rfl rfl rfl (ne_beq (v := true) hq10 rfl) ?_
              refine LW.pure rfl rfl (RV.pickTB rfl hq10 rfl) ?_
              refine LW.pure rfl rfl (RV.move rfl) ?_
              refine LW.noB rfl rfl rfl rfl (ne_beq (v := true) rfl rfl) ?_
              refine LW.noB rfl rfl rfl rfl (ne_beq (v := true) rfl rfl) ?_
              refine LW.noB rfl rfl rfl rfl (ne_beq (v := true) rfl rfl) ?_
              refine LW.noB rfl rfl rfl rfl (ne_beq (v := true) rfl rfl) ?_
              refine LW.noB rfl rfl rfl rfl (ne_beq (v := true) rfl rfl) ?_
              refine LW.pure rfl rfl (RV.pickTB rfl rfl rfl) ?_
              refine LW.nil (jK474 _ _ ⟨_, ?_, ⟨true, F, rfl, H⟩⟩)
              exact ⟨rfl, rfl, rfl, rfl, (look_slice rfl (by first | rfl | (simp; done) | omega | (simp; omega))), rfl, rfl, trivial⟩
            ·
              replace F := ite_n hp10 F
              have hq10 := dec_f hp10
              by_cases hp11 : (9 : Int) < a1
              ·
                replace F := ite_y hp11 F
                have hq11 := dec_t hp11
                refine CW.region ?_
                refine LW.pure rfl rfl (RV.move rfl) ?_
                refine LW.pure rfl rfl (RV.lss rfl rfl) ?_
                refine LW.pure rfl rfl (RV.move rfl) ?_
                refine LW.pureYB rfl rfl rfl rfl hq10 (RV.move rfl) ?_
                refine LW.pureYB rfl rfl rfl rfl hq10 (RV.gtr rfl rfl) ?_
                refine LW.pure rfl rfl (RV.pickFB rfl hq10 rfl) ?_
                refine LW.pure rfl rfl (RV.move rfl) ?_
                refine LW.noB rfl rfl rfl rfl (ne_beq (v := true) hq11 rfl) ?_
                refine LW.noB rfl rfl rfl rfl (ne_beq (v := true) hq11 rfl) ?_
                refine LW.noB rfl rfl rfl rfl (ne_beq (v := true) hq11 rfl) ?_
                refine LW.noB rfl rfl rfl rfl (ne_beq (v := true) hq11 rfl) ?_
                refine LW.noB rfl rfl rfl rfl (ne_beq (v := true) hq11 rfl) ?_
                refine LW.pure rfl rfl (RV.pickTB rfl hq11 rfl) ?_
                refine LW.nil (jK474 _ _ ⟨_, ?_, ⟨true, F, rfl, H⟩⟩)
                exact ⟨rfl, rfl, rfl, rfl, (look_slice rfl (by first | rfl | (simp; done) | omega | (simp; omega))), rfl, rfl, trivial⟩
              ·
                replace F := ite_n hp11 F
                have hq11 := dec_f hp11
                obtain ⟨hg7, F⟩ := gd_some F
                refine CW.region ?_
                refine LW.pure rfl rfl (RV.move rfl) ?_
                refine LW.pure rfl rfl (RV.lss rfl rfl) ?_
                refine LW.pure rfl rfl (RV.move rfl) ?_
                refine LW.pureYB rfl rfl rfl rfl hq10 (RV.move rfl) ?_
                refine LW.pureYB rfl rfl rfl rfl hq10 (RV.gtr rfl rfl) ?_
                refine LW.pure rfl rfl (RV.pickFB rfl hq10 rfl) ?_
                refine LW.pure rfl rfl (RV.move rfl) ?_
                refine LW.pureYB rfl rfl rfl rfl hq11 (RV.fieldAddr Tf59_0 rfl) ?_
                refine LW.pureYB rfl rfl rfl rfl hq11 (RV.load1 Tk3 rfl ((H.blk 2 rfl).cells.off 0) rfl) ?_
                refine LW.pureYB rfl rfl rfl rfl hq11 (RV.move rfl) ?_
                refine LW.pureYB rfl rfl rfl rfl hq11 (RV.mul rfl rfl hg7) ?_
                refine LW.pureYB rfl rfl rfl rfl hq11 (RV.gtr rfl rfl) ?_
                refine LW.pure rfl rfl (RV.pickFB rfl hq11 rfl) ?_
                refine LW.nil (jK474 _ _ ⟨_, ?_, ⟨(decide ((1000000 : Int) < (c1_0_1 * a1))), F, rfl, H⟩⟩)
                exact ⟨rfl, rfl, rfl, rfl, (look_slice rfl (by first | rfl | (simp; done) | omega | (simp; omega))), rfl, rfl, trivial⟩
      ·
        intro K25 hK25 jK475
        refine CW.seq fun K26 hK26 => ?_
        refine CW.region ?_
        refine LW.pure rfl rfl (RV.assign rfl) ?_
        refine LW.nil (hK26 _ _ ?_)
        refine CW.block ?_
        replace H := H.pick (L' := [.own A14_0 c14_0 28 2 (List.map encRat r5.1), .blk b1 24 [.int .i64 a0.points, .slice A_a0_readings a0.readings.length c_a0_readings], .blk b2 59 [.int .i64 1, .slice none 0 0]]) [1, 2, 0] (by decide) rfl
        replace R0 := H.ext
        refine CW.loop (fun meas ρ wl7 => ∃ (t10_1 : Int) (c1_0_3 : Int), law01_LevelProves_L3 a0 a1 a2 r5 meas t10_1 c1_0_3 = some res ∧ ρ = [(1, .int .i64 a1), (2, .int .i64 a2), (3, .pointer (some (⟨b1, 0, none⟩))), (6, .bool false), (7, .slice A14_0 r5.1.length c14_0), (9, .pointer (some (⟨b2, 0, none⟩))), (10, .int .i64 t10_1)] ∧ Hp w wl7 [.own A14_0 c14_0 28 2 (List.map encRat r5.1), .blk b1 24 [.int .i64 a0.points, .slice A_a0_readings a0.readings.length c_a0_readings], .blk b2 59 [.int .i64 c1_0_3, .slice none 0 0]]) FU ⟨_, ?_, ((0 : Int)), ((1 : Int)), F, rfl, H⟩ ?_
        · exact ⟨rfl, rfl, rfl, rfl, (look_slice rfl (by first | rfl | (simp; done) | omega | (simp; omega))), rfl, rfl, trivial⟩
        rintro mk2 _ wl7 ⟨t10_1, c1_0_3, F, rfl, H⟩
        have R0 := H.ext
        replace F := law01_LevelProves_L3_s F
        obtain ⟨mk2, rfl, F⟩ := F
        generalize hrec2 : law01_LevelProves_L3 a0 a1 a2 r5 mk2 = rec2 at F
        unfold law01_LevelProves_B3 at F
        refine CW.seq fun K27 hK27 => ?_
        refine CW.seq fun K28 hK28 => ?_
        refine CW.region ?_
        refine LW.pure rfl rfl (RV.move rfl) ?_
        refine LW.pure rfl rfl (RV.move rfl) ?_
        refine LW.pure rfl rfl (RV.len Ts53 rfl) ?_
        refine LW.pure rfl rfl (RV.lss rfl rfl) ?_
        refine LW.nil (hK28 _ _ ?_)
        by_cases hp12 : t10_1 < ((r5.1.length : Int))
        ·
          replace F := ite_y hp12 F
          have hq12 := dec_t hp12
          refine CW.condT rfl hq12 ?_
          refine CW.skip (hK27 _ _ ?_)
          refine CW.seqJ (fun ρ wl8 => (∃ (c1_0_2 : Int), law01_LevelProves_k6 t10_1 rec2 c1_0_2 = some res ∧ ρ = [(1, .int .i64 a1), (2, .int .i64 a2), (3, .pointer (some (⟨b1, 0, none⟩))), (6, .bool false), (7, .slice A14_0 r5.1.length c14_0), (9, .pointer (some (⟨b2, 0, none⟩))), (10, .int .i64 t10_1)] ∧ Hp w wl8 [.own A14_0 c14_0 28 2 (List.map encRat r5.1), .blk b1 24 [.int .i64 a0.points, .slice A_a0_readings a0.readings.length c_a0_readings], .blk b2 59 [.int .i64 c1_0_2, .slice none 0 0]])) ?_ ?_
          ·
            rintro _ wl8 ⟨c1_0_2, F, rfl, H⟩
            have R0 := H.ext
            unfold law01_LevelProves_k6 at F
            obtain ⟨hg8, F⟩ := gd_some F
            refine CW.region ?_
            refine LW.pure rfl rfl (RV.move rfl) ?_
            refine LW.pure rfl rfl (RV.add rfl rfl hg8) ?_
            refine LW.pure rfl rfl (RV.assign rfl) ?_
            refine LW.nil ?_
            subst hrec2
            refine ⟨mk2, Nat.lt_succ_self _, _, ?_, (t10_1 + 1), c1_0_2, F, rfl, H⟩
            exact ⟨rfl, rfl, rfl, rfl, (look_slice rfl (by first | rfl | (simp; done) | omega | (simp; omega))), rfl, rfl, trivial⟩
          ·
            intro K29 hK29 jK585
            refine CW.block ?_
            refine CW.seq fun K30 hK30 => ?_
            refine CW.seqJ (fun ρ wl9 => (∃ (t45_1 : Bool), law01_LevelProves_k8 r5 t10_1 c1_0_3 rec2 t45_1 = some res ∧ ρ = [(1, .int .i64 a1), (2, .int .i64 a2), (3, .pointer (some (⟨b1, 0, none⟩))), (6, .bool false), (7, .slice A14_0 r5.1.length c14_0), (9, .pointer (some (⟨b2, 0, none⟩))), (10, .int .i64 t10_1), (45, .bool t45_1)] ∧ Hp w wl9 [.own A14_0 c14_0 28 2 (List.map encRat r5.1), .blk b1 24 [.int .i64 a0.points, .slice A_a0_readings a0.readings.length c_a0_readings], .blk b2 59 [.int .i64 c1_0_3, .slice none 0 0]])) ?_ ?_
            ·
              rintro _ wl9 ⟨t45_1, F, rfl, H⟩
              have R0 := H.ext
              unfold law01_LevelProves_k8 at F
              by_cases hp13 : t45_1 = true
              ·
                replace F := ite_y hp13 F
                have hq13 : t45_1 = true := hp13
                refine CW.condT rfl hq13 ?_
                refine CW.seq fun K31 hK31 => ?_
                refine CW.region ?_
                refine LW.pure rfl rfl (RV.assign rfl) ?_
                refine LW.nil (hK31 _ _ ?_)
                refine CW.ret ?_
                obtain rfl := Option.some.inj F
                refine ⟨_, (ResOK.one rfl), ?_⟩
                refine ⟨(by first | rfl | simp), R0⟩
              ·
                replace F := ite_n hp13 F
                have hq13 : t45_1 = false := raw_f hp13
                refine CW.condF rfl hq13 ?_
                refine CW.skip (hK30 _ _ ?_)
                refine CW.seq fun K32 hK32 => ?_
                obtain ⟨x7, hbx7, hx7, F⟩ := ix_some F
                refine CW.draw [] (fun _ => True) (.cons 0 1 (.cons 1 1 (.cons 2 1 (.cons 3 1 (.cons 4 1 (.cons 5 1 (.cons 6 1 (.cons 7 1 (.cons 8 1 .nil))))))))) mixed (by kernel_rfl) fun w18 E10 => ?_
                replace H := H.grow E10
                replace R0 := H.ext
                refine DW.fix rfl rfl rfl (fun _ EQ => RV.fieldAddr Tf59_0 rfl) ?_
                refine DW.fix rfl rfl rfl (fun _ EQ => RV.load1 Tk3 rfl (((H.grow EQ).blk 2 rfl).cells.off 0) rfl) ?_
                refine DW.fix rfl rfl rfl (fun _ EQ => RV.move rfl) ?_
                refine DW.fix rfl rfl rfl (fun _ EQ => RV.move rfl) ?_
                refine DW.fix rfl rfl rfl (fun _ EQ => RV.indexAddr Ts53 rfl rfl hbx7 ((H.own 0 rfl).sl.addr_ hx7)) ?_
                refine DW.fix rfl rfl rfl (fun _ EQ => RV.fieldAddr Tf28_1 rfl) ?_
                refine DW.fix rfl rfl rfl (fun _ EQ => RV.load1 Tk3 rfl ((((H.grow EQ).own 0 rfl).sl.at_ hx7).off 1) rfl) ?_
                refine DW.fix rfl rfl rfl (fun _ EQ => RV.assign rfl) ?_
                refine DW.fix rfl rfl rfl (fun _ EQ => RV.assign rfl) ?_
                refine DW.nil (hK32 _ _ ?_)
                refine CW.seqJ (fun ρ wl10 => (∃ (t11_1 : Int), law01_LevelProves_k7 r5 t10_1 c1_0_3 rec2 t11_1 = some res ∧ ρ = [(1, .int .i64 a1), (2, .int .i64 a2), (3, .pointer (some (⟨b1, 0, none⟩))), (6, .bool false), (7, .slice A14_0 r5.1.length c14_0), (9, .pointer (some (⟨b2, 0, none⟩))), (10, .int .i64 t10_1), (11, .int .i64 t11_1)] ∧ Hp w wl10 [.own A14_0 c14_0 28 2 (List.map encRat r5.1), .blk b1 24 [.int .i64 a0.points, .slice A_a0_readings a0.readings.length c_a0_readings], .blk b2 59 [.int .i64 c1_0_3, .slice none 0 0]])) ?_ ?_
                ·
                  rintro _ wl10 ⟨t11_1, F, rfl, H⟩
                  have R0 := H.ext
                  unfold law01_LevelProves_k7 at F
                  refine CW.seq fun K33 hK33 => ?_
                  obtain ⟨hg9, F⟩ := gd_some F
                  obtain ⟨x6, hbx6, hx6, F⟩ := ix_some F
                  obtain ⟨hg10, F⟩ := gd_some F
                  refine CW.draw [11] (fun _ => True) (.cons 0 1 (.cons 1 1 (.cons 2 1 (.cons 3 1 (.cons 4 1 (.cons 5 1 (.cons 6 1 (.cons 7 1 (.cons 8 1 (.cons 9 1 (.cons 10 1 (.cons 11 0 .nil)))))))))))) mixed (by kernel_rfl) fun w19 E11 => ?_
                  replace H := H.grow E11
                  replace R0 := H.ext
                  refine DW.fix rfl rfl rfl (fun _ EQ => RV.fieldAddr Tf59_0 rfl) ?_
                  refine DW.fix rfl rfl rfl (fun _ EQ => RV.load1 Tk3 rfl (((H.grow EQ).blk 2 rfl).cells.off 0) rfl) ?_
                  refine DW.fix rfl rfl rfl (fun _ EQ => RV.move rfl) ?_
                  refine DW.fix rfl rfl rfl (fun _ EQ => RV.quo rfl rfl hg9) ?_
                  refine DW.fix rfl rfl rfl (fun _ EQ => RV.move rfl) ?_
                  refine DW.fix rfl rfl rfl (fun _ EQ => RV.move rfl) ?_
                  refine DW.fix rfl rfl rfl (fun _ EQ => RV.indexAddr Ts53 rfl rfl hbx6 ((H.own 0 rfl).sl.addr_ hx6)) ?_
                  refine DW.fix rfl rfl rfl (fun _ EQ => RV.fieldAddr Tf28_1 rfl) ?_
                  refine DW.fix rfl rfl rfl (fun _ EQ => RV.load1 Tk3 rfl ((((H.grow EQ).own 0 rfl).sl.at_ hx6).off 1) rfl) ?_
                  refine DW.fix rfl rfl rfl (fun _ EQ => RV.mul rfl rfl hg10) ?_
                  refine DW.fix rfl rfl rfl (fun _ EQ => RV.fieldAddr Tf59_0 rfl) ?_
                  refine DW.sole rfl rfl rfl (OW.store Tk3 rfl rfl (H.blk 2 rfl) (off := 0) (vs := [.int .i64 ((Int.tdiv c1_0_3 t11_1) * x6.den)]) rfl rfl rfl rfl rfl fun w20 S4 => ?_)
                  refine ⟨fun h => absurd h (by decide), S4.modx trivial, ?_⟩
                  replace H : Hp w w20 [.own A14_0 c14_0 28 2 (List.map encRat r5.1), .blk b1 24 [.int .i64 a0.points, .slice A_a0_readings a0.readings.length c_a0_readings], .blk b2 59 [.int .i64 ((Int.tdiv c1_0_3 t11_1) * x6.den), .slice none 0 0]] := H.stored 2 rfl S4
                  replace R0 := H.ext
                  refine DW.nil (hK33 _ _ ?_)
                  refine CW.seq fun K34 hK34 => ?_
                  refine CW.region ?_
                  refine LW.pure rfl rfl (RV.fieldAddr Tf59_0 rfl) ?_
                  refine LW.pure rfl rfl (RV.load1 Tk3 rfl ((H.blk 2 rfl).cells.off 0) rfl) ?_
                  refine LW.pure rfl rfl (RV.gtr rfl rfl) ?_
                  refine LW.nil (hK34 _ _ ?_)
                  by_cases hp14 : (1000000 : Int) < ((Int.tdiv c1_0_3 t11_1) * x6.den)
                  ·
                    replace F := ite_y hp14 F
                    have hq14 := dec_t hp14
                    refine CW.condT rfl hq14 ?_
                    refine CW.seq fun K35 hK35 => ?_
                    refine CW.region ?_
                    refine LW.pure rfl rfl (RV.assign rfl) ?_
                    refine LW.nil (hK35 _ _ ?_)
                    refine CW.ret ?_
                    obtain rfl := Option.some.inj F
                    refine ⟨_, (ResOK.one rfl), ?_⟩
                    refine ⟨(by first | rfl | simp), R0⟩
                  ·
                    replace F := ite_n hp14 F
                    have hq14 := dec_f hp14
                    refine CW.condF rfl hq14 ?_
                    refine CW.skip (jK585 _ _ ⟨_, ?_, ⟨((Int.tdiv c1_0_3 t11_1) * x6.den), F, rfl, H⟩⟩)
                    exact ⟨rfl, rfl, rfl, rfl, (look_slice rfl (by first | rfl | (simp; done) | omega | (simp; omega))), rfl, rfl, trivial⟩
                ·
                  intro K36 hK36 jK598
                  refine CW.block ?_
                  refine CW.loop (fun meas ρ wl11 => ∃ (t11_2 : Int) (t12_1 : Int), law01_LevelProves_L2 r5 t10_1 c1_0_3 rec2 meas t11_2 t12_1 = some res ∧ ρ = [(1, .int .i64 a1), (2, .int .i64 a2), (3, .pointer (some (⟨b1, 0, none⟩))), (6, .bool false), (7, .slice A14_0 r5.1.length c14_0), (9, .pointer (some (⟨b2, 0, none⟩))), (10, .int .i64 t10_1), (11, .int .i64 t11_2), (12, .int .i64 t12_1)] ∧ Hp w wl11 [.own A14_0 c14_0 28 2 (List.map encRat r5.1), .blk b1 24 [.int .i64 a0.points, .slice A_a0_readings a0.readings.length c_a0_readings], .blk b2 59 [.int .i64 c1_0_3, .slice none 0 0]]) FU ⟨_, ?_, c1_0_3, x7.den, F, rfl, H⟩ ?_
                  · exact ⟨rfl, rfl, rfl, rfl, (look_slice rfl (by first | rfl | (simp; done) | omega | (simp; omega))), rfl, rfl, rfl, rfl, trivial⟩
                  rintro mk3 _ wl11 ⟨t11_2, t12_1, F, rfl, H⟩
                  have R0 := H.ext
                  replace F := law01_LevelProves_L2_s F
                  obtain ⟨mk3, rfl, F⟩ := F
                  generalize hrec3 : law01_LevelProves_L2 r5 t10_1 c1_0_3 rec2 mk3 = rec3 at F
                  unfold law01_LevelProves_B2 at F
                  refine CW.seq fun K37 hK37 => ?_
                  refine CW.seq fun K38 hK38 => ?_
                  refine CW.region ?_
                  refine LW.pure rfl rfl (RV.move rfl) ?_
                  refine LW.pure rfl rfl (RV.nei rfl rfl) ?_
                  refine LW.nil (hK38 _ _ ?_)
                  by_cases hp15 : t12_1 = 0
                  ·
                    replace F := ite_y hp15 F
                    have hq15 := dec_t hp15
                    refine CW.condF rfl (not_f hq15) ?_
                    refine CW.exit (jK598 _ _ ⟨_, ?_, ⟨t11_2, F, rfl, H⟩⟩)
                    exact ⟨rfl, rfl, rfl, rfl, (look_slice rfl (by first | rfl | (simp; done) | omega | (simp; omega))), rfl, rfl, rfl, trivial⟩
                  ·
                    replace F := ite_n hp15 F
                    have hq15 := dec_f hp15
                    refine CW.condT rfl (not_t hq15) ?_
                    refine CW.skip (hK37 _ _ ?_)
                    refine CW.block ?_
                    obtain ⟨hg11, F⟩ := gd_some F
                    refine CW.draw [] (fun _ => True) (.cons 0 1 (.cons 1 1 (.cons 2 1 (.cons 3 1 (.cons 4 1 (.cons 5 1 .nil)))))) mixed (by kernel_rfl) fun w21 E12 => ?_
                    replace H := H.grow E12
                    replace R0 := H.ext
                    refine DW.fix rfl rfl rfl (fun _ EQ => RV.move rfl) ?_
                    refine DW.fix rfl rfl rfl (fun _ EQ => RV.move rfl) ?_
                    refine DW.fix rfl rfl rfl (fun _ EQ => RV.move rfl) ?_
                    refine DW.fix rfl rfl rfl (fun _ EQ => RV.rem rfl rfl hg11) ?_
                    refine DW.fix rfl rfl rfl (fun _ EQ => RV.assign rfl) ?_
                    refine DW.fix rfl rfl rfl (fun _ EQ => RV.assign rfl) ?_
                    refine DW.nil ?_
                    subst hrec3
                    refine ⟨mk3, Nat.lt_succ_self _, _, ?_, t12_1, (Int.tmod t11_2 t12_1), F, rfl, H⟩
                    exact ⟨rfl, rfl, rfl, rfl, (look_slice rfl (by first | rfl | (simp; done) | omega | (simp; omega))), rfl, rfl, rfl, rfl, trivial⟩
            ·
              intro K39 hK39 jK605
              obtain ⟨x8, hbx8, hx8, F⟩ := ix_some F
              by_cases hp16 : x8.den < 1
              ·
                replace F := ite_y hp16 F
                have hq16 := dec_t hp16
                refine CW.region ?_
                refine LW.pure rfl rfl (RV.move rfl) ?_
                refine LW.pure rfl rfl (RV.move rfl) ?_
                refine LW.pure rfl rfl (RV.indexAddr Ts53 rfl rfl hbx8 ((H.own 0 rfl).sl.addr_ hx8)) ?_
                refine LW.pure rfl rfl (RV.fieldAddr Tf28_1 rfl) ?_
                refine LW.pure rfl rfl (RV.load1 Tk3 rfl (((H.own 0 rfl).sl.at_ hx8).off 1) rfl) ?_
                refine LW.pure rfl rfl (RV.lss rfl rfl) ?_
                refine LW.pure rfl rfl (RV.move rfl) ?_
                refine LW.noB rfl rfl rfl rfl (ne_beq (v := true) hq16 rfl) ?_
                refine LW.noB rfl rfl rfl rfl (ne_beq (v := true) hq16 rfl) ?_
                refine LW.noB rfl rfl rfl rfl (ne_beq (v := true) hq16 rfl) ?_
                refine LW.noB rfl rfl rfl rfl (ne_beq (v := true) hq16 rfl) ?_
                refine LW.noB rfl rfl rfl rfl (ne_beq (v := true) hq16 rfl) ?_
                refine LW.noB rfl rfl rfl rfl (ne_beq (v := true) hq16 rfl) ?_
                refine LW.pure rfl rfl (RV.pickTB rfl hq16 rfl) ?_
                refine LW.nil (jK605 _ _ ⟨_, ?_, ⟨true, F, rfl, H⟩⟩)
                exact ⟨rfl, rfl, rfl, rfl, (look_slice rfl (by first | rfl | (simp; done) | omega | (simp; omega))), rfl, rfl, rfl, trivial⟩
              ·
                replace F := ite_n hp16 F
                have hq16 := dec_f hp16
                obtain ⟨x9, hbx9, hx9, F⟩ := ix_some F
                refine CW.region ?_
                refine LW.pure rfl rfl (RV.move rfl) ?_
                refine LW.pure rfl rfl (RV.move rfl) ?_
                refine LW.pure rfl rfl (RV.indexAddr Ts53 rfl rfl hbx8 ((H.own 0 rfl).sl.addr_ hx8)) ?_
                refine LW.pure rfl rfl (RV.fieldAddr Tf28_1 rfl) ?_
                refine LW.pure rfl rfl (RV.load1 Tk3 rfl (((H.own 0 rfl).sl.at_ hx8).off 1) rfl) ?_
                refine LW.pure rfl rfl (RV.lss rfl rfl) ?_
                refine LW.pure rfl rfl (RV.move rfl) ?_
                refine LW.pureYB rfl rfl rfl rfl hq16 (RV.move rfl) ?_
                refine LW.pureYB rfl rfl rfl rfl hq16 (RV.move rfl) ?_
                refine LW.pureYB rfl rfl rfl rfl hq16 (RV.indexAddr Ts53 rfl rfl hbx9 ((H.own 0 rfl).sl.addr_ hx9)) ?_
                refine LW.pureYB rfl rfl rfl rfl hq16 (RV.fieldAddr Tf28_1 rfl) ?_
                refine LW.pureYB rfl rfl rfl rfl hq16 (RV.load1 Tk3 rfl (((H.own 0 rfl).sl.at_ hx9).off 1) rfl) ?_
                refine LW.pureYB rfl rfl rfl rfl hq16 (RV.gtr rfl rfl) ?_
                refine LW.pure rfl rfl (RV.pickFB rfl hq16 rfl) ?_
                refine LW.nil (jK605 _ _ ⟨_, ?_, ⟨(decide ((1000000 : Int) < x9.den)), F, rfl, H⟩⟩)
                exact ⟨rfl, rfl, rfl, rfl, (look_slice rfl (by first | rfl | (simp; done) | omega | (simp; omega))), rfl, rfl, rfl, trivial⟩
        ·
          replace F := ite_n hp12 F
          have hq12 := dec_f hp12
          refine CW.condF rfl hq12 ?_
          refine CW.exit (jK475 _ _ ⟨_, ?_, ⟨c1_0_3, F, rfl, H⟩⟩)
          exact ⟨rfl, rfl, rfl, rfl, (look_slice rfl (by first | rfl | (simp; done) | omega | (simp; omega))), rfl, trivial⟩
    ·
      replace F := ite_n hp2 F
      have hq2 := dec_f hp2
      refine CW.condT rfl (not_t hq2) ?_
      refine CW.seq fun K40 hK40 => ?_
      obtain ⟨r8, hr8, F⟩ := bnd_some F
      refine CW.region ?_
      refine LW.go rfl rfl (OW.call Tc18 rfl (law01_known_ok hr8) ?_)
      rintro _ w22 ⟨rfl, E13⟩
      refine ⟨_, rfl, ?_⟩
      replace H := H.grow E13
      replace R0 := H.ext
      refine LW.pure rfl rfl (RV.assign rfl) ?_
      refine LW.nil (hK40 _ _ ?_)
      refine CW.ret ?_
      obtain rfl := Option.some.inj F
      refine ⟨_, (ResOK.one rfl), ?_⟩
      refine ⟨(by first | rfl | simp), R0⟩
end Go.D1

namespace Go.Tb
/-- A loop over 0 .. N - 1 with a state, that is left at the first i for which p does not hold. -/
theorem scan_loop {S R : Type} (N : Nat) (p : Nat → Bool) (g : Nat → S) (L : Nat → S → Int → Option R) (yes : Option R) (no : Nat → Option R)
    (step : ∀ n i : Nat, i < N → L (n + 1) (g i) (i : Int) = if p i = true then L n (g (i + 1)) ((i + 1 : Nat) : Int) else no i)
    (stop : ∀ n : Nat, L (n + 1) (g N) (N : Int) = yes) : ∀ (d n i : Nat), N = i + d → d < n → L n (g i) (i : Int) = match (List.range' i d).find? (fun j => !p j) with | none => yes | some j => no j
  | 0, n + 1, i, hd, hn => by
    have hi : i = N := by omega
    subst hi
    rw [stop n]; rfl
  | d + 1, n + 1, i, hd, hn => by
    rw [step n i (by omega), List.range'_succ, List.find?_cons]
    cases hp : p i
    · simp
    · simp only [if_true, Bool.not_true]
      exact scan_loop N p g L yes no step stop d n (i + 1) (by omega) (by omega)
theorem find_all {p : Nat → Bool} {i d : Nat} : (List.range' i d).find? (fun j => !p j) = none ↔ ∀ j, i ≤ j → j < i + d → p j = true := by
  rw [List.find?_eq_none]
  constructor
  · intro h j h1 h2
    have := h j (by rw [List.mem_range'_1]; omega)
    simpa using this
  · intro h x hx
    rw [List.mem_range'_1] at hx
    simp [h x hx.1 hx.2]
/-- A loop over 0 .. N - 1 with a state and no way out. -/
theorem for_loop {S R : Type} (N : Nat) (g : Nat → S) (L : Nat → S → Int → Option R) (yes : Option R)
    (step : ∀ n i : Nat, i < N → L (n + 1) (g i) (i : Int) = L n (g (i + 1)) ((i + 1 : Nat) : Int))
    (stop : ∀ n : Nat, L (n + 1) (g N) (N : Int) = yes) : ∀ (d n i : Nat), N = i + d → d < n → L n (g i) (i : Int) = yes
  | 0, n + 1, i, hd, hn => by
    have hi : i = N := by omega
    subst hi
    exact stop n
  | d + 1, n + 1, i, hd, hn => by
    rw [step n i (by omega)]
    exact for_loop N g L yes step stop d n (i + 1) (by omega) (by omega)
theorem for_loop0 {S R : Type} (N : Nat) (g : Nat → S) (L : Nat → S → Int → Option R) (yes : Option R)
    (step : ∀ n i : Nat, i < N → L (n + 1) (g i) (i : Int) = L n (g (i + 1)) ((i + 1 : Nat) : Int))
    (stop : ∀ n : Nat, L (n + 1) (g N) (N : Int) = yes) (hN : N ≤ 9223372036854775807) : L FU (g 0) 0 = yes :=
  for_loop N g L yes step stop N FU 0 (by omega) (by have := FU_pos; omega)
theorem scan_loop0 {S R : Type} (N : Nat) (p : Nat → Bool) (g : Nat → S) (L : Nat → S → Int → Option R) (yes no : Option R)
    (step : ∀ n i : Nat, i < N → L (n + 1) (g i) (i : Int) = if p i = true then L n (g (i + 1)) ((i + 1 : Nat) : Int) else no)
    (stop : ∀ n : Nat, L (n + 1) (g N) (N : Int) = yes) (hN : N ≤ 9223372036854775807) : L FU (g 0) 0 = if (∀ j, j < N → p j = true) then yes else no := by
  have h := scan_loop N p g L yes (fun _ => no) step stop N FU 0 (by omega) (by have := FU_pos; omega)
  refine Eq.trans h ?_
  cases hf : (List.range' 0 N).find? (fun j => !p j) with
  | none => rw [if_pos (fun j hj => find_all.1 hf j (by omega) (by omega))]
  | some j =>
    have h1 := List.find?_some hf
    have h2 := List.mem_of_find?_eq_some hf
    rw [List.mem_range'_1] at h2
    rw [if_neg]
    intro hall
    have := hall j (by omega)
    simp [this] at h1
/-- The same over the elements of a list. -/
theorem list_loop0 {α R : Type} (l : List α) (p : α → Bool) (L : Nat → Int → Option R) (yes no : Option R)
    (step : ∀ (n i : Nat) (x : α), l[i]? = some x → L (n + 1) (i : Int) = if p x = true then L n ((i + 1 : Nat) : Int) else no)
    (stop : ∀ n : Nat, L (n + 1) (l.length : Int) = yes) (hl : l.length ≤ 9223372036854775807) : L FU 0 = if l.all p = true then yes else no := by
  have h := scan_loop0 l.length (fun i => (l[i]?.map p).getD true) (fun _ => ()) (fun n _ i => L n i) yes no (fun n i hi => by
    have hx : l[i]? = some l[i] := by simp [hi]
    rw [step n i _ hx]; simp [hx]) stop hl
  refine Eq.trans h ?_
  by_cases ha : l.all p = true
  · rw [if_pos ha, if_pos]
    intro j hj
    have := List.all_eq_true.1 ha l[j] (List.getElem_mem hj)
    simp [hj, this]
  · rw [if_neg ha, if_neg]
    intro hc
    refine ha (List.all_eq_true.2 fun x hx => ?_)
    obtain ⟨j, hj⟩ := List.getElem?_of_mem hx
    have := hc j (lt_of_at hj)
    simpa [hj] using this
end Go.Tb

set_option linter.unusedVariables false
set_option linter.unusedSimpArgs false
namespace Go.D1
open Go.Tb
theorem known_eq : law01_known = some true := by decide +kernel
theorem ix0 {α β : Type} {l : List α} {k : α → Option β} {x : α} (h : l[0]? = some x) : ix l 0 k = k x := ix_nat (i := 0) h
theorem for0 {S R : Type} (N : Nat) (g : Nat → S) (L : Nat → S → Int → Option R) (yes : Option R) {s0 : S} (h0 : g 0 = s0)
    (step : ∀ n i : Nat, i < N → L (n + 1) (g i) (i : Int) = L n (g (i + 1)) ((i + 1 : Nat) : Int))
    (stop : ∀ n : Nat, L (n + 1) (g N) (N : Int) = yes) (hN : N ≤ 9223372036854775807) : L FU s0 0 = yes := by
  rw [← h0]; exact for_loop0 N g L yes step stop hN
def gi (l : List Int) (i : Nat) : Int := l.getD i 0
theorem gi_at {l : List Int} {i : Nat} (h : i < l.length) : l[i]? = some (gi l i) := by simp [gi, List.getD, h]
theorem gi_of {l : List Int} {i : Nat} {x : Int} (h : l[i]? = some x) : gi l i = x := by simp [gi, List.getD, h]
theorem gi_set {l : List Int} {i j : Nat} {x : Int} : gi (l.set i x) j = if i = j ∧ j < l.length then x else gi l j := by
  unfold gi
  simp only [List.getD_eq_getElem?_getD, List.getElem?_set]
  by_cases h : i = j
  · subst h
    by_cases h2 : i < l.length
    · simp [h2]
    · simp [h2]
  · simp [h]
theorem gi_ext {l l' : List Int} (hl : l.length = l'.length) (h : ∀ j, j < l.length → gi l j = gi l' j) : l = l' := by
  apply List.ext_getElem?
  intro j
  by_cases hj : j < l.length
  · rw [gi_at hj, gi_at (by omega), h j hj]
  · rw [List.getElem?_eq_none (by omega), List.getElem?_eq_none (by omega)]
def within (n lo hi : Int) : Bool := decide (lo ≤ n) && decide (n ≤ hi)
theorem within_iff {n lo hi : Int} : within n lo hi = true ↔ lo ≤ n ∧ n ≤ hi := by unfold within; simp
theorem lwithin_eq (n lo hi : Int) : level_within n lo hi = some (within n lo hi) := by
  unfold level_within within
  by_cases h : lo ≤ n <;> simp [h]
def okR (s : Survey) (r : Reading) : Bool := within r.from_ 0 (s.points - 1) && within r.to_ 0 (s.points - 1) && !decide (r.from_ = r.to_) && within r.rise (-1000) 1000 && within r.weight 1 3
def validate (s : Survey) : Int := if within s.points 1 5 = true then (if 8 < s.readings.length then 3 else if s.readings.all (okR s) = true then 0 else 1) else 1
theorem Validate_eq (s : Survey) : level_Validate s = some (validate s) := by
  unfold level_Validate validate
  rw [bnd_eq (lwithin_eq _ _ _)]
  by_cases hp : within s.points 1 5 = true
  · have hw := within_iff.1 hp
    rw [if_pos hp, if_pos hp]
    by_cases h8 : 8 < s.readings.length
    · rw [if_pos (by omega), if_pos h8]
    · rw [if_neg (by omega), if_neg h8]
      refine Eq.trans (list_loop0 s.readings (okR s) (level_Validate_L1 s) (some 0) (some 1) (fun k i x hx => ?_) (fun k => ?_) (by omega)) (by split <;> rfl)
      · have := lt_of_at hx
        show level_Validate_B1 s (level_Validate_L1 s k) _ = _
        unfold level_Validate_B1 okR level_Validate_k2
        rw [if_pos (by omega), ix_nat hx, gd_pos (by omega), bnd_eq (lwithin_eq _ _ _)]
        cases h1 : within x.from_ 0 (s.points - 1)
        · rw [if_neg (by simp), if_pos rfl]; rfl
        · rw [if_pos rfl, gd_pos (by omega), bnd_eq (lwithin_eq _ _ _)]
          cases h2 : within x.to_ 0 (s.points - 1)
          · rw [if_neg (by simp), if_pos rfl]; rfl
          · rw [if_pos rfl]
            by_cases h3 : x.from_ = x.to_
            · rw [if_pos h3, if_pos rfl, decide_eq_true h3]; rfl
            · rw [if_neg h3, decide_eq_false h3, bnd_eq (lwithin_eq _ _ _)]
              cases h4 : within x.rise (-1000) 1000
              · rw [if_neg (by simp), if_pos rfl]; rfl
              · rw [if_pos rfl, bnd_eq (lwithin_eq _ _ _)]
                cases h5 : within x.weight 1 3
                · rw [if_pos (by rfl)]; rfl
                · rw [if_neg (by simp), gd_pos (by omega)]; rfl
      · show level_Validate_B1 s (level_Validate_L1 s k) _ = _
        unfold level_Validate_B1
        rw [if_neg (by omega)]; rfl
  · rw [if_neg hp, if_neg hp]
structure SvOk (s : Survey) : Prop where
  p1 : 1 ≤ s.points
  p5 : s.points ≤ 5
  len : s.readings.length ≤ 8
  rd : ∀ r ∈ s.readings, (0 ≤ r.from_ ∧ r.from_ < s.points) ∧ (0 ≤ r.to_ ∧ r.to_ < s.points) ∧ r.from_ ≠ r.to_ ∧ (-1000 ≤ r.rise ∧ r.rise ≤ 1000) ∧ (1 ≤ r.weight ∧ r.weight ≤ 3)
theorem val0 {s : Survey} : validate s = 0 ↔ SvOk s := by
  unfold validate
  constructor
  · intro h
    split at h
    · rename_i hp
      have hw := within_iff.1 hp
      split at h
      · omega
      · split at h
        · rename_i hall
          refine ⟨hw.1, hw.2, by omega, fun r hr => ?_⟩
          have := List.all_eq_true.1 hall r hr
          unfold okR at this
          simp only [Bool.and_eq_true, within_iff, Bool.not_eq_true', decide_eq_false_iff_not] at this
          omega
        · omega
    · omega
  · intro h
    rw [if_pos (within_iff.2 ⟨h.p1, h.p5⟩), if_neg (by have := h.len; omega), if_pos]
    rw [List.all_eq_true]
    intro r hr
    have := h.rd r hr
    unfold okR
    simp only [Bool.and_eq_true, within_iff, Bool.not_eq_true', decide_eq_false_iff_not]
    omega
theorem Long_eq (s : Survey) : law01_Long s = some (decide ((100 : Int) < (s.readings.length : Int))) := rfl
end Go.D1

set_option linter.unusedVariables false
set_option linter.unusedSimpArgs false
namespace Go.D1
open Go.Tb
def gr (l : List Reading) (i : Nat) : Reading := l.getD i ⟨0, 0, 0, 0⟩
theorem gr_at {l : List Reading} {i : Nat} (h : i < l.length) : l[i]? = some (gr l i) := by simp [gr, List.getD, h]
theorem gr_ok {s : Survey} (h : SvOk s) {i : Nat} (hi : i < s.readings.length) : (0 ≤ (gr s.readings i).from_ ∧ (gr s.readings i).from_ < s.points) ∧ (0 ≤ (gr s.readings i).to_ ∧ (gr s.readings i).to_ < s.points) ∧ (gr s.readings i).from_ ≠ (gr s.readings i).to_ ∧ (-1000 ≤ (gr s.readings i).rise ∧ (gr s.readings i).rise ≤ 1000) ∧ (1 ≤ (gr s.readings i).weight ∧ (gr s.readings i).weight ≤ 3) := h.rd _ (List.mem_of_getElem? (gr_at hi))
/-- Joined by the first j readings. -/
inductive Con (s : Survey) (j : Nat) : Int → Int → Prop where
  | refl (a : Int) : Con s j a a
  | edge {i : Nat} : i < j → i < s.readings.length → Con s j (gr s.readings i).from_ (gr s.readings i).to_
  | symm {a b : Int} : Con s j a b → Con s j b a
  | trans {a b c : Int} : Con s j a b → Con s j b c → Con s j a c
theorem Con.mono {s : Survey} {j k : Nat} (hjk : j ≤ k) {a b : Int} (h : Con s j a b) : Con s k a b := by
  induction h with
  | refl a => exact .refl a
  | edge h1 h2 => exact .edge (by omega) h2
  | symm _ ih => exact ih.symm
  | trans _ _ i1 i2 => exact i1.trans i2
/-- A list that gives the smallest point of each point's part. -/
structure Roots (s : Survey) (j : Nat) (f : List Int) : Prop where
  len : f.length = s.points.toNat
  le : ∀ i, i < f.length → 0 ≤ gi f i ∧ gi f i ≤ i
  con : ∀ i, i < f.length → Con s j (gi f i) (i : Int)
  same : ∀ i, i < j → i < s.readings.length → gi f (gr s.readings i).from_.toNat = gi f (gr s.readings i).to_.toNat
theorem Roots.eq_of {s : Survey} (hs : SvOk s) {j : Nat} {f : List Int} (h : Roots s j f) {a b : Int} (hc : Con s j a b) : (0 ≤ a ∧ a < s.points ↔ 0 ≤ b ∧ b < s.points) ∧ (0 ≤ a ∧ a < s.points → gi f a.toNat = gi f b.toNat) := by
  induction hc with
  | refl a => exact ⟨Iff.rfl, fun _ => rfl⟩
  | edge h1 h2 =>
    have := gr_ok hs h2
    exact ⟨by omega, fun _ => h.same _ h1 h2⟩
  | symm _ ih => exact ⟨ih.1.symm, fun hb => (ih.2 (ih.1.2 hb)).symm⟩
  | trans _ _ i1 i2 => exact ⟨i1.1.trans i2.1, fun ha => (i1.2 ha).trans (i2.2 (i1.1.1 ha))⟩
theorem Roots.uniq {s : Survey} (hs : SvOk s) {j : Nat} {f g : List Int} (hf : Roots s j f) (hg : Roots s j g) : f = g := by
  have hp := hs.p1
  refine gi_ext (by rw [hf.len, hg.len]) fun i hi => ?_
  have hfl := hf.len
  have hgl := hg.len
  have key : ∀ {f g : List Int}, Roots s j f → Roots s j g → ∀ i, i < s.points.toNat → gi g i ≤ gi f i := fun {f g} hf hg i hi => by
    have h1 := hf.le i (by rw [hf.len]; exact hi)
    have h2 := (hg.eq_of hs (hf.con i (by rw [hf.len]; exact hi))).2 (by omega)
    have h3 := hg.le (gi f i).toNat (by rw [hg.len]; omega)
    rw [show ((i : Int)).toNat = i by omega] at h2
    omega
  have := key hf hg i (by omega)
  have := key hg hf i (by omega)
  omega
def relab (f : List Int) (a b : Int) : List Int := f.map fun x => if x = max (gi f a.toNat) (gi f b.toNat) then min (gi f a.toNat) (gi f b.toNat) else x
theorem relab_len (f : List Int) (a b : Int) : (relab f a b).length = f.length := by unfold relab; simp
theorem relab_gi {f : List Int} {a b : Int} {i : Nat} (hi : i < f.length) : gi (relab f a b) i = if gi f i = max (gi f a.toNat) (gi f b.toNat) then min (gi f a.toNat) (gi f b.toNat) else gi f i := by
  apply gi_of
  unfold relab
  rw [List.getElem?_map, gi_at hi]; rfl
theorem join_eq {f : List Int} {a b : Int} (hf : f.length ≤ 1000) (ha : 0 ≤ a ∧ a < (f.length : Int)) (hb : 0 ≤ b ∧ b < (f.length : Int)) : level_forest_1 f a b = some (!decide (gi f a.toNat = gi f b.toNat), relab f a b) := by
  have hA : f[a.toNat]? = some (gi f a.toNat) := gi_at (by omega)
  have hB : f[b.toNat]? = some (gi f b.toNat) := gi_at (by omega)
  unfold level_forest_1
  rw [ix_eq ha.1 hA, ix_eq hb.1 hB, ix_eq ha.1 hA, ix_eq hb.1 hB]
  refine Eq.trans (for0 f.length (fun i => (relab f a b).take i ++ f.drop i) (fun k s i => level_forest_1_L1 f (gi f a.toNat) (gi f b.toNat) (gi f a.toNat) (gi f b.toNat) k i s) (some (!decide (gi f a.toNat = gi f b.toNat), relab f a b)) (by simp) (fun k i hi => ?_) (fun k => ?_) (by omega)) rfl
  · show level_forest_1_B1 f _ _ _ _ (level_forest_1_L1 f _ _ _ _ k) _ _ = _
    have hl := relab_len f a b
    have hx : ((relab f a b).take i ++ f.drop i)[i]? = some (gi f i) := by
      rw [List.getElem?_append_right (by rw [List.length_take]; omega), List.length_take, hl, List.getElem?_drop, show i + (i - min i f.length) = i by omega]
      exact gi_at hi
    have hnext : (relab f a b).take (i + 1) ++ f.drop (i + 1) = ((relab f a b).take i ++ f.drop i).set i (gi (relab f a b) i) := by
      rw [List.set_append_right _ _ (by rw [List.length_take]; omega), List.length_take, hl, show i - min i f.length = 0 by omega, List.drop_eq_getElem_cons hi, List.set_cons_zero, List.take_add_one, gi_at (by omega)]
      simp
    unfold level_forest_1_B1 level_forest_1_k2
    rw [if_pos (by omega), ix_nat hx]
    by_cases hm : gi f i = max (gi f a.toNat) (gi f b.toNat)
    · rw [if_pos hm, ix_nat hx, gd_pos (by omega), hnext, relab_gi hi, if_pos hm]; rfl
    · rw [if_neg hm, gd_pos (by omega), hnext, relab_gi hi, if_neg hm]
      have e : ((relab f a b).take i ++ f.drop i).set i (gi f i) = (relab f a b).take i ++ f.drop i := by
        apply List.ext_getElem?
        intro q
        rw [List.getElem?_set]
        by_cases hq : i = q
        · subst hq; rw [if_pos rfl, if_pos (lt_of_at hx), hx]
        · rw [if_neg hq]
      rw [e]; rfl
  · show level_forest_1_B1 f _ _ _ _ (level_forest_1_L1 f _ _ _ _ k) _ _ = _
    unfold level_forest_1_B1 level_forest_1_k1
    have hl := relab_len f a b
    rw [if_neg (by omega), List.drop_of_length_le (Nat.le_refl _), List.append_nil, List.take_of_length_le (by omega)]
    congr 3
    exact decide_eq_decide.2 (by omega)
def iota (n : Nat) : List Int := (List.range n).map fun (i : Nat) => (i : Int)
theorem iota_gi {n i : Nat} (h : i < n) : gi (iota n) i = i := by
  apply gi_of
  unfold iota
  rw [List.getElem?_map, List.getElem?_range h]; rfl
theorem iota_len (n : Nat) : (iota n).length = n := by unfold iota; simp
theorem iota_succ (n : Nat) : iota (n + 1) = iota n ++ [(n : Int)] := by unfold iota; rw [List.range_succ, List.map_append]; rfl
def firsts (s : Survey) : Nat → List Int
  | 0 => iota s.points.toNat
  | j + 1 => relab (firsts s j) (gr s.readings j).from_ (gr s.readings j).to_
theorem firsts_ok {s : Survey} (hs : SvOk s) : ∀ j, j ≤ s.readings.length → Roots s j (firsts s j)
  | 0, _ => {
    len := iota_len _
    le := fun i hi => by
      simp only [firsts] at hi ⊢
      rw [iota_len] at hi
      rw [iota_gi hi]; omega
    con := fun i hi => by
      simp only [firsts] at hi ⊢
      rw [iota_len] at hi
      rw [iota_gi hi]; exact .refl _
    same := fun i hi => by omega }
  | j + 1, hj => by
    have ih := firsts_ok hs j (by omega)
    have hr := gr_ok hs (i := j) (by omega)
    have hl := ih.len
    have hp := hs.p1
    have la := ih.le (gr s.readings j).from_.toNat (by omega)
    have lb := ih.le (gr s.readings j).to_.toNat (by omega)
    have ca := (ih.con (gr s.readings j).from_.toNat (by omega)).mono (Nat.le_succ j)
    have cb := (ih.con (gr s.readings j).to_.toNat (by omega)).mono (Nat.le_succ j)
    rw [show (((gr s.readings j).from_.toNat : Nat) : Int) = (gr s.readings j).from_ by omega] at ca
    rw [show (((gr s.readings j).to_.toNat : Nat) : Int) = (gr s.readings j).to_ by omega] at cb
    have cab : Con s (j + 1) (gi (firsts s j) (gr s.readings j).from_.toNat) (gi (firsts s j) (gr s.readings j).to_.toNat) := ca.trans ((Con.edge (Nat.lt_succ_self j) (by omega)).trans cb.symm)
    have hg : ∀ i, i < (firsts s j).length → gi (firsts s (j + 1)) i = if gi (firsts s j) i = max (gi (firsts s j) (gr s.readings j).from_.toNat) (gi (firsts s j) (gr s.readings j).to_.toNat) then min (gi (firsts s j) (gr s.readings j).from_.toNat) (gi (firsts s j) (gr s.readings j).to_.toNat) else gi (firsts s j) i := fun i hi => relab_gi hi
    generalize hA : gi (firsts s j) (gr s.readings j).from_.toNat = A at *
    generalize hB : gi (firsts s j) (gr s.readings j).to_.toNat = B at *
    have hl' : (firsts s (j + 1)).length = (firsts s j).length := relab_len _ _ _
    refine ⟨by rw [hl', hl], fun i hi => ?_, fun i hi => ?_, fun i hi hi2 => ?_⟩
    · rw [hl'] at hi
      have := ih.le i hi
      rw [hg i hi]
      split <;> omega
    · rw [hl'] at hi
      rw [hg i hi]
      have hc := (ih.con i hi).mono (Nat.le_succ j)
      split
      · rename_i he
        rw [he] at hc
        have cm : Con s (j + 1) (min A B) (max A B) := by
          rcases Int.le_total A B with h | h
          · rw [show min A B = A by omega, show max A B = B by omega]; exact cab
          · rw [show min A B = B by omega, show max A B = A by omega]; exact cab.symm
        exact cm.trans hc
      · exact hc
    · have hri := gr_ok hs hi2
      rw [hg _ (by omega), hg _ (by omega)]
      by_cases e : i = j
      · subst e
        rw [hA, hB]
        split <;> split <;> omega
      · rw [ih.same i (by omega) hi2]
def treeL (s : Survey) : Nat → List Int
  | 0 => []
  | j + 1 => treeL s j ++ (if gi (firsts s j) (gr s.readings j).from_.toNat = gi (firsts s j) (gr s.readings j).to_.toNat then [] else [(j : Int)])
theorem treeL_len (s : Survey) : ∀ j, (treeL s j).length ≤ j
  | 0 => Nat.le_refl _
  | j + 1 => by
    have := treeL_len s j
    simp only [treeL]
    split <;> simp <;> omega
theorem forest_eq {s : Survey} (hs : SvOk s) : level_forest s = some (firsts s s.readings.length, treeL s s.readings.length) := by
  have hp := hs.p1
  have hp5 := hs.p5
  have h8 := hs.len
  unfold level_forest
  refine for0 s.points.toNat iota (fun k l i => level_forest_L2 s k i l) _ rfl (fun k i hi => ?_) (fun k => ?_) (by omega)
  · show level_forest_B2 s (level_forest_L2 s k) _ _ = _
    unfold level_forest_B2
    have := iota_len i
    rw [if_pos (by omega), gd_pos (by rw [this]; simp; omega), gd_pos (by omega), iota_succ]; rfl
  · show level_forest_B2 s (level_forest_L2 s k) _ _ = _
    unfold level_forest_B2 level_forest_k3
    rw [if_neg (by omega)]
    refine for0 s.readings.length (fun i => (treeL s i, firsts s i)) (fun k l i => level_forest_L1 s k i l.1 l.2) _ (s0 := ([], iota s.points.toNat)) rfl (fun k i hi => ?_) (fun k => ?_) (by omega)
    · show level_forest_B1 s (level_forest_L1 s k) (i : Int) (treeL s i) (firsts s i) = _
      have hF := firsts_ok hs i (by omega)
      have hl := hF.len
      have hr := gr_ok hs hi
      have ht := treeL_len s i
      unfold level_forest_B1 level_forest_k2
      rw [if_pos (by omega), ix_nat (gr_at hi), bnd_eq (join_eq (by omega) (by omega) (by omega))]
      simp only [treeL, firsts]
      by_cases he : gi (firsts s i) (gr s.readings i).from_.toNat = gi (firsts s i) (gr s.readings i).to_.toNat
      · rw [if_neg (by simp [he]), gd_pos (by omega), if_pos he, List.append_nil]; rfl
      · rw [if_pos (by simp [he]), gd_pos (by simp; omega), gd_pos (by omega), if_neg he]; rfl
    · show level_forest_B1 s (level_forest_L1 s k) _ _ _ = _
      unfold level_forest_B1
      rw [if_neg (by omega)]; rfl
/-- One step: two points are told the smaller number. -/
def step (f : List Int) (a b : Nat) : List Int := (f.set a (min (gi f a) (gi f b))).set b (min (gi f a) (gi f b))
end Go.D1

set_option linter.unusedVariables false
set_option linter.unusedSimpArgs false
namespace Go.D1
open Go.Tb
def nodesOf (n : Nat) (p : Int → Bool) : List Int := (iota n).filter p
theorem nodesOf_len (n : Nat) (p : Int → Bool) : (nodesOf n p).length ≤ n := by
  have := List.length_filter_le p (iota n)
  rw [iota_len] at this
  exact this
theorem nodesOf_succ (n : Nat) (p : Int → Bool) : nodesOf (n + 1) p = nodesOf n p ++ (if p (n : Int) = true then [(n : Int)] else []) := by
  unfold nodesOf
  rw [iota_succ, List.filter_append]
  congr 1
  by_cases h : p (n : Int) = true
  · rw [if_pos h, List.filter_cons, if_pos h]; rfl
  · rw [if_neg h, List.filter_cons, if_neg h]; rfl
/-- The points of a part. -/
def partOf (f : List Int) (i : Int) : List Int := nodesOf f.length fun k => decide (gi f k.toNat = i)
def isRoot (f : List Int) (i : Int) : Bool := decide (gi f i.toNat = i)
def partsL (f : List Int) (j : Nat) : List (List Int) := (nodesOf j (isRoot f)).map (partOf f)
theorem partsL_succ (f : List Int) (j : Nat) : partsL f (j + 1) = partsL f j ++ (if gi f j = (j : Int) then [partOf f (j : Int)] else []) := by
  unfold partsL
  rw [nodesOf_succ, List.map_append]
  congr 1
  by_cases h : gi f j = (j : Int)
  · rw [if_pos h, if_pos (show isRoot f (j : Int) = true from decide_eq_true h)]; rfl
  · rw [if_neg h, if_neg (by unfold isRoot; simpa using h)]; rfl
theorem partsL_len (f : List Int) (j : Nat) : (partsL f j).length ≤ j := by
  unfold partsL
  rw [List.length_map]
  exact nodesOf_len _ _
def rootsOf (s : Survey) : List Int := firsts s s.readings.length
theorem rootsOf_ok {s : Survey} (hs : SvOk s) : Roots s s.readings.length (rootsOf s) := firsts_ok hs _ (Nat.le_refl _)
def partsR (s : Survey) : List (List Int) := partsL (rootsOf s) s.points.toNat
theorem parts_eq {s : Survey} (hs : SvOk s) : level_parts s = some (partsR s) := by
  have hp := hs.p1
  have hp5 := hs.p5
  have hf := rootsOf_ok hs
  have hfl := hf.len
  unfold level_parts
  rw [bnd_eq (forest_eq hs)]
  show level_parts_L2 (rootsOf s, _) FU 0 [] = _
  refine for0 s.points.toNat (partsL (rootsOf s)) (fun k l i => level_parts_L2 (rootsOf s, treeL s s.readings.length) k i l) _ rfl (fun k i hi => ?_) (fun k => ?_) (by omega)
  · show level_parts_B2 (rootsOf s, treeL s s.readings.length) (level_parts_L2 (rootsOf s, treeL s s.readings.length) k) _ _ = _
    have hx : (rootsOf s)[i]? = some (gi (rootsOf s) i) := gi_at (by omega)
    have hpl := partsL_len (rootsOf s) i
    unfold level_parts_B2 level_parts_k2
    rw [if_pos (by simp only; omega), ix_nat hx, partsL_succ]
    by_cases he : gi (rootsOf s) i = (i : Int)
    · rw [if_pos he, if_pos he]
      refine for0 (rootsOf s).length (fun q => nodesOf q fun k => decide (gi (rootsOf s) k.toNat = (i : Int))) (fun k' l q => level_parts_L1 (rootsOf s, treeL s s.readings.length) (i : Int) (partsL (rootsOf s) i) (level_parts_L2 (rootsOf s, treeL s s.readings.length) k) k' q l) _ rfl (fun k' q hq => ?_) (fun k' => ?_) (by omega)
      · have hll := nodesOf_len q fun k => decide (gi (rootsOf s) k.toNat = (i : Int))
        show level_parts_B1 _ _ _ _ (level_parts_L1 _ _ _ _ k') _ _ = _
        unfold level_parts_B1 level_parts_k4
        rw [if_pos (by simp only; omega), ix_nat (gi_at hq), nodesOf_succ]
        by_cases h2 : gi (rootsOf s) q = (i : Int)
        · rw [if_pos h2, gd_pos (by simp; omega), gd_pos (by omega), if_pos (show decide (gi (rootsOf s) ((q : Int)).toNat = (i : Int)) = true from decide_eq_true h2)]; rfl
        · rw [if_neg h2, gd_pos (by omega), if_neg (show ¬ decide (gi (rootsOf s) ((q : Int)).toNat = (i : Int)) = true by simpa using h2), List.append_nil]; rfl
      · show level_parts_B1 _ _ _ _ (level_parts_L1 _ _ _ _ k') _ _ = _
        unfold level_parts_B1 level_parts_k3 level_parts_k2
        rw [if_neg (by simp only; omega), gd_pos (by omega), gd_pos (by omega)]; rfl
    · rw [if_neg he, if_neg he, gd_pos (by omega), List.append_nil]; rfl
  · show level_parts_B2 (rootsOf s, treeL s s.readings.length) (level_parts_L2 (rootsOf s, treeL s s.readings.length) k) _ _ = _
    unfold level_parts_B2
    rw [if_neg (by simp only; omega)]; rfl
end Go.D1

set_option linter.unusedVariables false
set_option linter.unusedSimpArgs false
namespace Go.D1
open Go.Tb
/-- Numbers whose negative is a number, too. -/
def Sm (x : Int) : Prop := -9223372036854775807 ≤ x ∧ x ≤ 9223372036854775807
theorem Sm.inR {x : Int} (h : Sm x) : InR x := by unfold Sm at h; omega
theorem Sm.neg {x : Int} (h : Sm x) : Sm (-x) := by unfold Sm at *; omega
theorem sm_abs {x : Int} : Sm x ↔ x.natAbs ≤ 9223372036854775807 := by unfold Sm; omega
theorem gcd_tmod (a b : Int) : Int.gcd b (Int.tmod a b) = Int.gcd a b := by
  unfold Int.gcd
  rw [Int.natAbs_tmod, Nat.gcd_comm, ← Nat.gcd_rec, Nat.gcd_comm]
theorem sm_tmod {a b : Int} (h : Sm a) : Sm (Int.tmod a b) := by
  rw [sm_abs] at h ⊢
  rw [Int.natAbs_tmod]
  exact Nat.le_trans (Nat.mod_le _ _) h
theorem gcd_loop : ∀ (q k : Nat) (a b : Int), b.natAbs ≤ q → q < k → Sm a → Sm b → level_gcd_L1 k a b = some (Int.gcd a b : Int)
  | q, k + 1, a, b, hq, hk, ha, hb => by
    show level_gcd_B1 (level_gcd_L1 k) a b = _
    unfold level_gcd_B1 level_gcd_k1
    by_cases h0 : b = 0
    · subst h0
      rw [if_pos rfl, gd_pos ha.neg.inR, Int.gcd_zero_right]
      congr 1; omega
    · have hlt : (Int.tmod a b).natAbs < b.natAbs := by
        rw [Int.natAbs_tmod]
        exact Nat.mod_lt _ (by omega)
      rw [if_neg h0, gd_pos ⟨h0, (sm_tmod ha).inR⟩]
      cases q with
      | zero => omega
      | succ q => rw [gcd_loop q k b (Int.tmod a b) (by omega) (by omega) hb (sm_tmod ha), gcd_tmod]
theorem gcd_eq {a b : Int} (ha : Sm a) (hb : Sm b) : level_gcd a b = some (Int.gcd a b : Int) :=
  gcd_loop b.natAbs FU a b (Nat.le_refl _) (by have := FU_pos; have := sm_abs.1 hb; omega) ha hb
/-- n / d in lowest terms. -/
def red (n d : Int) : Rat := if d < 0 then ⟨Int.tdiv n (-(Int.gcd n d : Int)), Int.tdiv d (-(Int.gcd n d : Int))⟩ else ⟨Int.tdiv n (Int.gcd n d : Int), Int.tdiv d (Int.gcd n d : Int)⟩
theorem gcd_pos_ {n d : Int} (hd : d ≠ 0) : 0 < Int.gcd n d := Int.gcd_pos_of_ne_zero_right n hd
theorem red_parts {n d : Int} (hd : d ≠ 0) : ∃ g : Int, g ≠ 0 ∧ g.natAbs = Int.gcd n d ∧ (g < 0 ↔ d < 0) ∧ n = (red n d).num * g ∧ d = (red n d).den * g := by
  have hg := gcd_pos_ (n := n) hd
  have h1 : (Int.gcd n d : Int) ∣ n := Int.gcd_dvd_left ..
  have h2 : (Int.gcd n d : Int) ∣ d := Int.gcd_dvd_right ..
  unfold red
  by_cases hlt : d < 0
  · rw [if_pos hlt]
    refine ⟨-(Int.gcd n d : Int), by omega, by omega, by omega, ?_, ?_⟩
    · exact (Int.tdiv_mul_cancel (Int.neg_dvd.2 h1)).symm
    · exact (Int.tdiv_mul_cancel (Int.neg_dvd.2 h2)).symm
  · rw [if_neg hlt]
    refine ⟨(Int.gcd n d : Int), by omega, by omega, by omega, ?_, ?_⟩
    · exact (Int.tdiv_mul_cancel h1).symm
    · exact (Int.tdiv_mul_cancel h2).symm
/-- In lowest terms. -/
structure Low (x : Rat) : Prop where
  pos : 0 < x.den
  cop : Int.gcd x.num x.den = 1
theorem red_low {n d : Int} (hd : d ≠ 0) : Low (red n d) ∧ (red n d).num * d = n * (red n d).den := by
  obtain ⟨g, g0, g1, g2, g3, g4⟩ := red_parts (n := n) hd
  generalize red n d = x at *
  refine ⟨⟨?_, ?_⟩, ?_⟩
  · rcases Int.lt_trichotomy x.den 0 with h | h | h
    · exfalso
      by_cases hg : g < 0
      · have := Int.mul_pos_of_neg_of_neg h hg
        have := g2.1 hg
        omega
      · have := Int.mul_neg_of_neg_of_pos h (show 0 < g by omega)
        exact hg (g2.2 (by omega))
    · exfalso; rw [h, Int.zero_mul] at g4; exact hd g4
    · exact h
  · have h := g1
    rw [g3, g4, Int.gcd_mul_right] at h
    have hp : 0 < g.natAbs := by omega
    exact (Nat.eq_of_mul_eq_mul_right hp (by rw [Nat.one_mul]; exact h)).symm
  · calc x.num * d = x.num * (x.den * g) := by rw [← g4]
      _ = x.num * g * x.den := by rw [Int.mul_assoc, Int.mul_comm x.den g]
      _ = n * x.den := by rw [← g3]
theorem red_sm {n d : Int} (hd : d ≠ 0) (hn : Sm n) (hd' : Sm d) : Sm (red n d).num ∧ Sm (red n d).den := by
  obtain ⟨g, g0, g1, g2, g3, g4⟩ := red_parts (n := n) hd
  rw [sm_abs] at hn hd'
  rw [sm_abs, sm_abs]
  have hp : 1 ≤ g.natAbs := by omega
  have e1 : n.natAbs = (red n d).num.natAbs * g.natAbs := by rw [← Int.natAbs_mul, ← g3]
  have e2 : d.natAbs = (red n d).den.natAbs * g.natAbs := by rw [← Int.natAbs_mul, ← g4]
  have := Nat.le_mul_of_pos_right (red n d).num.natAbs hp
  have := Nat.le_mul_of_pos_right (red n d).den.natAbs hp
  omega
theorem cop_dvd {a b c : Int} (h : Int.gcd b a = 1) (hd : a ∣ b * c) : a ∣ c := by
  rw [← Int.natAbs_dvd_natAbs] at hd ⊢
  rw [Int.natAbs_mul] at hd
  have hc : Nat.gcd a.natAbs b.natAbs = 1 := by rw [Nat.gcd_comm]; exact h
  exact Nat.Coprime.dvd_of_dvd_mul_left hc hd
/-- Two fractions in lowest terms with the same value are the same. -/
theorem low_eq {x y : Rat} (hx : Low x) (hy : Low y) (h : x.num * y.den = y.num * x.den) : x = y := by
  have h1 : x.den ∣ y.den := by
    have : x.den ∣ x.num * y.den := by rw [h]; exact Int.dvd_mul_left ..
    exact cop_dvd hx.cop this
  have h2 : y.den ∣ x.den := by
    have : y.den ∣ y.num * x.den := by rw [← h]; exact Int.dvd_mul_left ..
    exact cop_dvd hy.cop this
  have hd : x.den = y.den := Int.le_antisymm (Int.le_of_dvd hy.pos h1) (Int.le_of_dvd hx.pos h2)
  have hn : x.num = y.num := by
    rw [hd] at h
    exact Int.eq_of_mul_eq_mul_right (by have := hy.pos; omega) h
  cases x; cases y
  simp only at hd hn
  rw [hd, hn]
theorem ratio_eq {n d : Int} (hd : d ≠ 0) (hn : Sm n) (hd' : Sm d) : level_ratio n d = some (red n d) := by
  have hg := gcd_pos_ (n := n) hd
  have ⟨s1, s2⟩ := red_sm hd hn hd'
  have hgs : Sm (Int.gcd n d : Int) := by
    rw [sm_abs]
    have := Nat.le_of_dvd (show 0 < d.natAbs by omega) (Nat.gcd_dvd_right n.natAbs d.natAbs)
    have h3 := sm_abs.1 hd'
    show (Nat.gcd n.natAbs d.natAbs) ≤ _
    omega
  unfold level_ratio level_ratio_k1
  rw [bnd_eq (gcd_eq hn hd')]
  unfold red at s1 s2 ⊢
  by_cases hlt : d < 0
  · rw [if_pos hlt] at s1 s2 ⊢
    rw [if_pos hlt, gd_pos hgs.neg.inR, gd_pos ⟨by omega, s1.inR⟩, gd_pos ⟨by omega, s2.inR⟩]
  · rw [if_neg hlt] at s1 s2 ⊢
    rw [if_neg hlt, gd_pos ⟨by omega, s1.inR⟩, gd_pos ⟨by omega, s2.inR⟩]
/-- x is n / d. -/
def Is (x : Rat) (n d : Int) : Prop := Low x ∧ x.num * d = n * x.den
theorem Is.red {n d : Int} (hd : d ≠ 0) : Is (red n d) n d := red_low hd
theorem Is.uniq {x y : Rat} {n d : Int} (hd : d ≠ 0) (hx : Is x n d) (hy : Is y n d) : x = y := by
  refine low_eq hx.1 hy.1 ?_
  have h1 := hx.2
  have h2 := hy.2
  have : (x.num * y.den - y.num * x.den) * d = 0 := by grind
  rcases Int.mul_eq_zero.1 this with h | h
  · omega
  · exact absurd h hd
theorem Low.den_ne {x : Rat} (h : Low x) : x.den ≠ 0 := by have := h.pos; omega
theorem sub_eq {x y : Rat} (hx : Low x) (hy : Low y) (h1 : Sm (x.num * y.den)) (h2 : Sm (y.num * x.den)) (h3 : Sm (x.num * y.den - y.num * x.den)) (h4 : Sm (x.den * y.den)) : level_sub x y = some (red (x.num * y.den - y.num * x.den) (x.den * y.den)) := by
  have hd : x.den * y.den ≠ 0 := Int.mul_ne_zero hx.den_ne hy.den_ne
  unfold level_sub
  rw [gd_pos h1.inR, gd_pos h2.inR, gd_pos h3.inR, gd_pos h4.inR, bnd_eq (ratio_eq hd h3 h4)]
theorem mul_parts {a b c d : Int} (hb : b ≠ 0) (hd : d ≠ 0) (hab : Int.gcd a b = 1) (hcd : Int.gcd c d = 1) : Low ⟨(D1.red a d).num * (D1.red c b).num, (D1.red a d).den * (D1.red c b).den⟩ := by
  obtain ⟨⟨p1, c1⟩, _⟩ := red_low (n := a) hd
  obtain ⟨⟨p2, c2⟩, _⟩ := red_low (n := c) hb
  obtain ⟨g, g0, _, _, g3, g4⟩ := red_parts (n := a) hd
  obtain ⟨k, k0, _, _, k3, k4⟩ := red_parts (n := c) hb
  have n1 : Int.gcd (D1.red a d).num (D1.red c b).den = 1 := by
    have q1 : (Int.gcd (D1.red a d).num (D1.red c b).den : Int) ∣ a := Int.dvd_trans (Int.gcd_dvd_left ..) ⟨g, g3⟩
    have q2 : (Int.gcd (D1.red a d).num (D1.red c b).den : Int) ∣ b := Int.dvd_trans (Int.gcd_dvd_right ..) ⟨k, k4⟩
    have := Int.dvd_coe_gcd q1 q2
    rw [hab] at this
    exact Nat.dvd_one.1 (Int.natCast_dvd_natCast.1 this)
  have n2 : Int.gcd (D1.red c b).num (D1.red a d).den = 1 := by
    have q1 : (Int.gcd (D1.red c b).num (D1.red a d).den : Int) ∣ c := Int.dvd_trans (Int.gcd_dvd_left ..) ⟨k, k3⟩
    have q2 : (Int.gcd (D1.red c b).num (D1.red a d).den : Int) ∣ d := Int.dvd_trans (Int.gcd_dvd_right ..) ⟨g, g4⟩
    have := Int.dvd_coe_gcd q1 q2
    rw [hcd] at this
    exact Nat.dvd_one.1 (Int.natCast_dvd_natCast.1 this)
  refine ⟨Int.mul_pos p1 p2, ?_⟩
  unfold Int.gcd at *
  simp only [Int.natAbs_mul]
  exact Nat.Coprime.mul_left (Nat.Coprime.mul_right c1 n1) (Nat.Coprime.mul_right n2 c2)
theorem Is.parts {x : Rat} {n d : Int} (h : Is x n d) (hd : d ≠ 0) : ∃ q : Int, q ≠ 0 ∧ n = x.num * q ∧ d = x.den * q := by
  have h1 : x.den ∣ d := cop_dvd h.1.cop (by rw [h.2]; exact Int.dvd_mul_left ..)
  obtain ⟨q, hq⟩ := h1
  refine ⟨q, fun e => hd (by rw [hq, e, Int.mul_zero]), ?_, hq⟩
  have h2 := h.2
  rw [hq] at h2
  have h3 : x.den * (x.num * q) = x.den * n := by grind
  exact (Int.eq_of_mul_eq_mul_left h.1.den_ne h3).symm
theorem Is.le {x : Rat} {n d : Int} (h : Is x n d) (hd : d ≠ 0) : x.num.natAbs ≤ n.natAbs ∧ x.den.natAbs ≤ d.natAbs := by
  obtain ⟨q, q0, q1, q2⟩ := h.parts hd
  have hp : 1 ≤ q.natAbs := by omega
  rw [q1, q2, Int.natAbs_mul, Int.natAbs_mul]
  exact ⟨Nat.le_mul_of_pos_right _ hp, Nat.le_mul_of_pos_right _ hp⟩
theorem Is.sm {x : Rat} {n d : Int} (h : Is x n d) (hd : d ≠ 0) (hn : Sm n) (hd' : Sm d) : Sm x.num ∧ Sm x.den := by
  have := h.le hd
  rw [sm_abs] at *
  rw [sm_abs]
  omega
theorem Is.red_eq {x : Rat} {n d : Int} (h : Is x n d) (hd : d ≠ 0) : x = D1.red n d := h.uniq hd (.red hd)
theorem sub_is {x y : Rat} (hx : Low x) (hy : Low y) (h1 : Sm (x.num * y.den)) (h2 : Sm (y.num * x.den)) (h3 : Sm (x.num * y.den - y.num * x.den)) (h4 : Sm (x.den * y.den)) : ∃ z, level_sub x y = some z ∧ Is z (x.num * y.den - y.num * x.den) (x.den * y.den) :=
  ⟨_, sub_eq hx hy h1 h2 h3 h4, .red (Int.mul_ne_zero hx.den_ne hy.den_ne)⟩
theorem mul_is {x y : Rat} (hx : Low x) (hy : Low y) (s1 : Sm x.num ∧ Sm x.den) (s2 : Sm y.num ∧ Sm y.den) {N D : Int} (hD : D ≠ 0) (hv : x.num * y.num * D = N * (x.den * y.den)) (hN : Sm N) (hD' : Sm D) : ∃ z, level_mul x y = some z ∧ Is z N D := by
  have hlow := mul_parts (a := x.num) (b := x.den) (c := y.num) (d := y.den) hx.den_ne hy.den_ne hx.cop hy.cop
  obtain ⟨_, e1⟩ := red_low (n := x.num) hy.den_ne
  obtain ⟨_, e2⟩ := red_low (n := y.num) hx.den_ne
  have hz : Is ⟨(D1.red x.num y.den).num * (D1.red y.num x.den).num, (D1.red x.num y.den).den * (D1.red y.num x.den).den⟩ N D := by
    refine ⟨hlow, ?_⟩
    simp only
    have hne : x.den * y.den ≠ 0 := Int.mul_ne_zero hx.den_ne hy.den_ne
    refine Int.eq_of_mul_eq_mul_right hne ?_
    generalize (D1.red x.num y.den).num = p at *
    generalize (D1.red x.num y.den).den = q at *
    generalize (D1.red y.num x.den).num = u at *
    generalize (D1.red y.num x.den).den = v at *
    clear hlow
    have : p * y.den * (u * x.den) = x.num * q * (y.num * v) := by rw [e1, e2]
    grind
  have ⟨z1, z2⟩ := hz.sm hD hN hD'
  refine ⟨_, ?_, hz⟩
  unfold level_mul level_mul_k1
  rw [bnd_eq (ratio_eq hy.den_ne s1.1 s2.2), bnd_eq (ratio_eq hx.den_ne s2.1 s1.2), gd_pos z1.inR, gd_pos z2.inR]
theorem div_is {x y : Rat} (hx : Low x) (hy : Low y) (hy0 : y.num ≠ 0) (s1 : Sm x.num ∧ Sm x.den) (s2 : Sm y.num ∧ Sm y.den) {N D : Int} (hD : D ≠ 0) (hv : x.num * y.den * D = N * (x.den * y.num)) (hN : Sm N) (hD' : Sm D) : ∃ z, level_div x y = some z ∧ Is z N D := by
  obtain ⟨l1, l2⟩ := red_low (n := y.den) hy0
  obtain ⟨z, h1, h2⟩ := mul_is hx l1 s1 (red_sm hy0 s2.2 s2.1) hD (by
    generalize (D1.red y.den y.num).num = p at *
    generalize hq : (D1.red y.den y.num).den = q at *
    have : (x.num * p * D - N * (x.den * q)) * y.num = 0 := by grind
    rcases Int.mul_eq_zero.1 this with h | h
    · omega
    · exact absurd h hy0) hN hD'
  refine ⟨z, ?_, h2⟩
  unfold level_div
  rw [bnd_eq (ratio_eq hy0 s2.2 s2.1), bnd_eq h1]
end Go.D1

set_option linter.unusedVariables false
set_option linter.unusedSimpArgs false
namespace Go.D1
open Go.Tb
abbrev Mt := Nat → Nat → Int
def e2 (a : Mt) (c0 c1 : Nat) : Int := a 0 c0 * a 1 c1 - a 0 c1 * a 1 c0
def e3 (a : Mt) (c0 c1 c2 : Nat) : Int := a 0 c0 * (a 1 c1 * a 2 c2 - a 1 c2 * a 2 c1) - a 0 c1 * (a 1 c0 * a 2 c2 - a 1 c2 * a 2 c0) + a 0 c2 * (a 1 c0 * a 2 c1 - a 1 c1 * a 2 c0)
def f3 (a : Mt) (c0 c1 c2 : Nat) : Int := a 1 c0 * (a 2 c1 * a 3 c2 - a 2 c2 * a 3 c1) - a 1 c1 * (a 2 c0 * a 3 c2 - a 2 c2 * a 3 c0) + a 1 c2 * (a 2 c0 * a 3 c1 - a 2 c1 * a 3 c0)
def e4 (a : Mt) (c0 c1 c2 c3 : Nat) : Int := a 0 c0 * f3 a c1 c2 c3 - a 0 c1 * f3 a c0 c2 c3 + a 0 c2 * f3 a c0 c1 c3 - a 0 c3 * f3 a c0 c1 c2
/-- The determinant of the first i rows and columns. -/
def Dm (a : Mt) : Nat → Int
  | 0 => 1
  | 1 => a 0 0
  | 2 => e2 a 0 1
  | 3 => e3 a 0 1 2
  | 4 => e4 a 0 1 2 3
  | _ => 0
/-- The same with column c in place of column k. -/
def Nm (a : Mt) : Nat → Nat → Nat → Int
  | 1, 0, c => a 0 c
  | 2, 0, c => e2 a c 1
  | 2, 1, c => e2 a 0 c
  | 3, 0, c => e3 a c 1 2
  | 3, 1, c => e3 a 0 c 2
  | 3, 2, c => e3 a 0 1 c
  | 4, 0, c => e4 a c 1 2 3
  | 4, 1, c => e4 a 0 c 2 3
  | 4, 2, c => e4 a 0 1 c 3
  | 4, 3, c => e4 a 0 1 2 c
  | _, _, _ => 0
def sumN (f : Nat → Int) : Nat → Int
  | 0 => 0
  | k + 1 => sumN f k + f k
/-- What is left of row j at column c, times the determinant. -/
def mn (a : Mt) (i j c : Nat) : Int := Dm a i * a j c - sumN (fun k => a j k * Nm a i k c) i
theorem mn_zero (a : Mt) (j c : Nat) : mn a 0 j c = a j c := by simp [mn, Dm, sumN]
theorem Dm_succ (a : Mt) {i : Nat} (h : i < 4) : Dm a (i + 1) = mn a i i i := by
  match i, h with
  | 0, _ => simp [mn, Dm, sumN]
  | 1, _ => simp only [mn, Dm, sumN, Nm, e2]; grind
  | 2, _ => simp only [mn, Dm, sumN, Nm, e2, e3]; grind
  | 3, _ => simp only [mn, Dm, sumN, Nm, e3, e4, f3]; grind
theorem Nm_last (a : Mt) {i : Nat} (h : i < 4) (c : Nat) : Nm a (i + 1) i c = mn a i i c := by
  match i, h with
  | 0, _ => simp [mn, Dm, sumN, Nm]
  | 1, _ => simp only [mn, Dm, sumN, Nm, e2]; grind
  | 2, _ => simp only [mn, Dm, sumN, Nm, e2, e3]; grind
  | 3, _ => simp only [mn, Dm, sumN, Nm, e3, e4, f3]; grind
/-- Cramer's rule. -/
theorem cramer (a : Mt) {i j : Nat} (h : i ≤ 4) (hj : j < i) (c : Nat) : mn a i j c = 0 := by
  match i, j, h, hj with
  | 1, 0, _, _ => simp only [mn, Dm, sumN, Nm]; grind
  | 2, 0, _, _ => simp only [mn, Dm, sumN, Nm, e2]; grind
  | 2, 1, _, _ => simp only [mn, Dm, sumN, Nm, e2]; grind
  | 3, 0, _, _ => simp only [mn, Dm, sumN, Nm, e3]; grind
  | 3, 1, _, _ => simp only [mn, Dm, sumN, Nm, e3]; grind
  | 3, 2, _, _ => simp only [mn, Dm, sumN, Nm, e3]; grind
  | 4, 0, _, _ => simp only [mn, Dm, sumN, Nm, e4, f3]; grind
  | 4, 1, _, _ => simp only [mn, Dm, sumN, Nm, e4, f3]; grind
  | 4, 2, _, _ => simp only [mn, Dm, sumN, Nm, e4, f3]; grind
  | 4, 3, _, _ => simp only [mn, Dm, sumN, Nm, e4, f3]; grind
theorem Nm_succ (a : Mt) {i j : Nat} (h : i < 4) (hj : j < i) (c : Nat) : Nm a (i + 1) j c * Dm a i = Nm a i j c * Dm a (i + 1) - Nm a i j i * mn a i i c := by
  match i, j, h, hj with
  | 1, 0, _, _ => simp only [mn, Dm, sumN, Nm, e2]; grind
  | 2, 0, _, _ => simp only [mn, Dm, sumN, Nm, e2, e3]; grind
  | 2, 1, _, _ => simp only [mn, Dm, sumN, Nm, e2, e3]; grind
  | 3, 0, _, _ => rw [← Nm_last a (by omega)]; simp only [Dm, Nm, e3, e4, f3]; grind
  | 3, 1, _, _ => rw [← Nm_last a (by omega)]; simp only [Dm, Nm, e3, e4, f3]; grind
  | 3, 2, _, _ => rw [← Nm_last a (by omega)]; simp only [Dm, Nm, e3, e4, f3]; grind
theorem sumN_congr {f g : Nat → Int} {n : Nat} (h : ∀ k, k < n → f k = g k) : sumN f n = sumN g n := by
  induction n with
  | zero => rfl
  | succ n ih => simp only [sumN]; rw [ih fun k hk => h k (by omega), h n (by omega)]
theorem sumN_mul (f : Nat → Int) (c : Int) (n : Nat) : sumN f n * c = sumN (fun k => f k * c) n := by
  induction n with
  | zero => simp [sumN]
  | succ n ih => simp only [sumN]; rw [Int.add_mul, ih]
theorem sumN_sub (f g : Nat → Int) (n : Nat) : sumN (fun k => f k - g k) n = sumN f n - sumN g n := by
  induction n with
  | zero => simp [sumN]
  | succ n ih => simp only [sumN]; rw [ih]; omega
theorem sumN_add (f g : Nat → Int) (n : Nat) : sumN (fun k => f k + g k) n = sumN f n + sumN g n := by
  induction n with
  | zero => simp [sumN]
  | succ n ih => simp only [sumN]; rw [ih]; omega
/-- One step of elimination. -/
theorem bareiss (a : Mt) {i : Nat} (h : i < 4) (j c : Nat) : mn a (i + 1) j c * Dm a i = Dm a (i + 1) * mn a i j c - mn a i j i * mn a i i c := by
  have hl := Nm_last a h c
  have hs : sumN (fun k => a j k * Nm a (i + 1) k c) i * Dm a i = sumN (fun k => a j k * Nm a i k c) i * Dm a (i + 1) - sumN (fun k => a j k * Nm a i k i) i * mn a i i c := by
    rw [sumN_mul, sumN_mul, sumN_mul, ← sumN_sub]
    refine sumN_congr fun k hk => ?_
    have := Nm_succ a h hk c
    grind
  have e1 : mn a (i + 1) j c = Dm a (i + 1) * a j c - (sumN (fun k => a j k * Nm a (i + 1) k c) i + a j i * Nm a (i + 1) i c) := rfl
  have e2 : mn a i j c = Dm a i * a j c - sumN (fun k => a j k * Nm a i k c) i := rfl
  have e3 : mn a i j i = Dm a i * a j i - sumN (fun k => a j k * Nm a i k i) i := rfl
  rw [e1, e2, e3, hl]
  generalize sumN (fun k => a j k * Nm a (i + 1) k c) i = S at *
  generalize sumN (fun k => a j k * Nm a i k c) i = S1 at *
  generalize sumN (fun k => a j k * Nm a i k i) i = S2 at *
  generalize mn a i i c = M at *
  generalize Dm a (i + 1) = D1 at *
  generalize Dm a i = D0 at *
  grind
def Ev (a : Mt) (i j c : Nat) : Int := if j < i then (if j + 1 = i then Nm a i j c else Dm a (j + 1) * Nm a i j c) else mn a i j c
def Fv (a : Mt) (i j : Nat) : Int := if j < i then (if j + 1 = i then Dm a j else Dm a j * Dm a i) else Dm a i
theorem Ev_self (a : Mt) (i c : Nat) : Ev a i i c = mn a i i c := by simp [Ev]
theorem Fv_self (a : Mt) (i : Nat) : Fv a i i = Dm a i := by simp [Fv]
theorem Ev_next (a : Mt) {i : Nat} (h : i < 4) (c : Nat) : Ev a (i + 1) i c = mn a i i c := by simp [Ev, Nm_last a h]
theorem Fv_next (a : Mt) (i : Nat) : Fv a (i + 1) i = Dm a i := by simp [Fv]
theorem EF (a : Mt) {i j : Nat} (h : i < 4) (hj : j ≠ i) (c : Nat) : Ev a (i + 1) j c * (Fv a i j * Dm a (i + 1)) = (Ev a i j c * Dm a (i + 1) - Ev a i j i * mn a i i c) * Fv a (i + 1) j := by
  by_cases h1 : j < i
  · have hn := Nm_succ a h h1 c
    by_cases h2 : j + 1 = i
    · subst h2
      simp only [Ev, Fv, show j < j + 1 + 1 by omega, show j < j + 1 by omega, show ¬ (j + 1 = j + 1 + 1) by omega, if_true, if_false]
      grind
    · simp only [Ev, Fv, show j < i + 1 by omega, h1, h2, show ¬ (j + 1 = i + 1) by omega, if_true, if_false]
      generalize Nm a (i + 1) j c = x at *
      generalize Nm a i j c = y at *
      generalize Nm a i j i = z at *
      generalize mn a i i c = w at *
      generalize Dm a (i + 1) = D' at *
      generalize Dm a (j + 1) = Dj' at *
      generalize Dm a i = Di at *
      generalize Dm a j = Dj at *
      have e : Dj' * x * (Dj * Di * D') = (x * Di) * (Dj' * Dj * D') := by grind
      rw [e, hn]
      grind
  · have hb := bareiss a h j c
    simp only [Ev, Fv, show ¬ j < i by omega, show ¬ j < i + 1 by omega, if_false]
    rw [← Int.mul_assoc, hb]
    grind
end Go.D1

set_option linter.unusedVariables false
set_option linter.unusedSimpArgs false
namespace Go.D1
open Go.Tb
/-- A table whose elimination is small. -/
structure Sol (n : Nat) (a : Mt) (d : Nat → Nat) : Prop where
  n4 : n ≤ 4
  pos : ∀ i, i ≤ n → 0 < Dm a i
  le : ∀ i, i < n → (Dm a (i + 1)).natAbs ≤ d i * (Dm a i).natAbs
  d1 : ∀ i, i < n → 1 ≤ d i ∧ d i ≤ 24
  sum : n = 4 → d 0 + d 1 + d 2 + d 3 ≤ 48
  N1 : ∀ i k c, k < i → i ≤ c → c < n → (Nm a i k c).natAbs ≤ (Dm a i).natAbs
  Nb : ∀ i k, k < i → i ≤ n → (Nm a i k n).natAbs ≤ 4000 * (Dm a i).natAbs
  M1 : ∀ i j c, i ≤ j → i ≤ c → j < n → c < n → (mn a i j c).natAbs ≤ d j * (Dm a i).natAbs
  Mb : ∀ i j, i ≤ j → j < n → (mn a i j n).natAbs ≤ 4000 * d j * (Dm a i).natAbs
/-- The guards of one step. -/
structure Gd (P Pi Mi Q D' Di : Int) : Prop where
  s : (P.natAbs * (Q.natAbs * D'.natAbs)) + (Pi.natAbs * Mi.natAbs) * Q.natAbs ≤ 9223372036854775807
  q : Q.natAbs * (Q.natAbs * D'.natAbs) ≤ 9223372036854775807
  f : Pi.natAbs * Di.natAbs ≤ 9223372036854775807
theorem na_mul {a b : Int} {A B : Nat} (ha : a.natAbs ≤ A) (hb : b.natAbs ≤ B) : (a * b).natAbs ≤ A * B := by rw [Int.natAbs_mul]; exact Nat.mul_le_mul ha hb
theorem big4 {d0 d1 d2 d3 : Nat} (h0 : 1 ≤ d0 ∧ d0 ≤ 24) (h1 : 1 ≤ d1 ∧ d1 ≤ 24) (h2 : 1 ≤ d2 ∧ d2 ≤ 24) (h : d0 + d1 + d2 + d3 ≤ 48) : d0 ^ 5 * d1 ^ 4 * d2 ^ 3 * d3 ≤ 600000000000000 := by
  have key : ∀ x, x < 25 → ∀ y, y < 25 → ∀ z, z < 25 → x ^ 5 * y ^ 4 * z ^ 3 * (48 - x - y - z) ≤ 600000000000000 := by decide +kernel
  exact Nat.le_trans (Nat.mul_le_mul_left _ (show d3 ≤ 48 - d0 - d1 - d2 by omega)) (key d0 (by omega) d1 (by omega) d2 (by omega))
theorem prod4 {d0 d1 d2 d3 : Nat} (h0 : 1 ≤ d0 ∧ d0 ≤ 24) (h1 : 1 ≤ d1 ∧ d1 ≤ 24) (h2 : 1 ≤ d2 ∧ d2 ≤ 24) (h : d0 + d1 + d2 + d3 ≤ 48) : d0 * d1 * d2 * d3 ≤ 20736 := by
  have key : ∀ x, x < 25 → ∀ y, y < 25 → ∀ z, z < 25 → x * y * z * (48 - x - y - z) ≤ 20736 := by decide +kernel
  exact Nat.le_trans (Nat.mul_le_mul_left _ (show d3 ≤ 48 - d0 - d1 - d2 by omega)) (key d0 (by omega) d1 (by omega) d2 (by omega))
variable {n : Nat} {a : Mt} {d : Nat → Nat}
theorem Sol.Dp (h : Sol n a d) : (Dm a 0).natAbs = 1 ∧ (1 ≤ n → (Dm a 1).natAbs ≤ d 0) ∧ (2 ≤ n → (Dm a 2).natAbs ≤ d 0 * d 1) ∧ (3 ≤ n → (Dm a 3).natAbs ≤ d 0 * d 1 * d 2) ∧ (4 ≤ n → (Dm a 4).natAbs ≤ d 0 * d 1 * d 2 * d 3) := by
  have z : (Dm a 0).natAbs = 1 := rfl
  have s1 : 1 ≤ n → (Dm a 1).natAbs ≤ d 0 := fun hn => by have := h.le 0 (by omega); rw [z, Nat.mul_one] at this; exact this
  have s2 : 2 ≤ n → (Dm a 2).natAbs ≤ d 0 * d 1 := fun hn => by
    rw [Nat.mul_comm]; exact Nat.le_trans (h.le 1 (by omega)) (Nat.mul_le_mul_left _ (s1 (by omega)))
  have s3 : 3 ≤ n → (Dm a 3).natAbs ≤ d 0 * d 1 * d 2 := fun hn => by
    rw [Nat.mul_comm]; exact Nat.le_trans (h.le 2 (by omega)) (Nat.mul_le_mul_left _ (s2 (by omega)))
  have s4 : 4 ≤ n → (Dm a 4).natAbs ≤ d 0 * d 1 * d 2 * d 3 := fun hn => by
    rw [Nat.mul_comm]; exact Nat.le_trans (h.le 3 (by omega)) (Nat.mul_le_mul_left _ (s3 (by omega)))
  exact ⟨z, s1, s2, s3, s4⟩
theorem Sol.Dc (h : Sol n a d) {i : Nat} (hi : i ≤ n) : (Dm a i).natAbs ≤ 24 ^ i := by
  induction i with
  | zero => exact Nat.le_refl 1
  | succ i ih =>
    rw [Nat.pow_succ, Nat.mul_comm]
    exact Nat.le_trans (h.le i (by omega)) (Nat.mul_le_mul (h.d1 i (by omega)).2 (ih (by omega)))
theorem Sol.D20736 (h : Sol n a d) : (Dm a n).natAbs ≤ 20736 := by
  have hn := h.n4
  by_cases h4 : n = 4
  · subst h4
    exact Nat.le_trans (h.Dp.2.2.2.2 (by omega)) (prod4 (h.d1 0 (by omega)) (h.d1 1 (by omega)) (h.d1 2 (by omega)) (h.sum rfl))
  · refine Nat.le_trans (h.Dc (Nat.le_refl _)) ?_
    have : ∀ m, m < 4 → 24 ^ m ≤ 20736 := by decide
    exact this n (by omega)
/-- Any column but the one at hand. -/
theorem Sol.N4 (h : Sol n a d) {i k c : Nat} (hk : k < i) (hi : i ≤ c) (hc : c ≤ n) : (Nm a i k c).natAbs ≤ 4000 * (Dm a i).natAbs := by
  by_cases hc2 : c = n
  · subst hc2; exact h.Nb i k hk hi
  · have := h.N1 i k c hk hi (by omega)
    omega
theorem Sol.M4 (h : Sol n a d) {i j c : Nat} (hj : i ≤ j) (hjn : j < n) (hi : i ≤ c) (hc : c ≤ n) : (mn a i j c).natAbs ≤ 4000 * d j * (Dm a i).natAbs := by
  by_cases hc2 : c = n
  · subst hc2; exact h.Mb i j hj hjn
  · have := h.M1 i j c hj hi hjn (by omega)
    have e : 4000 * d j * (Dm a i).natAbs = 4000 * (d j * (Dm a i).natAbs) := Nat.mul_assoc ..
    omega
theorem gd_of {P Pi Mi Q D' Di : Int} {p pi mi q d' di : Nat} (hP : P.natAbs ≤ p) (hPi : Pi.natAbs ≤ pi) (hMi : Mi.natAbs ≤ mi) (hQ : Q.natAbs ≤ q) (hD' : D'.natAbs ≤ d') (hDi : Di.natAbs ≤ di)
    (h1 : p * (q * d') + (pi * mi) * q ≤ 9223372036854775807) (h2 : q * (q * d') ≤ 9223372036854775807) (h3 : pi * di ≤ 9223372036854775807) : Gd P Pi Mi Q D' Di :=
  ⟨Nat.le_trans (Nat.add_le_add (Nat.mul_le_mul hP (Nat.mul_le_mul hQ hD')) (Nat.mul_le_mul (Nat.mul_le_mul hPi hMi) hQ)) h1,
   Nat.le_trans (Nat.mul_le_mul hQ (Nat.mul_le_mul hQ hD')) h2, Nat.le_trans (Nat.mul_le_mul hPi hDi) h3⟩
theorem Sol.gd (h : Sol n a d) {i j c : Nat} (hi : i < n) (hj : j < n) (hji : j ≠ i) (hc : i ≤ c ∧ c ≤ n) : Gd (Ev a i j c) (Ev a i j i) (mn a i i c) (Fv a i j) (Dm a (i + 1)) (Dm a i) := by
  have hn := h.n4
  have hdi := h.d1 i hi
  have hdj := h.d1 j hj
  have cD := h.Dc (i := i) (by omega)
  have cD' := h.Dc (i := i + 1) (by omega)
  have cDj := h.Dc (i := j) (by omega)
  have hmi : (mn a i i c).natAbs ≤ 4000 * 24 * 24 ^ i := Nat.le_trans (h.M4 (Nat.le_refl _) hi hc.1 hc.2) (Nat.mul_le_mul (Nat.mul_le_mul_left _ hdi.2) cD)
  by_cases h1 : j < i
  · by_cases h2 : j + 1 = i
    · subst h2
      have eE : ∀ c, Ev a (j + 1) j c = mn a j j c := fun c => by simp [Ev, Nm_last a (show j < 4 by omega)]
      have eF : Fv a (j + 1) j = Dm a j := by simp [Fv]
      rw [eE, eE, eF]
      refine gd_of (Nat.le_trans (h.M4 (Nat.le_refl _) hj (by omega) hc.2) (Nat.mul_le_mul (Nat.mul_le_mul_left _ hdj.2) cDj)) (Nat.le_trans (h.M1 j j (j + 1) (by omega) (by omega) hj hi) (Nat.mul_le_mul hdj.2 cDj)) hmi cDj cD' cD ?_ ?_ ?_
      · have : ∀ j, j < 3 → 4000 * 24 * 24 ^ j * (24 ^ j * 24 ^ (j + 1 + 1)) + 24 * 24 ^ j * (4000 * 24 * 24 ^ (j + 1)) * 24 ^ j ≤ 9223372036854775807 := by decide
        exact this j (by omega)
      · have : ∀ j, j < 3 → 24 ^ j * (24 ^ j * 24 ^ (j + 1 + 1)) ≤ 9223372036854775807 := by decide
        exact this j (by omega)
      · have : ∀ j, j < 3 → 24 * 24 ^ j * 24 ^ (j + 1) ≤ 9223372036854775807 := by decide
        exact this j (by omega)
    · have eE : ∀ c, Ev a i j c = Dm a (j + 1) * Nm a i j c := fun c => by simp [Ev, h1, h2]
      have eF : Fv a i j = Dm a j * Dm a i := by simp [Fv, h1, h2]
      rw [eE, eE, eF]
      have cDs := h.Dc (i := j + 1) (by omega)
      have bN := h.N4 h1 hc.1 hc.2
      have bN1 := h.N1 i j i h1 (Nat.le_refl _) hi
      by_cases h3 : i = 3
      · subst h3
        have hn4 : n = 4 := by omega
        subst hn4
        obtain ⟨z0, z1, z2, z3, z4⟩ := h.Dp
        replace z1 := z1 (by omega); replace z2 := z2 (by omega); replace z3 := z3 (by omega); replace z4 := z4 (by omega)
        have g0 := h.d1 0 (by omega)
        have g1 := h.d1 1 (by omega)
        have g2 := h.d1 2 (by omega)
        have g3 := h.d1 3 (by omega)
        have hb := big4 g0 g1 g2 (h.sum rfl)
        have hM : (mn a 3 3 c).natAbs ≤ 4000 * d 3 * (d 0 * d 1 * d 2) := Nat.le_trans (h.M4 (Nat.le_refl _) (by omega) hc.1 hc.2) (Nat.mul_le_mul_left _ z3)
        have u1 : 1 ≤ d 0 * d 1 * d 2 * d 3 := Nat.mul_pos (Nat.mul_pos (Nat.mul_pos g0.1 g1.1) g2.1) g3.1
        have hX : d 0 ^ 4 * d 1 ^ 3 * d 2 ^ 3 * d 3 ≤ d 0 ^ 5 * d 1 ^ 4 * d 2 ^ 3 * d 3 := by
          refine Nat.mul_le_mul_right _ (Nat.mul_le_mul_right _ (Nat.mul_le_mul ?_ ?_))
          · exact Nat.pow_le_pow_right g0.1 (by omega)
          · exact Nat.pow_le_pow_right g1.1 (by omega)
        match j, h1, h2 with
        | 0, _, _ =>
          have eq0 : (Dm a 0 * Dm a 3).natAbs ≤ d 0 * d 1 * d 2 := by rw [Int.natAbs_mul, z0, Nat.one_mul]; exact z3
          refine gd_of (na_mul z1 (Nat.le_trans bN (Nat.mul_le_mul_left _ z3))) (na_mul z1 (Nat.le_trans bN1 z3)) hM eq0 z4 z3 ?_ ?_ ?_
          · have : d 0 * (4000 * (d 0 * d 1 * d 2)) * (d 0 * d 1 * d 2 * (d 0 * d 1 * d 2 * d 3)) + d 0 * (d 0 * d 1 * d 2) * (4000 * d 3 * (d 0 * d 1 * d 2)) * (d 0 * d 1 * d 2) = 8000 * (d 0 ^ 4 * d 1 ^ 3 * d 2 ^ 3 * d 3) := by grind
            omega
          · have e : d 0 * d 1 * d 2 * (d 0 * d 1 * d 2 * (d 0 * d 1 * d 2 * d 3)) = d 0 ^ 3 * d 1 ^ 3 * d 2 ^ 3 * d 3 := by grind
            have : d 0 ^ 3 * d 1 ^ 3 * d 2 ^ 3 * d 3 ≤ d 0 ^ 4 * d 1 ^ 3 * d 2 ^ 3 * d 3 := Nat.mul_le_mul_right _ (Nat.mul_le_mul_right _ (Nat.mul_le_mul_right _ (Nat.pow_le_pow_right g0.1 (by omega))))
            omega
          · refine Nat.le_trans (Nat.mul_le_mul (Nat.mul_le_mul g0.2 (Nat.mul_le_mul (Nat.mul_le_mul g0.2 g1.2) g2.2)) (Nat.mul_le_mul (Nat.mul_le_mul g0.2 g1.2) g2.2)) (by decide)
        | 1, _, _ =>
          refine gd_of (na_mul z2 (Nat.le_trans bN (Nat.mul_le_mul_left _ z3))) (na_mul z2 (Nat.le_trans bN1 z3)) hM (na_mul z1 z3) z4 z3 ?_ ?_ ?_
          · have : d 0 * d 1 * (4000 * (d 0 * d 1 * d 2)) * (d 0 * (d 0 * d 1 * d 2) * (d 0 * d 1 * d 2 * d 3)) + d 0 * d 1 * (d 0 * d 1 * d 2) * (4000 * d 3 * (d 0 * d 1 * d 2)) * (d 0 * (d 0 * d 1 * d 2)) = 8000 * (d 0 ^ 5 * d 1 ^ 4 * d 2 ^ 3 * d 3) := by grind
            omega
          · have e : d 0 * (d 0 * d 1 * d 2) * (d 0 * (d 0 * d 1 * d 2) * (d 0 * d 1 * d 2 * d 3)) = d 0 ^ 5 * d 1 ^ 3 * d 2 ^ 3 * d 3 := by grind
            have : d 0 ^ 5 * d 1 ^ 3 * d 2 ^ 3 * d 3 ≤ d 0 ^ 5 * d 1 ^ 4 * d 2 ^ 3 * d 3 := Nat.mul_le_mul_right _ (Nat.mul_le_mul_right _ (Nat.mul_le_mul_left _ (Nat.pow_le_pow_right g1.1 (by omega))))
            omega
          · refine Nat.le_trans (Nat.mul_le_mul (Nat.mul_le_mul (Nat.mul_le_mul g0.2 g1.2) (Nat.mul_le_mul (Nat.mul_le_mul g0.2 g1.2) g2.2)) (Nat.mul_le_mul (Nat.mul_le_mul g0.2 g1.2) g2.2)) (by decide)
        | j + 2, q1, q2 => exact absurd (show j + 2 + 1 = 3 by omega) q2
      · have hj0 : j = 0 := by omega
        have hi2 : i = 2 := by omega
        subst hj0 hi2
        refine gd_of (na_mul cDs (Nat.le_trans bN (Nat.mul_le_mul_left _ cD))) (na_mul cDs (Nat.le_trans bN1 cD)) hmi (na_mul cDj cD) cD' cD (by decide) (by decide) (by decide)
  · have eE : ∀ c, Ev a i j c = mn a i j c := fun c => by simp [Ev, h1]
    have eF : Fv a i j = Dm a i := by simp [Fv, h1]
    rw [eE, eE, eF]
    refine gd_of (Nat.le_trans (h.M4 (by omega) hj hc.1 hc.2) (Nat.mul_le_mul (Nat.mul_le_mul_left _ hdj.2) cD)) (Nat.le_trans (h.M1 i j i (by omega) (by omega) hj hi) (Nat.mul_le_mul hdj.2 cD)) hmi cD cD' cD ?_ ?_ ?_
    · have : ∀ i, i < 3 → 4000 * 24 * 24 ^ i * (24 ^ i * 24 ^ (i + 1)) + 24 * 24 ^ i * (4000 * 24 * 24 ^ i) * 24 ^ i ≤ 9223372036854775807 := by decide
      exact this i (by omega)
    · have : ∀ i, i < 3 → 24 ^ i * (24 ^ i * 24 ^ (i + 1)) ≤ 9223372036854775807 := by decide
      exact this i (by omega)
    · have : ∀ i, i < 3 → 24 * 24 ^ i * 24 ^ i ≤ 9223372036854775807 := by decide
      exact this i (by omega)
theorem Sol.Fne (h : Sol n a d) {i j : Nat} (hi : i ≤ n) (hj : j < n) : Fv a i j ≠ 0 := by
  have p1 := h.pos i hi
  have p2 := h.pos j (by omega)
  unfold Fv
  split
  · split
    · omega
    · exact Int.mul_ne_zero (by omega) (by omega)
  · omega
end Go.D1

set_option linter.unusedVariables false
set_option linter.unusedSimpArgs false
namespace Go.D1
open Go.Tb
theorem Is.of_eq {x : Rat} {n d n' d' : Int} (h : Is x n d) (hd : d ≠ 0) (e : n * d' = n' * d) : Is x n' d' := by
  refine ⟨h.1, ?_⟩
  have h2 := h.2
  refine Int.eq_of_mul_eq_mul_right hd ?_
  generalize x.num = p at *
  generalize x.den = q at *
  have e1 : p * d' * d = p * d * d' := by grind
  have e2 : n' * q * d = n' * d * q := by grind
  rw [e1, e2, h2, ← e]
  grind
theorem Is.mul_left {x : Rat} {n d k : Int} (h : Is x n d) (hd : d ≠ 0) : Is x (k * n) (k * d) := h.of_eq hd (by grind)
theorem Is.num0 {x : Rat} {n d : Int} (h : Is x n d) (hd : d ≠ 0) : x.num = 0 ↔ n = 0 := by
  have h2 := h.2
  have hq := h.1.den_ne
  constructor
  · intro e
    rw [e, Int.zero_mul] at h2
    rcases Int.mul_eq_zero.1 h2.symm with h | h
    · exact h
    · exact absurd h hq
  · intro e
    rw [e, Int.zero_mul] at h2
    rcases Int.mul_eq_zero.1 h2 with h | h
    · exact h
    · exact absurd h hd
theorem sm_of {x : Int} {B : Nat} (h : x.natAbs ≤ B) (hB : B ≤ 9223372036854775807) : Sm x := sm_abs.2 (Nat.le_trans h hB)
/-- A loop whose states are known by a property alone. -/
theorem ex_loop {S R : Type} (N : Nat) (Inv : Nat → S → Prop) (L : Nat → S → Int → Option R) (post : S → Option R)
    (step : ∀ n i s, i < N → Inv i s → ∃ s', Inv (i + 1) s' ∧ L (n + 1) s (i : Int) = L n s' ((i + 1 : Nat) : Int))
    (stop : ∀ n s, Inv N s → L (n + 1) s (N : Int) = post s) (hN : N ≤ 9223372036854775807) {i0 : Nat} (hi : i0 ≤ N) {s0 : S} (h0 : Inv i0 s0) : ∃ s', Inv N s' ∧ L FU s0 (i0 : Int) = post s' := by
  have key : ∀ (d i k : Nat) (s : S), N = i + d → d < k → Inv i s → ∃ s', Inv N s' ∧ L k s (i : Int) = post s' := by
    intro d
    induction d with
    | zero =>
      intro i k s hd hk hs
      cases k with
      | zero => omega
      | succ k =>
        have : i = N := by omega
        subst this
        exact ⟨s, hs, stop k s hs⟩
    | succ d ih =>
      intro i k s hd hk hs
      cases k with
      | zero => omega
      | succ k =>
        obtain ⟨s1, h1, h2⟩ := step k i s (by omega) hs
        obtain ⟨s', h3, h4⟩ := ih (i + 1) k s1 (by omega) (by omega) h1
        exact ⟨s', h3, h2.trans h4⟩
  exact key (N - i0) i0 FU s0 (by omega) (by have := FU_pos; omega) h0
variable {n : Nat} {a : Mt} {d : Nat → Nat}
/-- One place of one step. -/
theorem place_is (h : Sol n a d) {i j c : Nat} (hi : i < n) (hj : j < n) (hji : j ≠ i) (hc : i ≤ c ∧ c ≤ n) (hPi : Ev a i j i ≠ 0) {p f y : Rat} (hp : Is p (Ev a i j c) (Fv a i j)) (hf : Is f (Ev a i j i * Dm a i) (Fv a i j * Dm a (i + 1))) (hy : Is y (mn a i i c) (Dm a i)) :
    ∃ q z, level_mul f y = some q ∧ level_sub p q = some z ∧ Is z (Ev a (i + 1) j c) (Fv a (i + 1) j) := by
  have hn := h.n4
  have g := h.gd hi hj hji hc
  have hF := h.Fne (i := i) (by omega) hj
  have hF1 := h.Fne (i := i + 1) (by omega) hj
  have hDi : Dm a i ≠ 0 := by have := h.pos i (by omega); omega
  have hD' : Dm a (i + 1) ≠ 0 := by have := h.pos (i + 1) (by omega); omega
  have hef := EF a (show i < 4 by omega) hji c
  have g1 := g.s
  have g2 := g.q
  have g3 := g.f
  have hFD : Fv a i j * Dm a (i + 1) ≠ 0 := Int.mul_ne_zero hF hD'
  generalize Ev a i j c = P at *
  generalize Ev a i j i = Pi at *
  generalize mn a i i c = Mi at *
  generalize Fv a i j = Q at *
  generalize Dm a (i + 1) = D' at *
  generalize Dm a i = Di at *
  generalize Ev a (i + 1) j c = P1 at *
  generalize Fv a (i + 1) j = Q1 at *
  have fa : 1 ≤ Q.natAbs := by omega
  have da : 1 ≤ D'.natAbs := by omega
  have dia : 1 ≤ Di.natAbs := by omega
  have c1 : Pi.natAbs * Mi.natAbs ≤ (Pi.natAbs * Mi.natAbs) * Q.natAbs := Nat.le_mul_of_pos_right _ fa
  have c2 : Q.natAbs * D'.natAbs ≤ Q.natAbs * (Q.natAbs * D'.natAbs) := Nat.le_mul_of_pos_left _ fa
  have sFD : Sm (Q * D') := sm_of (B := Q.natAbs * D'.natAbs) (by rw [Int.natAbs_mul]; exact Nat.le_refl _) (by omega)
  have sPD : Sm (Pi * Di) := sm_of (B := Pi.natAbs * Di.natAbs) (by rw [Int.natAbs_mul]; exact Nat.le_refl _) (by omega)
  have sPM : Sm (Pi * Mi) := sm_of (B := Pi.natAbs * Mi.natAbs) (by rw [Int.natAbs_mul]; exact Nat.le_refl _) (by omega)
  have sy : Sm y.num ∧ Sm y.den := by
    have := hy.le hDi
    have e1 : Mi.natAbs ≤ Pi.natAbs * Mi.natAbs := Nat.le_mul_of_pos_left _ (by omega)
    have e2 : Di.natAbs ≤ Pi.natAbs * Di.natAbs := Nat.le_mul_of_pos_left _ (by omega)
    exact ⟨sm_of this.1 (by omega), sm_of this.2 (by omega)⟩
  obtain ⟨q, hq1, hq2⟩ := mul_is hf.1 hy.1 (hf.sm hFD sPD sFD) sy hFD (N := Pi * Mi) (by
    have e1 := hf.2
    have e2 := hy.2
    generalize f.num = u at *
    generalize f.den = v at *
    generalize y.num = s at *
    generalize y.den = t at *
    have : u * s * (Q * D') * Di = Pi * Mi * (v * t) * Di := by
      have e3 : u * s * (Q * D') * Di = (u * (Q * D')) * (s * Di) := by grind
      rw [e3, e1, e2]; grind
    exact Int.eq_of_mul_eq_mul_right hDi this) sPM sFD
  have lp := hp.le hF
  have lq := hq2.le hFD
  rw [Int.natAbs_mul, Int.natAbs_mul] at lq
  have b1 : (p.num * q.den).natAbs ≤ P.natAbs * (Q.natAbs * D'.natAbs) := na_mul lp.1 lq.2
  have b2 : (q.num * p.den).natAbs ≤ (Pi.natAbs * Mi.natAbs) * Q.natAbs := na_mul lq.1 lp.2
  have b3 : (p.den * q.den).natAbs ≤ Q.natAbs * (Q.natAbs * D'.natAbs) := na_mul lp.2 lq.2
  obtain ⟨z, hz1, hz2⟩ := sub_is hp.1 hq2.1 (sm_of b1 (by omega)) (sm_of b2 (by omega)) (sm_abs.2 (by omega)) (sm_of b3 g2)
  refine ⟨q, z, hq1, hz1, hz2.of_eq (Int.mul_ne_zero hp.1.den_ne hq2.1.den_ne) ?_⟩
  have e1 := hp.2
  have e2 := hq2.2
  clear g g1 g2 g3 c1 c2 sFD sPD sPM sy lp lq b1 b2 b3 hz1 hz2 hq1 hq2 hf hy hp
  generalize p.num = u at *
  generalize p.den = v at *
  generalize q.num = s at *
  generalize q.den = t at *
  refine Int.eq_of_mul_eq_mul_right hFD ?_
  have e3 : (u * t - s * v) * Q1 * (Q * D') = (u * Q) * (t * D' * Q1) - (s * (Q * D')) * (v * Q1) := by grind
  have e4 : P1 * (v * t) * (Q * D') = (P1 * (Q * D')) * (v * t) := by grind
  rw [e3, e4, e1, e2, hef]
  grind
end Go.D1

set_option linter.unusedVariables false
set_option linter.unusedSimpArgs false
namespace Go.D1
open Go.Tb
def rg (m : List (List Rat)) (j : Nat) : List Rat := m.getD j []
def rt (row : List Rat) (c : Nat) : Rat := row.getD c ⟨0, 1⟩
theorem rg_at {m : List (List Rat)} {j : Nat} (h : j < m.length) : m[j]? = some (rg m j) := by simp [rg, List.getD, h]
theorem rt_at {m : List Rat} {j : Nat} (h : j < m.length) : m[j]? = some (rt m j) := by simp [rt, List.getD, h]
theorem rg_set {l : List (List Rat)} {i j : Nat} {x : List Rat} : rg (l.set i x) j = if i = j ∧ j < l.length then x else rg l j := by
  unfold rg
  simp only [List.getD_eq_getElem?_getD, List.getElem?_set]
  by_cases h : i = j
  · subst h
    by_cases h2 : i < l.length
    · simp [h2]
    · simp [h2]
  · simp [h]
theorem rt_set {l : List Rat} {i j : Nat} {x : Rat} : rt (l.set i x) j = if i = j ∧ j < l.length then x else rt l j := by
  unfold rt
  simp only [List.getD_eq_getElem?_getD, List.getElem?_set]
  by_cases h : i = j
  · subst h
    by_cases h2 : i < l.length
    · simp [h2]
    · simp [h2]
  · simp [h]
theorem rg_self {l : List (List Rat)} {k : Nat} (hk : k < l.length) : l.set k (rg l k) = l := by
  apply List.ext_getElem?
  intro j
  rw [List.getElem?_set]
  by_cases h : k = j
  · subst h; rw [if_pos rfl, if_pos hk, rg_at hk]
  · rw [if_neg h]
structure RowOk (n : Nat) (a : Mt) (i j : Nat) (row : List Rat) : Prop where
  len : row.length = n + 1
  is_ : ∀ c, i ≤ c → c ≤ n → Is (rt row c) (Ev a i j c) (Fv a i j)
  pv : j < i → Is (rt row j) (Dm a (j + 1)) (Dm a j)
variable {n : Nat} {a : Mt} {d : Nat → Nat}
theorem row_loop (h : Sol n a d) {i j : Nat} (hi : i < n) (hj : j < n) (hji : j ≠ i) (hPi : Ev a i j i ≠ 0) {m : List (List Rat)} (hm : m.length = n) (hri : RowOk n a i i (rg m i)) (hrj : RowOk n a i j (rg m j)) {u v : Int} (hf : Is ⟨u, v⟩ (Ev a i j i * Dm a i) (Fv a i j * Dm a (i + 1))) (rec3 : Int → List (List Rat) → Option (List Rat × List (List Rat))) :
    ∃ row, RowOk n a (i + 1) j row ∧ level_solve_k5 (i : Int) (j : Int) m rec3 u v = level_solve_k4 (j : Int) rec3 (m.set j row) := by
  have hn := h.n4
  have hl := hrj.len
  have hli := hri.len
  obtain ⟨row, ⟨_, q1, q2, q3, q4⟩, e⟩ := ex_loop (n + 1) (fun c (row : List Rat) => i ≤ c ∧ row.length = n + 1 ∧ (∀ c', c ≤ c' → c' ≤ n → rt row c' = rt (rg m j) c') ∧ (∀ c', c' < i → rt row c' = rt (rg m j) c') ∧ (∀ c', i + 1 ≤ c' → c' < c → Is (rt row c') (Ev a (i + 1) j c') (Fv a (i + 1) j)))
    (fun k (row : List Rat) c => level_solve_L2 (i : Int) (j : Int) rec3 u v k c (m.set j row)) (fun row => level_solve_k4 (j : Int) rec3 (m.set j row)) (fun k c row hc ⟨p0, p1, p2, p3, p4⟩ => by
      have hp := hrj.is_ c p0 (by omega)
      have hy := hri.is_ c p0 (by omega)
      rw [Ev_self, Fv_self] at hy
      obtain ⟨q, z, hq, hz, hI⟩ := place_is h hi hj hji ⟨p0, by omega⟩ hPi hp hf hy
      refine ⟨row.set c z, ⟨by omega, by rw [List.length_set]; exact p1, fun c' h1 h2 => ?_, fun c' h1 => ?_, fun c' h1 h2 => ?_⟩, ?_⟩
      · rw [rt_set, if_neg (by omega)]; exact p2 c' (by omega) h2
      · rw [rt_set, if_neg (by omega)]; exact p3 c' h1
      · rw [rt_set]
        by_cases e : c = c'
        · subst e; rw [if_pos ⟨rfl, by omega⟩]; exact hI
        · rw [if_neg (by omega)]; exact p4 c' h1 (by omega)
      · show level_solve_B2 (i : Int) (j : Int) rec3 u v (level_solve_L2 (i : Int) (j : Int) rec3 u v k) _ _ = _
        have hmj : (m.set j row)[j]? = some row := by rw [List.getElem?_set, if_pos rfl, if_pos (by omega)]
        have hmi : (m.set j row)[i]? = some (rg m i) := by rw [List.getElem?_set, if_neg hji]; exact rg_at (by omega)
        have hrc : row[c]? = some (rt (rg m j) c) := by rw [← p2 c (Nat.le_refl _) (by omega)]; exact rt_at (by omega)
        unfold level_solve_B2
        rw [if_pos (by rw [List.length_set, hm]; omega), ix_nat hmj, ix_nat hmj, ix_nat hrc, ix_nat hmi, ix_nat (rt_at (show c < (rg m i).length by omega)), bnd_eq hq, bnd_eq hz, ix_nat hrc, gd_pos (by omega), Int.toNat_natCast, Int.toNat_natCast, List.set_set]; rfl) (fun k row ⟨p0, p1, p2, p3, p4⟩ => by
      show level_solve_B2 (i : Int) (j : Int) rec3 u v (level_solve_L2 (i : Int) (j : Int) rec3 u v k) _ _ = _
      unfold level_solve_B2
      rw [if_neg (by rw [List.length_set, hm]; omega)]) (by omega) (i0 := i) (by omega) (s0 := rg m j) ⟨Nat.le_refl _, hl, fun _ _ _ => rfl, fun _ _ => rfl, fun c' h1 h2 => by omega⟩
  refine ⟨row, ⟨q1, fun c h1 h2 => q4 c h1 (by omega), fun hlt => ?_⟩, ?_⟩
  · rw [q3 j (by omega)]; exact hrj.pv (by omega)
  · rw [rg_self (by omega)] at e
    exact e
/-- The rows before row q are done. -/
def St (n : Nat) (a : Mt) (i q : Nat) (m : List (List Rat)) : Prop := m.length = n ∧ RowOk n a i i (rg m i) ∧ ∀ j, j < n → j ≠ i → RowOk n a (if j < q then i + 1 else i) j (rg m j)
theorem skip_ok (h : Sol n a d) {i j : Nat} (hi : i < n) (hj : j < n) (hji : j ≠ i) (hPi : Ev a i j i = 0) {row : List Rat} (hr : RowOk n a i j row) : RowOk n a (i + 1) j row := by
  have hn := h.n4
  refine ⟨hr.len, fun c h1 h2 => ?_, fun hlt => hr.pv (by omega)⟩
  have hef := EF a (show i < 4 by omega) hji c
  rw [hPi, Int.zero_mul, Int.sub_zero] at hef
  have hD' : Dm a (i + 1) ≠ 0 := by have := h.pos (i + 1) (by omega); omega
  have hF := h.Fne (i := i) (by omega) hj
  refine (hr.is_ c (by omega) h2).of_eq hF ?_
  refine Int.eq_of_mul_eq_mul_right hD' ?_
  generalize Ev a i j c = P at *
  generalize Fv a i j = Q at *
  generalize Ev a (i + 1) j c = P1 at *
  generalize Fv a (i + 1) j = Q1 at *
  generalize Dm a (i + 1) = D' at *
  grind
theorem piv_ok (h : Sol n a d) {i : Nat} (hi : i < n) {row : List Rat} (hr : RowOk n a i i row) : RowOk n a (i + 1) i row := by
  have hn := h.n4
  refine ⟨hr.len, fun c h1 h2 => ?_, fun _ => ?_⟩
  · have := hr.is_ c (by omega) h2
    rw [Ev_self, Fv_self] at this
    rw [Ev_next a (by omega), Fv_next]; exact this
  · have := hr.is_ i (by omega) (by omega)
    rw [Ev_self, Fv_self] at this
    rw [Dm_succ a (by omega)]; exact this
theorem stage_row (h : Sol n a d) {i j : Nat} (hi : i < n) (hj : j < n) {m m6 : List (List Rat)} (hm6 : m6.length = n) (hs : St n a i j m) (rec2 rec3 : Int → List (List Rat) → Option (List Rat × List (List Rat))) :
    ∃ m', St n a i (j + 1) m' ∧ level_solve_B3 (i : Int) m6 rec2 rec3 (j : Int) m = rec3 ((j + 1 : Nat) : Int) m' := by
  have hn := h.n4
  obtain ⟨hm, hri, hr⟩ := hs
  have hli := hri.len
  unfold level_solve_B3
  rw [if_pos (by omega)]
  by_cases hji : j = i
  · subst hji
    refine ⟨m, ⟨hm, hri, fun k hk hki => ?_⟩, ?_⟩
    · have := hr k hk hki
      by_cases e : k < j
      · rw [if_pos e] at this; rw [if_pos (by omega)]; exact this
      · rw [if_neg e] at this; rw [if_neg (by omega)]; exact this
    · rw [if_pos rfl]
      unfold level_solve_k6 level_solve_k4
      rw [if_pos rfl, gd_pos (by omega)]; rfl
  · have hrj := hr j hj hji
    rw [if_neg (by omega)] at hrj
    have hl := hrj.len
    have hI := hrj.is_ i (Nat.le_refl _) (by omega)
    have hF := h.Fne (i := i) (by omega) hj
    rw [if_neg (by omega), ix_nat (rg_at (show j < m.length by omega)), ix_nat (rt_at (show i < (rg m j).length by omega))]
    by_cases h0 : (rt (rg m j) i).num = 0
    · have hPi := (hI.num0 hF).1 h0
      refine ⟨m, ⟨hm, hri, fun k hk hki => ?_⟩, ?_⟩
      · by_cases e : k = j
        · subst e; rw [if_pos (by omega)]; exact skip_ok h hi hk hki hPi hrj
        · have := hr k hk hki
          by_cases e2 : k < j
          · rw [if_pos e2] at this; rw [if_pos (by omega)]; exact this
          · rw [if_neg e2] at this; rw [if_neg (by omega)]; exact this
      · unfold level_solve_k6 level_solve_k4
        rw [decide_eq_true h0, if_pos rfl, gd_pos (by omega)]; rfl
    · have hPi : Ev a i j i ≠ 0 := fun e => h0 ((hI.num0 hF).2 e)
      have hy := hri.is_ i (Nat.le_refl _) (by omega)
      rw [Ev_self, Fv_self, ← Dm_succ a (by omega)] at hy
      have hDi : Dm a i ≠ 0 := by have := h.pos i (by omega); omega
      have hD' : Dm a (i + 1) ≠ 0 := by have := h.pos (i + 1) (by omega); omega
      have g := h.gd hi hj hji ⟨Nat.le_refl i, by omega⟩
      have g1 := g.s
      have g2 := g.q
      have g3 := g.f
      rw [← Dm_succ a (by omega)] at g1
      have hy0 : (rt (rg m i) i).num ≠ 0 := fun e => hD' ((hy.num0 hDi).1 e)
      obtain ⟨f, hf1, hf2⟩ : ∃ f, level_div (rt (rg m j) i) (rt (rg m i) i) = some f ∧ Is f (Ev a i j i * Dm a i) (Fv a i j * Dm a (i + 1)) := by
        generalize rt (rg m j) i = x at *
        generalize rt (rg m i) i = y at *
        generalize Ev a i j i = Pi at *
        generalize Fv a i j = Q at *
        generalize Dm a (i + 1) = D' at *
        generalize Dm a i = Di at *
        have fa : 1 ≤ Q.natAbs := by omega
        have pa : 1 ≤ Pi.natAbs := by omega
        have da : 1 ≤ D'.natAbs := by omega
        have dia : 1 ≤ Di.natAbs := by omega
        have c1 : Q.natAbs ≤ Q.natAbs * D'.natAbs := Nat.le_mul_of_pos_right _ da
        have c2 : Q.natAbs * D'.natAbs ≤ Q.natAbs * (Q.natAbs * D'.natAbs) := Nat.le_mul_of_pos_left _ fa
        have c3 : D'.natAbs ≤ Q.natAbs * D'.natAbs := Nat.le_mul_of_pos_left _ fa
        have c4 : Pi.natAbs ≤ Pi.natAbs * Di.natAbs := Nat.le_mul_of_pos_right _ dia
        have c5 : Di.natAbs ≤ Pi.natAbs * Di.natAbs := Nat.le_mul_of_pos_left _ pa
        refine div_is hI.1 hy.1 hy0 (hI.sm hF (sm_abs.2 (by omega)) (sm_abs.2 (by omega))) (hy.sm hDi (sm_abs.2 (by omega)) (sm_abs.2 (by omega))) (Int.mul_ne_zero hF hD') ?_ (sm_of (B := Pi.natAbs * Di.natAbs) (by rw [Int.natAbs_mul]; exact Nat.le_refl _) (by omega)) (sm_of (B := Q.natAbs * D'.natAbs) (by rw [Int.natAbs_mul]; exact Nat.le_refl _) (by omega))
        have e1 := hI.2
        have e2 := hy.2
        generalize x.num = xu at *
        generalize x.den = xv at *
        generalize y.num = yu at *
        generalize y.den = yv at *
        have e3 : xu * yv * (Q * D') = (xu * Q) * (D' * yv) := by grind
        rw [e3, e1, ← e2]; grind
      obtain ⟨row, hrow, hk⟩ := row_loop h hi hj hji hPi hm hri hrj (u := f.num) (v := f.den) hf2 rec3
      refine ⟨m.set j row, ⟨by rw [List.length_set]; exact hm, ?_, fun k hk hki => ?_⟩, ?_⟩
      · rw [rg_set, if_neg (by omega)]; exact hri
      · by_cases e : j = k
        · subst e
          have e3 : rg (m.set j row) j = row := by rw [rg_set, if_pos ⟨rfl, by omega⟩]
          rw [e3, if_pos (by omega)]; exact hrow
        · have := hr k hk hki
          have e3 : rg (m.set j row) k = rg m k := by rw [rg_set, if_neg (by omega)]
          rw [e3]
          by_cases e2 : k < j
          · rw [if_pos e2] at this; rw [if_pos (by omega)]; exact this
          · rw [if_neg e2] at this; rw [if_neg (by omega)]; exact this
      · unfold level_solve_k6
        rw [decide_eq_false h0, if_neg (by simp), ix_nat (rg_at (show j < m.length by omega)), ix_nat (rt_at (show i < (rg m j).length by omega)), ix_nat (rg_at (show i < m.length by omega)), ix_nat (rt_at (show i < (rg m i).length by omega)), bnd_eq hf1, hk]
        unfold level_solve_k4
        rw [gd_pos (by omega)]; rfl
/-- All rows after i steps. -/
def Sg (n : Nat) (a : Mt) (i : Nat) (m : List (List Rat)) : Prop := m.length = n ∧ ∀ j, j < n → RowOk n a i j (rg m j)
theorem stage (h : Sol n a d) {i : Nat} (hi : i < n) {m : List (List Rat)} (hs : Sg n a i m) (a0 : List (List Rat)) (ha0 : a0.length = n) (rec2 : Int → List (List Rat) → Option (List Rat × List (List Rat))) :
    ∃ m', Sg n a (i + 1) m' ∧ level_solve_B5 a0 rec2 (i : Int) m = rec2 ((i + 1 : Nat) : Int) m' := by
  have hn := h.n4
  obtain ⟨hm, hr⟩ := hs
  have hri := hr i hi
  have hli := hri.len
  have hy := hri.is_ i (Nat.le_refl _) (by omega)
  rw [Ev_self, Fv_self, ← Dm_succ a (by omega)] at hy
  have hDi : Dm a i ≠ 0 := by have := h.pos i (by omega); omega
  have hD' : Dm a (i + 1) ≠ 0 := by have := h.pos (i + 1) (by omega); omega
  have hy0 : (rt (rg m i) i).num ≠ 0 := fun e => hD' ((hy.num0 hDi).1 e)
  obtain ⟨m', ⟨e1, e2, e3⟩, e4⟩ := ex_loop n (fun q m' => St n a i q m') (fun k m' q => level_solve_L3 (i : Int) m rec2 k q m') (fun m' => level_solve_k3 (i : Int) rec2 m') (fun k q m' hq hs' => stage_row h hi hq hm hs' rec2 _) (fun k m' hs' => by
      show level_solve_B3 (i : Int) m rec2 (level_solve_L3 (i : Int) m rec2 k) _ _ = _
      unfold level_solve_B3
      rw [if_neg (by omega)]) (by omega) (i0 := 0) (by omega) (s0 := m) ⟨hm, hri, fun j hj hji => by rw [if_neg (by omega)]; exact hr j hj⟩
  refine ⟨m', ⟨e1, fun j hj => ?_⟩, ?_⟩
  · by_cases e : j = i
    · subst e; exact piv_ok h hi e2
    · have := e3 j hj e; rw [if_pos hj] at this; exact this
  · obtain ⟨k, hk⟩ : ∃ k, FU = k + 1 := ⟨FU - 1, by have := FU_pos; omega⟩
    unfold level_solve_B5
    rw [if_pos (by omega), hk]
    show level_solve_B4 (i : Int) m rec2 (level_solve_L4 (i : Int) m rec2 k) _ = _
    have hmi := rg_at (show i < m.length by omega)
    unfold level_solve_B4 level_solve_k7
    rw [ix_nat hmi, ix_nat (rt_at (show i < (rg m i).length by omega)), if_neg hy0, ix_nat hmi, ix_nat hmi, ix_nat hmi, ix_nat hmi, Int.toNat_natCast, rg_self (by omega), rg_self (by omega)]
    refine e4.trans ?_
    unfold level_solve_k3
    rw [gd_pos (by omega)]; rfl
/-- What solve returns: by Cramer's rule. -/
theorem solve_eq (h : Sol n a d) {m : List (List Rat)} (hm : m.length = n) (hr : ∀ j, j < n → (rg m j).length = n + 1 ∧ ∀ c, c ≤ n → Is (rt (rg m j) c) (a j c) 1) :
    ∃ (xs : List Rat) (m' : List (List Rat)), level_solve m = some (xs, m') ∧ xs.length = n ∧ ∀ j, j < n → Is (rt xs j) (Nm a n j n) (Dm a n) := by
  have hn := h.n4
  obtain ⟨m', ⟨s1, s2⟩, e⟩ := ex_loop n (fun i m' => Sg n a i m') (fun k m' i => level_solve_L5 m k i m') (fun m' => level_solve_k2 m') (fun k i m' hi hs => stage h hi hs m hm _) (fun k m' hs => by
      show level_solve_B5 m (level_solve_L5 m k) _ _ = _
      unfold level_solve_B5
      rw [if_neg (by omega)]) (by omega) (i0 := 0) (by omega) (s0 := m) ⟨hm, fun j hj => ⟨(hr j hj).1, fun c _ h2 => by
        rw [show Ev a 0 j c = a j c by simp [Ev, mn_zero], show Fv a 0 j = 1 by simp [Fv, Dm]]
        exact (hr j hj).2 c h2, fun h => by omega⟩⟩
  obtain ⟨xs, ⟨x1, x2⟩, e2⟩ := ex_loop n (fun i (xs : List Rat) => xs.length = i ∧ ∀ j, j < i → Is (rt xs j) (Nm a n j n) (Dm a n)) (fun k xs i => level_solve_L1 m' k i xs) (fun xs => some (xs, m')) (fun k j xs hj ⟨p1, p2⟩ => by
      have hrj := s2 j hj
      have hl := hrj.len
      have hx := hrj.is_ n (by omega) (by omega)
      have hy := hrj.pv hj
      have hF := h.Fne (i := n) (Nat.le_refl _) hj
      have hDj : Dm a j ≠ 0 := by have := h.pos j (by omega); omega
      have hDs : Dm a (j + 1) ≠ 0 := by have := h.pos (j + 1) (by omega); omega
      have hDn : Dm a n ≠ 0 := by have := h.pos n (by omega); omega
      have cj := h.Dc (i := j) (by omega)
      have cs := h.Dc (i := j + 1) (by omega)
      have cn := h.Dc (i := n) (by omega)
      have bn := Nat.le_trans (h.Nb n j hj (Nat.le_refl _)) (Nat.mul_le_mul_left _ cn)
      have m24 : ∀ i, i ≤ n → 24 ^ i ≤ 331776 := fun i hi => by
        have : ∀ m, m < 5 → 24 ^ m ≤ 331776 := by decide
        exact this i (by omega)
      have k1 := m24 j (by omega)
      have k2 := m24 (j + 1) (by omega)
      have k3 := m24 n (by omega)
      have hid : Ev a n j n * Dm a j * Dm a n = Nm a n j n * Fv a n j * Dm a (j + 1) := by
        unfold Ev Fv
        rw [if_pos hj, if_pos hj]
        by_cases e : j + 1 = n
        · rw [if_pos e, if_pos e, e]
        · rw [if_neg e, if_neg e]; grind
      have hEF : (Ev a n j n).natAbs ≤ 331776 * (4000 * 331776) ∧ (Fv a n j).natAbs ≤ 331776 * 331776 := by
        unfold Ev Fv
        rw [if_pos hj, if_pos hj]
        by_cases e : j + 1 = n
        · rw [if_pos e, if_pos e]; omega
        · rw [if_neg e, if_neg e]
          exact ⟨na_mul (by omega) (by omega), na_mul (by omega) (by omega)⟩
      have hy0 : (rt (rg m' j) j).num ≠ 0 := fun e => hDs ((hy.num0 hDj).1 e)
      obtain ⟨z, hz1, hz2⟩ : ∃ z, level_div (rt (rg m' j) n) (rt (rg m' j) j) = some z ∧ Is z (Nm a n j n) (Dm a n) := by
        generalize rt (rg m' j) n = x at *
        generalize rt (rg m' j) j = y at *
        refine div_is hx.1 hy.1 hy0 (hx.sm hF (sm_of hEF.1 (by decide)) (sm_of hEF.2 (by decide))) (hy.sm hDj (sm_abs.2 (by omega)) (sm_abs.2 (by omega))) hDn ?_ (sm_of bn (by omega)) (sm_abs.2 (by omega))
        have e1 := hx.2
        have e2 := hy.2
        refine Int.eq_of_mul_eq_mul_right (Int.mul_ne_zero hF hDs) ?_
        clear hx hy hy0 cj cs cn bn m24 k1 k2 k3 hEF
        generalize x.num = xu at *
        generalize x.den = xv at *
        generalize y.num = yu at *
        generalize y.den = yv at *
        generalize Ev a n j n = E at *
        generalize Fv a n j = F at *
        generalize Nm a n j n = N at *
        generalize Dm a n = Dn at *
        generalize Dm a (j + 1) = Ds at *
        generalize Dm a j = Dj at *
        have e3 : xu * yv * Dn * (F * Ds) = (xu * F) * (Ds * yv) * Dn := by grind
        rw [e3, e1, ← e2]
        have e4 : E * xv * (yu * Dj) * Dn = (E * Dj * Dn) * (xv * yu) := by grind
        rw [e4, hid]
        grind
      refine ⟨xs ++ [z], ⟨by simp [p1], fun k hk => ?_⟩, ?_⟩
      · by_cases e : k = j
        · subst e
          have : rt (xs ++ [z]) k = z := by simp [rt, List.getD_eq_getElem?_getD, ← p1]
          rw [this]; exact hz2
        · have : rt (xs ++ [z]) k = rt xs k := by
            simp only [rt, List.getD_eq_getElem?_getD]
            rw [List.getElem?_append_left (by omega)]
          rw [this]; exact p2 k (by omega)
      · show level_solve_B1 m' (level_solve_L1 m' k) _ _ = _
        have hmj := rg_at (show j < m'.length by omega)
        unfold level_solve_B1
        rw [if_pos (by omega), ix_nat hmj, s1, ix_nat (rt_at (show n < (rg m' j).length by omega)), ix_nat hmj, ix_nat (rt_at (show j < (rg m' j).length by omega)), bnd_eq hz1, gd_pos (by simp; omega), gd_pos (by omega)]; rfl) (fun k xs ⟨p1, p2⟩ => by
      show level_solve_B1 m' (level_solve_L1 m' k) _ _ = _
      unfold level_solve_B1 level_solve_k1
      rw [if_neg (by omega)]) (by omega) (i0 := 0) (by omega) (s0 := []) ⟨rfl, fun j hj => by omega⟩
  exact ⟨xs, m', e.trans e2, x1, x2⟩
end Go.D1

set_option linter.unusedVariables false
set_option linter.unusedSimpArgs false
namespace Go.D1
open Go.Tb
def gl (m : List (List Int)) (i : Nat) : List Int := m.getD i []
theorem gl_at {m : List (List Int)} {i : Nat} (h : i < m.length) : m[i]? = some (gl m i) := by simp [gl, List.getD, h]
structure Sq (n : Nat) (B : Int) (m : List (List Int)) : Prop where
  len : m.length = n
  row : ∀ r ∈ m, r.length = n ∧ ∀ x ∈ r, -B ≤ x ∧ x ≤ B
theorem Sq.at_ {n : Nat} {B : Int} {m : List (List Int)} (h : Sq n B m) {i : Nat} (hi : i < n) : (gl m i).length = n ∧ ∀ j, j < n → -B ≤ gi (gl m i) j ∧ gi (gl m i) j ≤ B := by
  have h1 := h.row _ (List.mem_of_getElem? (gl_at (by rw [h.len]; exact hi)))
  exact ⟨h1.1, fun j hj => h1.2 _ (List.mem_of_getElem? (gi_at (by rw [h1.1]; exact hj)))⟩
def bd (B : Nat) : Nat → Nat
  | 0 => 1
  | n + 1 => (n + 1) * (B * bd B n)
end Go.D1

set_option linter.unusedVariables false
set_option linter.unusedSimpArgs false
namespace Go.D1
open Go.Tb
/-- What a reading gives to a place of the table of weights of points p, q. -/
def lc (p q : Int) (same : Bool) (r : Reading) : Int :=
  if same = true then (if r.from_ = p ∨ r.to_ = p then r.weight else 0) else (if (r.from_ = p ∧ r.to_ = q) ∨ (r.to_ = p ∧ r.from_ = q) then -r.weight else 0)
def lsum (s : Survey) (p q : Int) (same : Bool) : Nat → Int
  | 0 => 0
  | t + 1 => lsum s p q same t + lc p q same (gr s.readings t)
theorem lc_abs {s : Survey} (hs : SvOk s) {t : Nat} (ht : t < s.readings.length) (p q : Int) (same : Bool) : -3 ≤ lc p q same (gr s.readings t) ∧ lc p q same (gr s.readings t) ≤ 3 := by
  have := (gr_ok hs ht).2.2.2.2
  unfold lc
  split <;> split <;> omega
theorem lsum_abs {s : Survey} (hs : SvOk s) (p q : Int) (same : Bool) : ∀ t : Nat, t ≤ s.readings.length → -(3 * (t : Int)) ≤ lsum s p q same t ∧ lsum s p q same t ≤ 3 * (t : Int)
  | 0, _ => by simp [lsum]
  | t + 1, ht => by
    have ih := lsum_abs hs p q same t (by omega)
    have := lc_abs hs (t := t) (by omega) p q same
    simp only [lsum]
    omega
def lent (s : Survey) (pts : List Int) (i k : Nat) : Int := lsum s (gi pts i) (gi pts k) (decide (i = k)) s.readings.length
end Go.D1

set_option linter.unusedVariables false
set_option linter.unusedSimpArgs false
namespace Go.D1
open Go.Tb
def oneOf (s : Survey) (i : Int) : List Int := nodesOf s.points.toNat fun k => decide (gi (rootsOf s) k.toNat = gi (rootsOf s) i.toNat) && !decide (k = i)
end Go.D1

set_option linter.unusedVariables false
set_option linter.unusedSimpArgs false
namespace Go.D1
open Go.Tb
def rowI (l : List Int) : List Rat := l.map fun x => ⟨x, 1⟩
theorem rowI_at {l : List Int} {i : Nat} (h : i < l.length) : (rowI l)[i]? = some ⟨gi l i, 1⟩ := by
  unfold rowI
  rw [List.getElem?_map, gi_at h]; rfl
theorem rowI_set {l : List Int} {i : Nat} {x : Int} : (rowI l).set i ⟨x, 1⟩ = rowI (l.set i x) := by
  unfold rowI
  rw [List.map_set]
def addI (l : List Int) (c n : Int) : List Int := if 0 ≤ c then l.set c.toNat (gi l c.toNat + n) else l
theorem addI_len (l : List Int) (c n : Int) : (addI l c n).length = l.length := by unfold addI; split <;> simp
theorem add_eq {l : List Int} {c n : Int} (hc : c < (l.length : Int)) (hb : 0 ≤ c → InR (gi l c.toNat + n)) : level_balance_1 (rowI l) c n = some (rowI (addI l c n)) := by
  unfold level_balance_1 addI
  by_cases h : 0 ≤ c
  · have hx := rowI_at (l := l) (i := c.toNat) (by omega)
    rw [if_pos h, if_pos h, ix_eq h hx, gd_pos (hb h), ix_eq h hx, rowI_set]
  · rw [if_neg h, if_neg h]
theorem addI_gi {l : List Int} {c n : Int} {k : Nat} (hk : k < l.length) : gi (addI l c n) k = gi l k + (if c = (k : Int) then n else 0) := by
  unfold addI
  by_cases h : 0 ≤ c
  · rw [if_pos h, gi_set]
    by_cases e : c = (k : Int)
    · subst e
      rw [if_pos ⟨rfl, hk⟩, if_pos rfl]; rfl
    · rw [if_neg (by omega), if_neg e]; omega
  · rw [if_neg h, if_neg (by omega)]; omega
/-- Where a number lies. -/
theorem index_eq {l : List Int} (hl : l.length ≤ 1000) (hd : l.Nodup) (x : Int) : ∃ c : Int, slices_Index_int l x = some c ∧ c < (l.length : Int) ∧ -1 ≤ c ∧ ∀ k : Nat, k < l.length → (c = (k : Int) ↔ gi l k = x) := by
  have key : ∀ (d i k : Nat), l.length = i + d → d < k → (∃ r : Nat, slices_Index_int_L1 l x k (i : Int) = some (r : Int) ∧ r < l.length ∧ gi l r = x) ∨ (slices_Index_int_L1 l x k (i : Int) = some (-1) ∧ ∀ j, i ≤ j → j < l.length → gi l j ≠ x) := by
    intro d
    induction d with
    | zero =>
      intro i k hd' hk
      cases k with
      | zero => omega
      | succ k =>
        right
        refine ⟨?_, fun j h1 h2 => by omega⟩
        show slices_Index_int_B1 l x (slices_Index_int_L1 l x k) _ = _
        unfold slices_Index_int_B1
        rw [if_neg (by omega)]; rfl
    | succ d ih =>
      intro i k hd' hk
      cases k with
      | zero => omega
      | succ k =>
        have e : slices_Index_int_L1 l x (k + 1) (i : Int) = slices_Index_int_B1 l x (slices_Index_int_L1 l x k) (i : Int) := rfl
        rw [e]
        unfold slices_Index_int_B1
        rw [if_pos (by omega), ix_nat (gi_at (show i < l.length by omega))]
        by_cases h : x = gi l i
        · rw [if_pos h]
          exact .inl ⟨i, rfl, by omega, h.symm⟩
        · rw [if_neg h, gd_pos (by omega)]
          rcases ih (i + 1) k (by omega) (by omega) with ⟨r, h1, h2, h3⟩ | ⟨h1, h2⟩
          · exact .inl ⟨r, h1, h2, h3⟩
          · refine .inr ⟨h1, fun j j1 j2 => ?_⟩
            by_cases hj : j = i
            · subst hj; exact fun h' => h h'.symm
            · exact h2 j (by omega) j2
  rcases key l.length 0 FU (by omega) (by have := FU_pos; omega) with ⟨r, h1, h2, h3⟩ | ⟨h1, h2⟩
  · refine ⟨r, h1, by omega, by omega, fun k hk => ⟨fun e => ?_, fun e => ?_⟩⟩
    · have : r = k := by omega
      rw [← this]; exact h3
    · have h4 : ∀ a b : Nat, a < b → b < l.length → gi l a ≠ gi l b := fun a b hab hb e => by
        have := List.pairwise_iff_getElem.1 hd a b (by omega) hb hab
        have e1 := gi_at (l := l) (i := a) (by omega)
        have e2 := gi_at (l := l) (i := b) hb
        rw [List.getElem?_eq_getElem (by omega)] at e1 e2
        exact this (by rw [Option.some.inj e1, Option.some.inj e2, e])
      rcases Nat.lt_trichotomy r k with h | h | h
      · exact absurd (h3.trans e.symm) (h4 r k h hk)
      · omega
      · exact absurd (e.trans h3.symm) (h4 k r h h2)
  · exact ⟨-1, h1, by omega, by omega, fun k hk => ⟨fun e => by omega, fun e => absurd e (h2 k (by omega) hk)⟩⟩
/-- What one direction of a reading gives to the row of point p. -/
theorem dir_eq {pts : List Int} (hp : pts.length ≤ 1000) (hd : pts.Nodup) {l : List Int} (hl : l.length = pts.length + 1) {B : Int} (hb : ∀ k, -B ≤ gi l k ∧ gi l k ≤ B) (hB : 0 ≤ B ∧ B ≤ 100000) (p : Int) {a b w : Int} (hw : 1 ≤ w ∧ w ≤ 3) (x4 : Arr2) (h0 : x4.at0 = a) (h1 : x4.at1 = b) (t32 t47 : Int) (ht : InR (t47 + 1)) (rec3 : Int → List Rat → Option (List (List Rat))) (x3 : Reading) (hx3 : x3.weight = w) :
    ∃ l' : List Int, l'.length = pts.length + 1 ∧ (∀ k, k < pts.length → gi l' k = gi l k + (if a = p then (if gi pts k = p then w else 0) + (if gi pts k = b then -w else 0) else 0)) ∧ gi l' pts.length = gi l pts.length ∧ (∀ k, -(B + 6) ≤ gi l' k ∧ gi l' k ≤ B + 6) ∧
      (ix (([x4.at0, x4.at1] : List Int)) 0 fun x5 => if x5 = p then bnd (slices_Index_int pts p) fun r2 => bnd (level_balance_1 (rowI l) r2 x3.weight) fun r3 => ix (([x4.at0, x4.at1] : List Int)) 1 fun x6 => bnd (slices_Index_int pts x6) fun r4 => gd (InR (-x3.weight)) <| bnd (level_balance_1 r3 r4 (-x3.weight)) fun r5 => level_balance_k5 t47 rec3 r5 else level_balance_k5 t47 rec3 (rowI l)) = rec3 (t47 + 1) (rowI l') := by
  obtain ⟨c, c1, c2, c3, c4⟩ := index_eq hp hd p
  obtain ⟨e, e1, e2, e3, e4⟩ := index_eq hp hd b
  have g1 : ∀ (m : List Int) (C : Int) (q n : Int), (∀ k, -C ≤ gi m k ∧ gi m k ≤ C) → -3 ≤ n → n ≤ 3 → ∀ k, -(C + 3) ≤ gi (addI m q n) k ∧ gi (addI m q n) k ≤ C + 3 := fun m C q n hm h1 h2 k => by
    have := hm k
    by_cases hk : k < m.length
    · rw [addI_gi hk]; split <;> omega
    · have hz : ∀ m : List Int, ¬ k < m.length → gi m k = 0 := fun m h => by unfold gi; simp [List.getD_eq_getElem?_getD, h]
      rw [hz _ hk] at this
      rw [hz _ (by rw [addI_len]; exact hk)]
      omega
  unfold level_balance_k5
  rw [ix0 (show ([x4.at0, x4.at1] : List Int)[0]? = some x4.at0 from rfl), h0]
  by_cases ha : a = p
  · have b1 := g1 l B c w hb (by omega) (by omega)
    have b2 := g1 (addI l c w) (B + 3) e (-w) b1 (by omega) (by omega)
    refine ⟨addI (addI l c w) e (-w), by rw [addI_len, addI_len, hl], fun k hk => ?_, ?_, fun k => by have := b2 k; omega, ?_⟩
    · rw [addI_gi (by rw [addI_len]; omega), addI_gi (by omega), if_pos ha]
      have q1 := c4 k hk
      have q2 := e4 k hk
      have f : ∀ (P Q : Prop) [Decidable P] [Decidable Q] (v : Int), (P ↔ Q) → (if P then v else 0) = (if Q then v else 0) := fun P Q _ _ v h => by
        by_cases hP : P
        · rw [if_pos hP, if_pos (h.1 hP)]
        · rw [if_neg hP, if_neg (fun hQ => hP (h.2 hQ))]
      rw [f _ _ w q1, f _ _ (-w) q2, Int.add_assoc]
    · rw [addI_gi (by rw [addI_len]; omega), addI_gi (by omega), if_neg (by omega), if_neg (by omega)]; omega
    · have i1 := hb c.toNat
      have i2 := b1 e.toNat
      rw [if_pos ha, bnd_eq c1, hx3, bnd_eq (add_eq (by omega) (fun _ => by omega)), show ix (([a, x4.at1] : List Int)) 1 = ix (([a, x4.at1] : List Int)) ((1 : Nat) : Int) from rfl, ix_nat (show ([a, x4.at1] : List Int)[1]? = some x4.at1 from rfl), h1, bnd_eq e1, gd_pos (by omega), bnd_eq (add_eq (by rw [addI_len]; omega) (fun _ => by omega)), gd_pos ht]
  · refine ⟨l, hl, fun k _ => by rw [if_neg ha]; omega, rfl, fun k => by have := hb k; omega, ?_⟩
    rw [if_neg ha, gd_pos ht]
def brow (s : Survey) (pts : List Int) (i t : Nat) : List Int := (List.range pts.length).map (fun k => lsum s (gi pts i) (gi pts k) (decide (i = k)) t) ++ [0]
theorem brow_len (s : Survey) (pts : List Int) (i t : Nat) : (brow s pts i t).length = pts.length + 1 := by unfold brow; simp
theorem brow_gi {s : Survey} {pts : List Int} {i t k : Nat} (hk : k < pts.length) : gi (brow s pts i t) k = lsum s (gi pts i) (gi pts k) (decide (i = k)) t := by
  apply gi_of
  unfold brow
  rw [List.getElem?_append_left (by simpa using hk), List.getElem?_map, List.getElem?_range hk]; rfl
theorem brow_end {s : Survey} {pts : List Int} {i t : Nat} : gi (brow s pts i t) pts.length = 0 := by
  apply gi_of
  unfold brow
  rw [List.getElem?_append_right (by simp)]; simp
theorem read_eq {s : Survey} (hs : SvOk s) {pts : List Int} (hp : pts.length ≤ 1000) (hd : pts.Nodup) {i t : Nat} (hi : i < pts.length) (ht : t < s.readings.length) (rec2 : Int → List Rat → Option (List (List Rat))) :
    level_balance_L1 pts (gi pts i) (t : Int) rec2 (gr s.readings t) FU 0 (rowI (brow s pts i t)) = rec2 ((t + 1 : Nat) : Int) (rowI (brow s pts i (t + 1))) := by
  have h8 := hs.len
  have hr := gr_ok hs ht
  have hb : ∀ k, -100 ≤ gi (brow s pts i t) k ∧ gi (brow s pts i t) k ≤ 100 := fun k => by
    by_cases hk : k < pts.length
    · rw [brow_gi hk]
      have := lsum_abs hs (gi pts i) (gi pts k) (decide (i = k)) t (by omega)
      omega
    · by_cases hk2 : k = pts.length
      · rw [hk2, brow_end]; omega
      · have : gi (brow s pts i t) k = 0 := by unfold gi; simp [List.getD_eq_getElem?_getD, brow_len, show ¬ k < pts.length + 1 by omega]
        omega
  obtain ⟨k0, hk0⟩ : ∃ k0, FU = k0 + 1 + 1 + 1 := ⟨FU - 3, by have := FU_pos; omega⟩
  obtain ⟨l1, a1, a2, a3, a4, a5⟩ := dir_eq hp hd (brow_len s pts i t) hb (by omega) (gi pts i) hr.2.2.2.2 ⟨(gr s.readings t).from_, (gr s.readings t).to_⟩ rfl rfl (t : Int) 0 (by omega) (level_balance_L1 pts (gi pts i) (t : Int) rec2 (gr s.readings t) (k0 + 1 + 1)) (gr s.readings t) rfl
  obtain ⟨l2, b1, b2, b3, b4, b5⟩ := dir_eq hp hd a1 a4 (by omega) (gi pts i) hr.2.2.2.2 ⟨(gr s.readings t).to_, (gr s.readings t).from_⟩ rfl rfl (t : Int) 1 (by omega) (level_balance_L1 pts (gi pts i) (t : Int) rec2 (gr s.readings t) (k0 + 1)) (gr s.readings t) rfl
  have hfin : l2 = brow s pts i (t + 1) := by
    refine gi_ext (by rw [b1, brow_len]) fun k hk => ?_
    rw [b1] at hk
    by_cases hk2 : k < pts.length
    · rw [b2 k hk2, a2 k hk2, brow_gi hk2, brow_gi hk2]
      simp only [lsum]
      have hik : i = k ↔ gi pts k = gi pts i := by
        constructor
        · rintro rfl; rfl
        · intro e
          obtain ⟨c, _, _, _, c4⟩ := index_eq hp hd (gi pts i)
          have q1 := (c4 k hk2).2 e
          have q2 := (c4 i hi).2 rfl
          omega
      have hne := hr.2.2.1
      unfold lc
      by_cases e : i = k
      · have e' := hik.1 e
        rw [decide_eq_true e, if_pos rfl, e']
        by_cases f1 : (gr s.readings t).from_ = gi pts i
        · have f2 : ¬ (gr s.readings t).to_ = gi pts i := fun f2 => hne (f1.trans f2.symm)
          rw [if_pos f1, if_pos rfl, if_neg (fun h => f2 h.symm), if_neg f2, if_pos (.inl f1)]; omega
        · by_cases f2 : (gr s.readings t).to_ = gi pts i
          · rw [if_neg f1, if_pos f2, if_pos rfl, if_neg (fun h => f1 h.symm), if_pos (.inr f2)]; omega
          · rw [if_neg f1, if_neg f2, if_neg (by omega)]; omega
      · have e' : ¬ gi pts k = gi pts i := fun h => e (hik.2 h)
        rw [decide_eq_false e, if_neg (show ¬ ((false : Bool) = true) by simp), if_neg e']
        by_cases f1 : (gr s.readings t).from_ = gi pts i
        · have f2 : ¬ (gr s.readings t).to_ = gi pts i := fun f2 => hne (f1.trans f2.symm)
          rw [if_pos f1, if_neg f2]
          by_cases f3 : gi pts k = (gr s.readings t).to_
          · rw [if_pos f3, if_pos (.inl ⟨f1, f3.symm⟩)]; omega
          · rw [if_neg f3, if_neg (by omega)]; omega
        · rw [if_neg f1]
          by_cases f2 : (gr s.readings t).to_ = gi pts i
          · rw [if_pos f2]
            by_cases f3 : gi pts k = (gr s.readings t).from_
            · rw [if_pos f3, if_pos (.inr ⟨f2, f3.symm⟩)]; omega
            · rw [if_neg f3, if_neg (by omega)]; omega
          · rw [if_neg f2, if_neg (by omega)]; omega
    · have hk3 : k = pts.length := by omega
      rw [hk3, b3, a3, brow_end, brow_end]
  rw [hk0]
  show level_balance_B1 pts (gi pts i) (t : Int) rec2 (gr s.readings t) (level_balance_L1 pts (gi pts i) (t : Int) rec2 (gr s.readings t) (k0 + 1 + 1)) 0 _ = _
  unfold level_balance_B1
  rw [if_pos (by omega), ix0 (show ([(⟨(gr s.readings t).from_, (gr s.readings t).to_⟩ : Arr2), (⟨(gr s.readings t).to_, (gr s.readings t).from_⟩ : Arr2)] : List Arr2)[0]? = some _ from rfl)]
  refine a5.trans ?_
  show level_balance_B1 pts (gi pts i) (t : Int) rec2 (gr s.readings t) (level_balance_L1 pts (gi pts i) (t : Int) rec2 (gr s.readings t) (k0 + 1)) 1 _ = _
  unfold level_balance_B1
  rw [if_pos (by omega), show (1 : Int) = ((1 : Nat) : Int) from rfl, ix_nat (show ([(⟨(gr s.readings t).from_, (gr s.readings t).to_⟩ : Arr2), (⟨(gr s.readings t).to_, (gr s.readings t).from_⟩ : Arr2)] : List Arr2)[1]? = some _ from rfl)]
  refine b5.trans ?_
  show level_balance_B1 pts (gi pts i) (t : Int) rec2 (gr s.readings t) (level_balance_L1 pts (gi pts i) (t : Int) rec2 (gr s.readings t) k0) 2 _ = _
  unfold level_balance_B1 level_balance_k4
  rw [if_neg (by omega), gd_pos (by omega), hfin]; rfl
/-- The equations of some points, with right sides. -/
def balR (s : Survey) (pts : List Int) (rt : Nat → Int) : List (List Rat) := (List.range pts.length).map fun i => rowI ((brow s pts i s.readings.length).set pts.length (rt i))
theorem balance_eq {s : Survey} (hs : SvOk s) {pts : List Int} (hp : pts.length ≤ 7) (hd : pts.Nodup) {f : Int → Option Int} {rt : Nat → Int} (hf : ∀ i, i < pts.length → f (gi pts i) = some (rt i)) : level_balance s pts f = some (balR s pts rt) := by
  have h8 := hs.len
  unfold level_balance
  refine for0 pts.length (fun i => (List.range i).map fun i => rowI ((brow s pts i s.readings.length).set pts.length (rt i))) (fun k m i => level_balance_L3 s pts f k i m) _ rfl (fun k i hi => ?_) (fun k => ?_) (by omega)
  · show level_balance_B3 s pts f (level_balance_L3 s pts f k) _ _ = _
    have hrep : slices_Repeat_Rat ([(⟨0, 1⟩ : Rat)] : List Rat) ((pts.length : Int) + 1) = some (rowI (brow s pts i 0)) := by
      show gd (1 ≤ (pts.length : Int) + 1 ∧ (pts.length : Int) + 1 ≤ 8) (some (List.replicate (Int.toNat ((pts.length : Int) + 1)) (⟨0, 1⟩ : Rat))) = _
      rw [gd_pos (by omega), show ((pts.length : Int) + 1).toNat = pts.length + 1 by omega]
      congr 1
      apply List.ext_getElem?
      intro j
      rw [List.getElem?_replicate]
      by_cases hj : j < pts.length + 1
      · rw [if_pos hj, rowI_at (by rw [brow_len]; exact hj)]
        congr 2
        by_cases hj2 : j < pts.length
        · rw [brow_gi hj2]; rfl
        · rw [show j = pts.length by omega, brow_end]
      · rw [if_neg hj, List.getElem?_eq_none (by unfold rowI; rw [List.length_map, brow_len]; omega)]
    unfold level_balance_B3
    rw [if_pos (by omega), ix_nat (gi_at hi), gd_pos (by omega), bnd_eq hrep]
    refine for0 s.readings.length (fun t => rowI (brow s pts i t)) (fun k' l t => level_balance_L2 s pts f (i : Int) ((List.range i).map fun i => rowI ((brow s pts i s.readings.length).set pts.length (rt i))) (level_balance_L3 s pts f k) (gi pts i) k' t l) _ rfl (fun k' t ht => ?_) (fun k' => ?_) (by omega)
    · show level_balance_B2 s pts f _ _ _ _ (level_balance_L2 s pts f _ _ _ _ k') _ _ = _
      unfold level_balance_B2
      rw [if_pos (by omega), ix_nat (gr_at ht)]
      exact read_eq hs (by omega) hd hi ht _
    · show level_balance_B2 s pts f _ _ _ _ (level_balance_L2 s pts f _ _ _ _ k') _ _ = _
      unfold level_balance_B2 level_balance_k3 level_balance_k2
      have hx := rowI_at (l := brow s pts i s.readings.length) (i := pts.length) (by rw [brow_len]; omega)
      rw [if_neg (by omega), bnd_eq (hf i hi), ix_nat hx, gd_pos (by simp; omega), gd_pos (by omega), show Int.toNat (pts.length : Int) = pts.length from rfl, rowI_set, List.range_succ, List.map_append]; rfl
  · show level_balance_B3 s pts f (level_balance_L3 s pts f k) _ _ = _
    unfold level_balance_B3
    rw [if_neg (by omega)]; rfl
end Go.D1

set_option linter.unusedVariables false
set_option linter.unusedSimpArgs false
namespace Go.D1
open Go.Tb
/-- What flows out of a point. -/
def dv : List Reading → (Reading → Int) → Int → Int
  | [], _, _ => 0
  | r :: l, f, p => (if r.from_ = p then f r else 0) - (if r.to_ = p then f r else 0) + dv l f p
def rs : List Reading → (Reading → Int) → Int
  | [], _ => 0
  | r :: l, f => f r + rs l f
theorem rs_congr {l : List Reading} {f g : Reading → Int} (h : ∀ r ∈ l, f r = g r) : rs l f = rs l g := by
  induction l with
  | nil => rfl
  | cons r l ih => simp only [rs]; rw [h r (by simp), ih fun r hr => h r (by simp [hr])]
theorem rs_mul (l : List Reading) (c : Int) (f : Reading → Int) : rs l (fun r => c * f r) = c * rs l f := by
  induction l with
  | nil => simp [rs]
  | cons r l ih => simp only [rs]; rw [ih, Int.mul_add]
theorem rs_nonneg {l : List Reading} {f : Reading → Int} (h : ∀ r ∈ l, 0 ≤ f r) : 0 ≤ rs l f := by
  induction l with
  | nil => exact Int.le_refl 0
  | cons r l ih =>
    have h1 := h r (by simp)
    have h2 := ih fun r hr => h r (by simp [hr])
    simp only [rs]; omega
theorem rs_gt {l : List Reading} {f : Reading → Int} {S : Int} (h : ∀ r ∈ l, 0 ≤ f r) {r : Reading} (hr : r ∈ l) (hS : S < f r) : S < rs l f := by
  induction l with
  | nil => simp at hr
  | cons r' l ih =>
    have h1 := h r' (by simp)
    have h2 := rs_nonneg fun r hr => h r (List.mem_cons_of_mem _ hr)
    simp only [rs]
    rcases List.mem_cons.1 hr with e | e
    · subst e; omega
    · have := ih (fun r hr => h r (by simp [hr])) e
      omega
theorem dv_congr {l : List Reading} {f g : Reading → Int} (h : ∀ r ∈ l, f r = g r) (p : Int) : dv l f p = dv l g p := by
  induction l with
  | nil => rfl
  | cons r l ih => simp only [dv]; rw [h r (by simp), ih fun r hr => h r (by simp [hr])]
theorem dv_add (l : List Reading) (f g : Reading → Int) (p : Int) : dv l (fun r => f r + g r) p = dv l f p + dv l g p := by
  induction l with
  | nil => rfl
  | cons r l ih => simp only [dv]; rw [ih]; split <;> split <;> omega
theorem dv_sub (l : List Reading) (f g : Reading → Int) (p : Int) : dv l (fun r => f r - g r) p = dv l f p - dv l g p := by
  induction l with
  | nil => rfl
  | cons r l ih => simp only [dv]; rw [ih]; split <;> split <;> omega
theorem dv_mul (l : List Reading) (c : Int) (f : Reading → Int) (p : Int) : dv l (fun r => c * f r) p = c * dv l f p := by
  induction l with
  | nil => simp [dv]
  | cons r l ih => simp only [dv]; rw [ih]; split <;> split <;> grind
theorem dv_neg (l : List Reading) (f : Reading → Int) (p : Int) : dv l (fun r => -f r) p = -dv l f p := by
  induction l with
  | nil => rfl
  | cons r l ih => simp only [dv]; rw [ih]; split <;> split <;> omega
theorem sumN_pick (g : Nat → Int) (x p : Int) (n : Nat) (h : 0 ≤ p ∧ p < n) : sumN (fun k => g k * (if p = (k : Int) then x else 0)) n = g p.toNat * x := by
  have key : ∀ m, sumN (fun k => g k * (if p = (k : Int) then x else 0)) m = if p < m then g p.toNat * x else 0 := by
    intro m
    induction m with
    | zero => rw [if_neg (by omega)]; rfl
    | succ m ih =>
      simp only [sumN]
      rw [ih]
      by_cases e : p = (m : Int)
      · rw [if_pos e, if_neg (by omega), if_pos (by omega), show p.toNat = m by omega]; omega
      · rw [if_neg e, Int.mul_zero, Int.add_zero]
        by_cases e2 : p < m
        · rw [if_pos e2, if_pos (by omega)]
        · rw [if_neg e2, if_neg (by omega)]
  rw [key n, if_pos h.2]
/-- Green's identity. -/
theorem green (l : List Reading) (g : Int → Int) (f : Reading → Int) (n : Nat) (h : ∀ r ∈ l, (0 ≤ r.from_ ∧ r.from_ < n) ∧ (0 ≤ r.to_ ∧ r.to_ < n)) : sumN (fun k => g (k : Int) * dv l f (k : Int)) n = rs l (fun r => (g r.from_ - g r.to_) * f r) := by
  induction l with
  | nil =>
    simp only [dv, rs, Int.mul_zero]
    induction n with
    | zero => rfl
    | succ n ih => simp only [sumN]; rw [ih (by simp)]; rfl
  | cons r l ih =>
    have hr := h r (by simp)
    have ih := ih fun r hr => h r (by simp [hr])
    simp only [dv, rs]
    rw [← ih]
    have e1 := sumN_pick (fun k => g (k : Int)) (f r) r.from_ n hr.1
    have e2 := sumN_pick (fun k => g (k : Int)) (f r) r.to_ n hr.2
    simp only [show ((r.from_.toNat : Nat) : Int) = r.from_ by omega, show ((r.to_.toNat : Nat) : Int) = r.to_ by omega] at e1 e2
    rw [Int.sub_mul, ← e1, ← e2, ← sumN_sub, ← sumN_add]
    exact sumN_congr fun k _ => by grind
theorem cross {s : Survey} {j : Nat} (U : Int → Bool) {a b : Int} (h : Con s j a b) (hab : U a ≠ U b) : ∃ r ∈ s.readings, U r.from_ ≠ U r.to_ := by
  induction h with
  | refl a => exact absurd rfl hab
  | edge h1 h2 => exact ⟨_, List.mem_of_getElem? (gr_at h2), hab⟩
  | symm _ ih => exact ih hab.symm
  | trans _ _ i1 i2 =>
    rename_i a b c _ _
    by_cases e : U a = U b
    · exact i2 (by rw [← e]; exact hab)
    · exact i1 e
theorem countP_lt {l : List Int} {p q : Int → Bool} (h : ∀ x ∈ l, p x = true → q x = true) {x : Int} (hx : x ∈ l) (hq : q x = true) (hp : p x = false) : l.countP p < l.countP q := by
  induction l with
  | nil => simp at hx
  | cons y l ih =>
    have mono : l.countP p ≤ l.countP q := List.countP_mono_left fun z hz => h z (by simp [hz])
    rw [List.countP_cons, List.countP_cons]
    rcases List.mem_cons.1 hx with e | e
    · subst e
      rw [hp, hq]; simp; omega
    · have := ih (fun z hz => h z (by simp [hz])) e
      have hy := h y (by simp)
      cases hpy : p y
      · simp; omega
      · rw [hy hpy]; simp; omega
theorem sumN_le {f g : Nat → Int} {n : Nat} (h : ∀ k, k < n → f k ≤ g k) : sumN f n ≤ sumN g n := by
  induction n with
  | zero => exact Int.le_refl _
  | succ n ih =>
    have h1 := ih fun k hk => h k (by omega)
    have h2 := h n (by omega)
    simp only [sumN]; omega
theorem sumN_one (c S : Int) (hS : 0 ≤ S) (n : Nat) : sumN (fun k => if (k : Int) = c then S else 0) n ≤ S := by
  have key : ∀ m : Nat, sumN (fun k => if (k : Int) = c then S else 0) m ≤ S ∧ (c ≥ m → sumN (fun k => if (k : Int) = c then S else 0) m = 0) := by
    intro m
    induction m with
    | zero => exact ⟨hS, fun _ => rfl⟩
    | succ m ih =>
      simp only [sumN]
      by_cases e : (m : Int) = c
      · rw [if_pos e, ih.2 (by omega)]
        exact ⟨by omega, fun h => by omega⟩
      · rw [if_neg e]
        exact ⟨by omega, fun h => by rw [ih.2 (by omega)]; rfl⟩
  exact (key n).1
theorem sv_in {s : Survey} (hs : SvOk s) : ∀ r ∈ s.readings, (0 ≤ r.from_ ∧ r.from_ < (s.points.toNat : Int)) ∧ (0 ≤ r.to_ ∧ r.to_ < (s.points.toNat : Int)) := fun r hr => by
  have := hs.rd r hr
  omega
/-- How high heights are: they fall over readings, and flows are small. -/
theorem mp {s : Survey} (hs : SvOk s) {F : List Int} {h : Int → Int} {t : Reading → Int} {T0 S B c : Int} (hT0 : 0 ≤ T0) (hS : 0 ≤ S) (ht : ∀ r ∈ s.readings, -T0 ≤ t r ∧ t r ≤ T0)
    (hF : ∀ p ∈ F, dv s.readings (fun r => r.weight * (h r.from_ - h r.to_ + t r)) p ≤ if p = c then S else 0) (hB : ∀ p, p ∉ F → h p ≤ B)
    (hO : ∀ p ∈ F, ∃ q, q ∉ F ∧ Con s s.readings.length p q) : ∀ p ∈ F, h p ≤ B + (F.length : Int) * (T0 + S) := by
  let T := T0 + S
  let cc : Nat → Nat := fun k => F.countP fun p => decide (B + (k : Int) * T < h p)
  have hTk : ∀ k : Nat, 0 ≤ (k : Int) * T := fun k => Int.mul_nonneg (by omega) (by show 0 ≤ T0 + S; omega)
  have hk1 : ∀ k : Nat, ((k + 1 : Nat) : Int) * T = (k : Int) * T + T := fun k => by
    rw [Int.natCast_add, Int.add_mul]; simp
  have key : ∀ k : Nat, cc k = 0 ∨ cc k + k ≤ F.length := by
    intro k
    induction k with
    | zero => right; exact List.countP_le_length
    | succ k ih =>
      by_cases h0 : cc (k + 1) = 0
      · exact .inl h0
      have hpos : 0 < cc (k + 1) := by omega
      obtain ⟨p0, hp0, hp0'⟩ := List.countP_pos_iff.1 hpos
      have hp0' := of_decide_eq_true hp0'
      have hkk := hk1 k
      have mono : ∀ x, B + ((k + 1 : Nat) : Int) * T < h x → B + (k : Int) * T < h x := fun x hx => by
        have hT : 0 ≤ T := by show 0 ≤ T0 + S; omega
        omega
      by_cases hgap : ∃ x ∈ F, B + (k : Int) * T < h x ∧ ¬ B + ((k + 1 : Nat) : Int) * T < h x
      · obtain ⟨x, x1, x2, x3⟩ := hgap
        have hlt : cc (k + 1) < cc k := countP_lt (fun y _ hy => decide_eq_true (mono y (of_decide_eq_true hy))) x1 (decide_eq_true x2) (decide_eq_false x3)
        right
        rcases ih with ih | ih <;> omega
      · exfalso
        have hno : ∀ x ∈ F, B + (k : Int) * T < h x → B + (k : Int) * T + T < h x := fun x hx hlt => by
          by_cases hh : B + ((k + 1 : Nat) : Int) * T < h x
          · omega
          · exact absurd ⟨x, hx, hlt, hh⟩ hgap
        let U : Int → Bool := fun p => decide (p ∈ F ∧ B + (k : Int) * T < h p)
        let g : Int → Int := fun p => if U p = true then 1 else 0
        have hUp : U p0 = true := decide_eq_true ⟨hp0, mono p0 hp0'⟩
        obtain ⟨q, hq1, hq2⟩ := hO p0 hp0
        have hUq : U q = false := decide_eq_false fun hh => hq1 hh.1
        obtain ⟨r, hr, hcr⟩ := cross U hq2 (by rw [hUp, hUq]; simp)
        have hin : ∀ x, U x = true → B + (k : Int) * T + T < h x := fun x hx => hno x (of_decide_eq_true hx).1 (of_decide_eq_true hx).2
        have hout : ∀ x, U x = false → h x ≤ B + (k : Int) * T := fun x hx => by
          have := of_decide_eq_false hx
          by_cases hxF : x ∈ F
          · have : ¬ B + (k : Int) * T < h x := fun hh => this ⟨hxF, hh⟩
            omega
          · have := hB x hxF
            have := hTk k
            omega
        have hg := green s.readings g (fun r => r.weight * (h r.from_ - h r.to_ + t r)) s.points.toNat (sv_in hs)
        have hle : sumN (fun k' => g (k' : Int) * dv s.readings (fun r => r.weight * (h r.from_ - h r.to_ + t r)) (k' : Int)) s.points.toNat ≤ S := by
          refine Int.le_trans (sumN_le (g := fun k' => if (k' : Int) = c then S else 0) fun k' _ => ?_) (sumN_one c S hS _)
          show (if U (k' : Int) = true then (1 : Int) else 0) * _ ≤ _
          cases hU : U (k' : Int)
          · rw [if_neg (by simp), Int.zero_mul]; split <;> omega
          · rw [if_pos rfl, Int.one_mul]; exact hF _ (of_decide_eq_true hU).1
        have hbig : ∀ r ∈ s.readings, U r.from_ ≠ U r.to_ → S < (g r.from_ - g r.to_) * (r.weight * (h r.from_ - h r.to_ + t r)) := fun r hr hne => by
          have hw := (hs.rd r hr).2.2.2.2
          have htr := ht r hr
          have hmul : ∀ x : Int, S < x → S < r.weight * x := fun x hx => by
            have : 0 ≤ (r.weight - 1) * x := Int.mul_nonneg (by omega) (by omega)
            have : r.weight * x = (r.weight - 1) * x + x := by grind
            omega
          show S < ((if U r.from_ = true then (1 : Int) else 0) - (if U r.to_ = true then (1 : Int) else 0)) * _
          cases h1 : U r.from_ <;> cases h2 : U r.to_
          · exact absurd (h1.trans h2.symm) hne
          · rw [if_neg (by simp), if_pos rfl]
            have i1 := hin _ h2
            have i2 := hout _ h1
            have : (0 - 1) * (r.weight * (h r.from_ - h r.to_ + t r)) = r.weight * (h r.to_ - h r.from_ - t r) := by grind
            rw [this]
            exact hmul _ (by have : T = T0 + S := rfl; omega)
          · rw [if_pos rfl, if_neg (by simp)]
            have i1 := hin _ h1
            have i2 := hout _ h2
            have : (1 - 0) * (r.weight * (h r.from_ - h r.to_ + t r)) = r.weight * (h r.from_ - h r.to_ + t r) := by grind
            rw [this]
            exact hmul _ (by have : T = T0 + S := rfl; omega)
          · exact absurd (h1.trans h2.symm) hne
        have hgt := rs_gt (l := s.readings) (f := fun r => (g r.from_ - g r.to_) * (r.weight * (h r.from_ - h r.to_ + t r))) (S := S) (fun r hr => by
          by_cases e : U r.from_ = U r.to_
          · show 0 ≤ ((if U r.from_ = true then (1 : Int) else 0) - (if U r.to_ = true then (1 : Int) else 0)) * _
            rw [e, Int.sub_self, Int.zero_mul]; exact Int.le_refl 0
          · have := hbig r hr e; omega) hr (hbig r hr hcr)
        omega
  intro p hp
  have hz : cc F.length = 0 := by rcases key F.length with h | h <;> omega
  have := List.countP_eq_zero.1 hz p hp
  have : ¬ B + (F.length : Int) * T < h p := fun hh => this (decide_eq_true hh)
  show h p ≤ B + (F.length : Int) * T
  omega
/-- How low heights are. -/
theorem mp_low {s : Survey} (hs : SvOk s) {F : List Int} {h : Int → Int} {t : Reading → Int} {T0 S B c : Int} (hT0 : 0 ≤ T0) (hS : 0 ≤ S) (ht : ∀ r ∈ s.readings, -T0 ≤ t r ∧ t r ≤ T0)
    (hF : ∀ p ∈ F, -(if p = c then S else 0) ≤ dv s.readings (fun r => r.weight * (h r.from_ - h r.to_ + t r)) p) (hB : ∀ p, p ∉ F → B ≤ h p)
    (hO : ∀ p ∈ F, ∃ q, q ∉ F ∧ Con s s.readings.length p q) : ∀ p ∈ F, B - (F.length : Int) * (T0 + S) ≤ h p := fun p hp => by
  have := mp (h := fun p => -h p) (t := fun r => -t r) (T0 := T0) (S := S) (B := -B) (c := c) hs hT0 hS (fun r hr => by have := ht r hr; omega) (fun p hp => by
    have := hF p hp
    have e : dv s.readings (fun r => r.weight * (-h r.from_ - -h r.to_ + -t r)) p = -dv s.readings (fun r => r.weight * (h r.from_ - h r.to_ + t r)) p := by
      rw [← dv_neg]; exact dv_congr (fun r _ => by grind) p
    rw [e]; omega) (fun p hp => by have := hB p hp; omega) hO p hp
  omega
end Go.D1
