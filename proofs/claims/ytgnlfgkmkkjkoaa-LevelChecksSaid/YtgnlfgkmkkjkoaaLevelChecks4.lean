/- Lemmas and walks that the proof of this claim uses: D1m6, D1m7, D1m8, D1m9, D1m10. -/
import Derived.Test.YtgnlfgkmkkjkoaaLevelChecks3
set_option linter.unusedVariables false
set_option linter.unusedSimpArgs false
namespace Go.D1
open Go.Tb Go.Proofs Go.RowKit
theorem Tc19 : callable Try.prog 19 = true := by kernel_rfl
theorem Tc34 : callable Try.prog 34 = true := by kernel_rfl
theorem Tc69 : callable Try.prog 69 = true := by kernel_rfl
theorem Tc74 : callable Try.prog 74 = true := by kernel_rfl
theorem Te28g : Try.prog.eqGuardType Try.prog.depth 28 = false := by kernel_rfl
theorem Te28 (a0 : Int) (a1 : Int) (b0 : Int) (b1 : Int) (w : World) : (Op.equalIn 10000 28 (.agg #[.int .i64 a0, .int .i64 a1]) (.agg #[.int .i64 b0, .int .i64 b1])).run Try.prog w = .ok ((a0 == b0) && (a1 == b1)) w := by
  rw [run_equalIn_agg w 9999 28 _ _ (by kernel_rfl) (by kernel_rfl)]
  simp [Program.fieldsOf, Try.underlying28, Op.eqFields, go_sem]
  by_cases h0 : a0 = b0 <;> by_cases h1 : a1 = b1 <;> simp [h0, h1]
theorem Tz24 : tyZ Try.prog 24 = some (.agg #[.int .i64 0, .slice none 0 0]) := by kernel_rfl
set_option maxRecDepth 20000 in
set_option maxHeartbeats 1000000 in
theorem level_Best_ok {a0 : Survey} {A_a0_readings : Option Addr} {c_a0_readings : Nat} {w : World} {res : (List Rat) × Int} (h_a0_readings : Sl w A_a0_readings c_a0_readings 4 (a0.readings.map encReading)) (F : level_Best a0 = some res) : Calls Try.prog 34 #[.agg #[.int .i64 a0.points, .slice A_a0_readings a0.readings.length c_a0_readings]] w (fun e w' => ∃ (A0 : Option Addr) (c0 : Nat), e = .returned (.tuple #[.slice A0 res.1.length c0, .int .i64 res.2]) ∧ Hp w w' [.own A0 c0 28 2 (List.map encRat res.1)]) := by
  refine calls_of_cw (args := [.agg #[.int .i64 a0.points, .slice A_a0_readings a0.readings.length c_a0_readings]]) Try.func34 rfl rfl rfl rfl ?_
  have H := Hp.start w
  have R0 := H.ext
  unfold level_Best at F
  refine CW.seq fun K1 hK1 => ?_
  refine CW.region ?_
  refine LW.go rfl rfl (OW.box rfl fun b1 w1 N1 => ?_)
  replace H := H.new N1 N1.blk
  replace R0 := H.ext
  refine LW.pure rfl rfl (RV.assign rfl) ?_
  refine LW.pure rfl rfl (RV.assign rfl) ?_
  refine LW.nil (hK1 _ _ ?_)
  refine CW.seq fun K2 hK2 => ?_
  refine CW.seq fun K3 hK3 => ?_
  obtain ⟨r1, hr1, F⟩ := bnd_some F
  refine CW.region ?_
  refine LW.pure rfl rfl (RV.loadA [.int .i64 a0.points, .slice A_a0_readings a0.readings.length c_a0_readings] Tk24 rfl (H.blk 0 rfl).cells rfl rfl) ?_
  refine LW.go rfl rfl (OW.call Tc25 rfl (level_Validate_ok (a0 := a0) (h_a0_readings.ext R0) hr1) ?_)
  rintro _ w2 ⟨rfl, E1⟩
  refine ⟨_, rfl, ?_⟩
  replace H := H.grow E1
  replace R0 := H.ext
  refine LW.pure rfl rfl (RV.assign rfl) ?_
  refine LW.nil (hK3 _ _ ?_)
  refine CW.seq fun K4 hK4 => ?_
  refine CW.region ?_
  refine LW.pure rfl rfl (RV.move rfl) ?_
  refine LW.pure rfl rfl (RV.nei rfl rfl) ?_
  refine LW.nil (hK4 _ _ ?_)
  by_cases hp1 : r1 = 0
  ·
    replace F := ite_y hp1 F
    have hq1 := dec_t hp1
    refine CW.condF rfl (not_f hq1) ?_
    refine CW.skip (hK2 _ _ ?_)
    refine CW.seq fun K5 hK5 => ?_
    obtain ⟨r2, hr2, F⟩ := bnd_some F
    refine CW.region ?_
    refine LW.pure rfl rfl (RV.loadA [.int .i64 a0.points, .slice A_a0_readings a0.readings.length c_a0_readings] Tk24 rfl (H.blk 0 rfl).cells rfl rfl) ?_
    refine LW.go rfl rfl (OW.call Tc74 rfl (level_best_ok (a0 := a0) (h_a0_readings.ext R0) hr2) ?_)
    rintro _ w3 ⟨A6_0, c6_0, rfl, E2⟩
    refine ⟨_, rfl, ?_⟩
    replace H : Hp w w3 [.own A6_0 c6_0 28 2 (List.map encRat r2), .blk b1 24 [.int .i64 a0.points, .slice A_a0_readings a0.readings.length c_a0_readings]] := H.append E2
    replace R0 := H.ext
    refine LW.pure rfl rfl (RV.assign rfl) ?_
    refine LW.pure rfl rfl (RV.assign rfl) ?_
    refine LW.nil (hK5 _ _ ?_)
    refine CW.ret ?_
    obtain rfl := Option.some.inj F
    refine ⟨_, (ResOK.two rfl rfl), ?_⟩
    replace H := H.pick (L' := [.own A6_0 c6_0 28 2 (List.map encRat r2)]) [0] (by decide) rfl
    replace R0 := H.ext
    exact ⟨A6_0, c6_0, (by first | rfl | (simp; done) | (simp; omega)), H⟩
  ·
    replace F := ite_n hp1 F
    have hq1 := dec_f hp1
    refine CW.condT rfl (not_t hq1) ?_
    refine CW.seq fun K6 hK6 => ?_
    refine CW.region ?_
    refine LW.pure rfl rfl (RV.move rfl) ?_
    refine LW.pure rfl rfl (RV.assign rfl) ?_
    refine LW.pure rfl rfl (RV.assign rfl) ?_
    refine LW.nil (hK6 _ _ ?_)
    refine CW.ret ?_
    obtain rfl := Option.some.inj F
    refine ⟨_, (ResOK.two rfl rfl), ?_⟩
    replace H := H.nilOwn 28 2
    replace R0 := H.ext
    replace H := H.pick (L' := [.own none 0 28 2 (List.map encRat (([] : List Rat)))]) [0] (by decide) rfl
    replace R0 := H.ext
    exact ⟨none, 0, (by first | rfl | (simp; done) | (simp; omega)), H⟩
set_option maxRecDepth 20000 in
set_option maxHeartbeats 1000000 in
theorem law01_known_ok {w : World} {res : Bool} (F : law01_known = some res) : Calls Try.prog 18 #[] w (Rt w (.bool res)) := by
  refine calls_of_cw (args := []) Try.func18 rfl rfl rfl rfl ?_
  have H := Hp.start w
  have R0 := H.ext
  unfold law01_known at F
  refine CW.seq fun K1 hK1 => ?_
  refine CW.region ?_
  refine LW.pure rfl rfl (RV.assign rfl) ?_
  refine LW.nil (hK1 _ _ ?_)
  refine CW.seq fun K2 hK2 => ?_
  refine CW.region ?_
  refine LW.pure rfl rfl (RV.build (vs := [.int .i64 0, .int .i64 1, .int .i64 10, .int .i64 1]) (cs := [.int .i64 0, .int .i64 1, .int .i64 10, .int .i64 1]) rfl (fun _ => by kernel_rfl)) ?_
  refine LW.pure rfl rfl (RV.build (vs := [.int .i64 0, .int .i64 1, .int .i64 13, .int .i64 2]) (cs := [.int .i64 0, .int .i64 1, .int .i64 13, .int .i64 2]) rfl (fun _ => by kernel_rfl)) ?_
  refine LW.go rfl rfl (OW.buildSlice (e := 46) (vs := [.agg #[.int .i64 0, .int .i64 1, .int .i64 10, .int .i64 1], .agg #[.int .i64 0, .int .i64 1, .int .i64 13, .int .i64 2]]) (cs := [.int .i64 0, .int .i64 1, .int .i64 10, .int .i64 1, .int .i64 0, .int .i64 1, .int .i64 13, .int .i64 2]) rfl (fun _ => by kernel_rfl) fun b1 w1 N1 => ?_)
  replace H := H.made' (k := 4) (t := 46) (enc := encReading) (l := ([(⟨0, 1, 10, 1⟩ : Reading), (⟨0, 1, 13, 2⟩ : Reading)] : List Reading)) N1 N1.blk (fun _ => rfl) rfl (by first | decide | omega | (simp; done) | (simp; omega))
  replace R0 := H.ext
  refine LW.pure rfl rfl (RV.build (vs := [.int .i64 2, .slice (some ⟨b1, 0, none⟩) 2 ((([(⟨0, 1, 10, 1⟩ : Reading), (⟨0, 1, 13, 2⟩ : Reading)] : List Reading)).length)]) (cs := [.int .i64 2, .slice (some ⟨b1, 0, none⟩) 2 ((([(⟨0, 1, 10, 1⟩ : Reading), (⟨0, 1, 13, 2⟩ : Reading)] : List Reading)).length)]) rfl (fun _ => by kernel_rfl)) ?_
  refine LW.go rfl rfl (OW.alloc Tz24 fun b2 w2 N2 => ?_)
  replace H := H.new N2 N2.blk
  replace R0 := H.ext
  refine LW.go rfl rfl (OW.store Tk24 rfl rfl (H.blk 0 rfl) (off := 0) (vs := [.int .i64 2, .slice (some ⟨b1, 0, none⟩) 2 ((([(⟨0, 1, 10, 1⟩ : Reading), (⟨0, 1, 13, 2⟩ : Reading)] : List Reading)).length)]) rfl rfl rfl rfl rfl fun w3 S1 => ?_)
  replace H : Hp w w3 [.blk b2 24 [.int .i64 2, .slice (some ⟨b1, 0, none⟩) 2 ((([(⟨0, 1, 10, 1⟩ : Reading), (⟨0, 1, 13, 2⟩ : Reading)] : List Reading)).length)], .own (some ⟨b1, 0, none⟩) ((([(⟨0, 1, 10, 1⟩ : Reading), (⟨0, 1, 13, 2⟩ : Reading)] : List Reading)).length) 46 4 (List.map encReading (([(⟨0, 1, 10, 1⟩ : Reading), (⟨0, 1, 13, 2⟩ : Reading)] : List Reading)))] := H.stored 0 rfl S1
  replace R0 := H.ext
  refine LW.nil (hK2 _ _ ?_)
  refine CW.seq fun K3 hK3 => ?_
  obtain ⟨r1, hr1, F⟩ := bnd_some F
  refine CW.region ?_
  refine LW.pure rfl rfl (RV.loadA [.int .i64 2, .slice (some ⟨b1, 0, none⟩) 2 ((([(⟨0, 1, 10, 1⟩ : Reading), (⟨0, 1, 13, 2⟩ : Reading)] : List Reading)).length)] Tk24 rfl (H.blk 0 rfl).cells rfl rfl) ?_
  refine LW.go rfl rfl (OW.call Tc34 (evs_cast rfl (by first | rfl | (simp; done) | (simp; omega))) (level_Best_ok (a0 := (⟨2, ([(⟨0, 1, 10, 1⟩ : Reading), (⟨0, 1, 13, 2⟩ : Reading)] : List Reading)⟩ : Survey)) (H.own 1 rfl).sl hr1) ?_)
  rintro _ w4 ⟨A4_0, c4_0, rfl, E1⟩
  refine ⟨_, rfl, ?_⟩
  replace H : Hp w w4 [.own A4_0 c4_0 28 2 (List.map encRat r1.1), .blk b2 24 [.int .i64 2, .slice (some ⟨b1, 0, none⟩) 2 ((([(⟨0, 1, 10, 1⟩ : Reading), (⟨0, 1, 13, 2⟩ : Reading)] : List Reading)).length)], .own (some ⟨b1, 0, none⟩) ((([(⟨0, 1, 10, 1⟩ : Reading), (⟨0, 1, 13, 2⟩ : Reading)] : List Reading)).length) 46 4 (List.map encReading (([(⟨0, 1, 10, 1⟩ : Reading), (⟨0, 1, 13, 2⟩ : Reading)] : List Reading)))] := H.append E1
  replace R0 := H.ext
  refine LW.pure rfl rfl (RV.move rfl) ?_
  refine LW.pure rfl rfl (RV.extract rfl rfl) ?_
  refine LW.pure rfl rfl (RV.extract rfl rfl) ?_
  refine LW.pure rfl rfl (RV.assign rfl) ?_
  refine LW.pure rfl rfl (RV.assign rfl) ?_
  refine LW.nil (hK3 _ _ ?_)
  refine CW.seq fun K4 hK4 => ?_
  obtain ⟨r2, hr2, F⟩ := bnd_some F
  refine CW.region ?_
  refine LW.pure rfl rfl (RV.loadA [.int .i64 2, .slice (some ⟨b1, 0, none⟩) 2 ((([(⟨0, 1, 10, 1⟩ : Reading), (⟨0, 1, 13, 2⟩ : Reading)] : List Reading)).length)] Tk24 rfl (H.blk 1 rfl).cells rfl rfl) ?_
  refine LW.go rfl rfl (OW.call Tc19 (evs_cast rfl (by first | rfl | (simp; done) | (simp; omega))) (level_Error_ok (a0 := (⟨2, ([(⟨0, 1, 10, 1⟩ : Reading), (⟨0, 1, 13, 2⟩ : Reading)] : List Reading)⟩ : Survey)) (a1 := (0 : Int)) (a2 := (1 : Int)) (H.own 2 rfl).sl hr2) ?_)
  rintro _ w5 ⟨rfl, E2⟩
  refine ⟨_, rfl, ?_⟩
  replace H := H.grow E2
  replace R0 := H.ext
  refine LW.pure rfl rfl (RV.move rfl) ?_
  refine LW.pure rfl rfl (RV.extract rfl rfl) ?_
  refine LW.pure rfl rfl (RV.extract rfl rfl) ?_
  refine LW.go rfl rfl (OW.alloc Tz28 fun b3 w6 N3 => ?_)
  replace H := H.new N3 N3.blk
  replace R0 := H.ext
  refine LW.go rfl rfl (OW.store Tk28 rfl rfl (H.blk 0 rfl) (off := 0) (vs := [.int .i64 r2.1.num, .int .i64 r2.1.den]) rfl rfl rfl rfl rfl fun w7 S2 => ?_)
  replace H : Hp w w7 [.blk b3 28 [.int .i64 r2.1.num, .int .i64 r2.1.den], .own A4_0 c4_0 28 2 (List.map encRat r1.1), .blk b2 24 [.int .i64 2, .slice (some ⟨b1, 0, none⟩) 2 ((([(⟨0, 1, 10, 1⟩ : Reading), (⟨0, 1, 13, 2⟩ : Reading)] : List Reading)).length)], .own (some ⟨b1, 0, none⟩) ((([(⟨0, 1, 10, 1⟩ : Reading), (⟨0, 1, 13, 2⟩ : Reading)] : List Reading)).length) 46 4 (List.map encReading (([(⟨0, 1, 10, 1⟩ : Reading), (⟨0, 1, 13, 2⟩ : Reading)] : List Reading)))] := H.stored 0 rfl S2
  replace R0 := H.ext
  refine LW.pure rfl rfl (RV.assign rfl) ?_
  refine LW.nil (hK4 _ _ ?_)
  refine CW.seq fun K5 hK5 => ?_
  by_cases hp1 : r1.2 = 0
  ·
    replace F := ite_y hp1 F
    have hq1 := dec_t hp1
    by_cases hp2 : ((r1.1.length : Int)) = 2
    ·
      replace F := ite_y hp2 F
      have hq2 := dec_t hp2
      obtain ⟨x1, hbx1, hx1, F⟩ := ix_some F
      by_cases hp3 : ((x1.num == 12) && (x1.den == 1)) = true
      ·
        replace F := ite_y hp3 F
        have hq3 : ((x1.num == 12) && (x1.den == 1)) = true := hp3
        by_cases hp4 : r2.2 = 0
        ·
          replace F := ite_y hp4 F
          have hq4 := dec_t hp4
          refine CW.region ?_
          refine LW.pure rfl rfl (RV.move rfl) ?_
          refine LW.pure rfl rfl (RV.eqi rfl rfl) ?_
          refine LW.pure rfl rfl (RV.move rfl) ?_
          refine LW.pureYB rfl rfl rfl rfl hq1 (RV.move rfl) ?_
          refine LW.pureYB rfl rfl rfl rfl hq1 (RV.len Ts53 rfl) ?_
          refine LW.pureYB rfl rfl rfl rfl hq1 (RV.eqi rfl rfl) ?_
          refine LW.pure rfl rfl (RV.pickTB rfl hq1 rfl) ?_
          refine LW.pure rfl rfl (RV.move rfl) ?_
          refine LW.pureYB rfl rfl rfl rfl hq2 (RV.move rfl) ?_
          refine LW.pureYB rfl rfl rfl rfl hq2 (RV.indexAddr Ts53 rfl rfl hbx1 ((H.own 1 rfl).sl.addr_ hx1)) ?_
          refine LW.pureYB rfl rfl rfl rfl hq2 (RV.loadA [.int .i64 x1.num, .int .i64 x1.den] Tk28 rfl ((H.own 1 rfl).sl.at_ hx1) rfl rfl) ?_
          refine LW.pureYB rfl rfl rfl rfl hq2 (RV.build (vs := [.int .i64 12, .int .i64 1]) (cs := [.int .i64 12, .int .i64 1]) rfl (fun _ => by kernel_rfl)) ?_
          refine LW.pureYB rfl rfl rfl rfl hq2 (RV.eqA Te28g (Te28 _ _ _ _ ) rfl rfl) ?_
          refine LW.pure rfl rfl (RV.pickTB rfl hq2 rfl) ?_
          refine LW.pure rfl rfl (RV.move rfl) ?_
          refine LW.pureYB rfl rfl rfl rfl hq3 (RV.move rfl) ?_
          refine LW.pureYB rfl rfl rfl rfl hq3 (RV.eqi rfl rfl) ?_
          refine LW.pure rfl rfl (RV.pickTB rfl hq3 rfl) ?_
          refine LW.pure rfl rfl (RV.move rfl) ?_
          refine LW.pureYB rfl rfl rfl rfl hq4 (RV.loadA [.int .i64 r2.1.num, .int .i64 r2.1.den] Tk28 rfl (H.blk 0 rfl).cells rfl rfl) ?_
          refine LW.pureYB rfl rfl rfl rfl hq4 (RV.build (vs := [.int .i64 1, .int .i64 3]) (cs := [.int .i64 1, .int .i64 3]) rfl (fun _ => by kernel_rfl)) ?_
          refine LW.pureYB rfl rfl rfl rfl hq4 (RV.eqA Te28g (Te28 _ _ _ _ ) rfl rfl) ?_
          refine LW.pure rfl rfl (RV.pickTB rfl hq4 rfl) ?_
          refine LW.pure rfl rfl (RV.assign rfl) ?_
          refine LW.nil (hK5 _ _ ?_)
          refine CW.ret ?_
          obtain rfl := Option.some.inj F
          refine ⟨_, (ResOK.one rfl), ?_⟩
          refine ⟨(by first | rfl | simp), R0⟩
        ·
          replace F := ite_n hp4 F
          have hq4 := dec_f hp4
          refine CW.region ?_
          refine LW.pure rfl rfl (RV.move rfl) ?_
          refine LW.pure rfl rfl (RV.eqi rfl rfl) ?_
          refine LW.pure rfl rfl (RV.move rfl) ?_
          refine LW.pureYB rfl rfl rfl rfl hq1 (RV.move rfl) ?_
          refine LW.pureYB rfl rfl rfl rfl hq1 (RV.len Ts53 rfl) ?_
          refine LW.pureYB rfl rfl rfl rfl hq1 (RV.eqi rfl rfl) ?_
          refine LW.pure rfl rfl (RV.pickTB rfl hq1 rfl) ?_
          refine LW.pure rfl rfl (RV.move rfl) ?_
          refine LW.pureYB rfl rfl rfl rfl hq2 (RV.move rfl) ?_
          refine LW.pureYB rfl rfl rfl rfl hq2 (RV.indexAddr Ts53 rfl rfl hbx1 ((H.own 1 rfl).sl.addr_ hx1)) ?_
          refine LW.pureYB rfl rfl rfl rfl hq2 (RV.loadA [.int .i64 x1.num, .int .i64 x1.den] Tk28 rfl ((H.own 1 rfl).sl.at_ hx1) rfl rfl) ?_
          refine LW.pureYB rfl rfl rfl rfl hq2 (RV.build (vs := [.int .i64 12, .int .i64 1]) (cs := [.int .i64 12, .int .i64 1]) rfl (fun _ => by kernel_rfl)) ?_
          refine LW.pureYB rfl rfl rfl rfl hq2 (RV.eqA Te28g (Te28 _ _ _ _ ) rfl rfl) ?_
          refine LW.pure rfl rfl (RV.pickTB rfl hq2 rfl) ?_
          refine LW.pure rfl rfl (RV.move rfl) ?_
          refine LW.pureYB rfl rfl rfl rfl hq3 (RV.move rfl) ?_
          refine LW.pureYB rfl rfl rfl rfl hq3 (RV.eqi rfl rfl) ?_
          refine LW.pure rfl rfl (RV.pickTB rfl hq3 rfl) ?_
          refine LW.pure rfl rfl (RV.move rfl) ?_
          refine LW.noB rfl rfl rfl rfl (ne_beq (v := false) hq4 rfl) ?_
          refine LW.noB rfl rfl rfl rfl (ne_beq (v := false) hq4 rfl) ?_
          refine LW.noB rfl rfl rfl rfl (ne_beq (v := false) hq4 rfl) ?_
          refine LW.pure rfl rfl (RV.pickFB rfl hq4 rfl) ?_
          refine LW.pure rfl rfl (RV.assign rfl) ?_
          refine LW.nil (hK5 _ _ ?_)
          refine CW.ret ?_
          obtain rfl := Option.some.inj F
          refine ⟨_, (ResOK.one rfl), ?_⟩
          refine ⟨(by first | rfl | simp), R0⟩
      ·
        replace F := ite_n hp3 F
        have hq3 : ((x1.num == 12) && (x1.den == 1)) = false := raw_f hp3
        refine CW.region ?_
        refine LW.pure rfl rfl (RV.move rfl) ?_
        refine LW.pure rfl rfl (RV.eqi rfl rfl) ?_
        refine LW.pure rfl rfl (RV.move rfl) ?_
        refine LW.pureYB rfl rfl rfl rfl hq1 (RV.move rfl) ?_
        refine LW.pureYB rfl rfl rfl rfl hq1 (RV.len Ts53 rfl) ?_
        refine LW.pureYB rfl rfl rfl rfl hq1 (RV.eqi rfl rfl) ?_
        refine LW.pure rfl rfl (RV.pickTB rfl hq1 rfl) ?_
        refine LW.pure rfl rfl (RV.move rfl) ?_
        refine LW.pureYB rfl rfl rfl rfl hq2 (RV.move rfl) ?_
        refine LW.pureYB rfl rfl rfl rfl hq2 (RV.indexAddr Ts53 rfl rfl hbx1 ((H.own 1 rfl).sl.addr_ hx1)) ?_
        refine LW.pureYB rfl rfl rfl rfl hq2 (RV.loadA [.int .i64 x1.num, .int .i64 x1.den] Tk28 rfl ((H.own 1 rfl).sl.at_ hx1) rfl rfl) ?_
        refine LW.pureYB rfl rfl rfl rfl hq2 (RV.build (vs := [.int .i64 12, .int .i64 1]) (cs := [.int .i64 12, .int .i64 1]) rfl (fun _ => by kernel_rfl)) ?_
        refine LW.pureYB rfl rfl rfl rfl hq2 (RV.eqA Te28g (Te28 _ _ _ _ ) rfl rfl) ?_
        refine LW.pure rfl rfl (RV.pickTB rfl hq2 rfl) ?_
        refine LW.pure rfl rfl (RV.move rfl) ?_
        refine LW.noB rfl rfl rfl rfl (ne_beq (v := false) hq3 rfl) ?_
        refine LW.noB rfl rfl rfl rfl (ne_beq (v := false) hq3 rfl) ?_
        refine LW.pure rfl rfl (RV.pickFB rfl hq3 rfl) ?_
        refine LW.pure rfl rfl (RV.move rfl) ?_
        refine LW.noB rfl rfl rfl rfl (ne_beq (v := false) rfl rfl) ?_
        refine LW.noB rfl rfl rfl rfl (ne_beq (v := false) rfl rfl) ?_
        refine LW.noB rfl rfl rfl rfl (ne_beq (v := false) rfl rfl) ?_
        refine LW.pure rfl rfl (RV.pickFB rfl rfl rfl) ?_
        refine LW.pure rfl rfl (RV.assign rfl) ?_
        refine LW.nil (hK5 _ _ ?_)
        refine CW.ret ?_
        obtain rfl := Option.some.inj F
        refine ⟨_, (ResOK.one rfl), ?_⟩
        refine ⟨(by first | rfl | simp), R0⟩
    ·
      replace F := ite_n hp2 F
      have hq2 := dec_f hp2
      refine CW.region ?_
      refine LW.pure rfl rfl (RV.move rfl) ?_
      refine LW.pure rfl rfl (RV.eqi rfl rfl) ?_
      refine LW.pure rfl rfl (RV.move rfl) ?_
      refine LW.pureYB rfl rfl rfl rfl hq1 (RV.move rfl) ?_
      refine LW.pureYB rfl rfl rfl rfl hq1 (RV.len Ts53 rfl) ?_
      refine LW.pureYB rfl rfl rfl rfl hq1 (RV.eqi rfl rfl) ?_
      refine LW.pure rfl rfl (RV.pickTB rfl hq1 rfl) ?_
      refine LW.pure rfl rfl (RV.move rfl) ?_
      refine LW.noB rfl rfl rfl rfl (ne_beq (v := false) hq2 rfl) ?_
      refine LW.noB rfl rfl rfl rfl (ne_beq (v := false) hq2 rfl) ?_
      refine LW.noB rfl rfl rfl rfl (ne_beq (v := false) hq2 rfl) ?_
      refine LW.noB rfl rfl rfl rfl (ne_beq (v := false) hq2 rfl) ?_
      refine LW.noB rfl rfl rfl rfl (ne_beq (v := false) hq2 rfl) ?_
      refine LW.pure rfl rfl (RV.pickFB rfl hq2 rfl) ?_
      refine LW.pure rfl rfl (RV.move rfl) ?_
      refine LW.noB rfl rfl rfl rfl (ne_beq (v := false) rfl rfl) ?_
      refine LW.noB rfl rfl rfl rfl (ne_beq (v := false) rfl rfl) ?_
      refine LW.pure rfl rfl (RV.pickFB rfl rfl rfl) ?_
      refine LW.pure rfl rfl (RV.move rfl) ?_
      refine LW.noB rfl rfl rfl rfl (ne_beq (v := false) rfl rfl) ?_
      refine LW.noB rfl rfl rfl rfl (ne_beq (v := false) rfl rfl) ?_
      refine LW.noB rfl rfl rfl rfl (ne_beq (v := false) rfl rfl) ?_
      refine LW.pure rfl rfl (RV.pickFB rfl rfl rfl) ?_
      refine LW.pure rfl rfl (RV.assign rfl) ?_
      refine LW.nil (hK5 _ _ ?_)
      refine CW.ret ?_
      obtain rfl := Option.some.inj F
      refine ⟨_, (ResOK.one rfl), ?_⟩
      refine ⟨(by first | rfl | simp), R0⟩
  ·
    replace F := ite_n hp1 F
    have hq1 := dec_f hp1
    refine CW.region ?_
    refine LW.pure rfl rfl (RV.move rfl) ?_
    refine LW.pure rfl rfl (RV.eqi rfl rfl) ?_
    refine LW.pure rfl rfl (RV.move rfl) ?_
    refine LW.noB rfl rfl rfl rfl (ne_beq (v := false) hq1 rfl) ?_
    refine LW.noB rfl rfl rfl rfl (ne_beq (v := false) hq1 rfl) ?_
    refine LW.noB rfl rfl rfl rfl (ne_beq (v := false) hq1 rfl) ?_
    refine LW.pure rfl rfl (RV.pickFB rfl hq1 rfl) ?_
    refine LW.pure rfl rfl (RV.move rfl) ?_
    refine LW.noB rfl rfl rfl rfl (ne_beq (v := false) rfl rfl) ?_
    refine LW.noB rfl rfl rfl rfl (ne_beq (v := false) rfl rfl) ?_
    refine LW.noB rfl rfl rfl rfl (ne_beq (v := false) rfl rfl) ?_
    refine LW.noB rfl rfl rfl rfl (ne_beq (v := false) rfl rfl) ?_
    refine LW.noB rfl rfl rfl rfl (ne_beq (v := false) rfl rfl) ?_
    refine LW.pure rfl rfl (RV.pickFB rfl rfl rfl) ?_
    refine LW.pure rfl rfl (RV.move rfl) ?_
    refine LW.noB rfl rfl rfl rfl (ne_beq (v := false) rfl rfl) ?_
    refine LW.noB rfl rfl rfl rfl (ne_beq (v := false) rfl rfl) ?_
    refine LW.pure rfl rfl (RV.pickFB rfl rfl rfl) ?_
    refine LW.pure rfl rfl (RV.move rfl) ?_
    refine LW.noB rfl rfl rfl rfl (ne_beq (v := false) rfl rfl) ?_
    refine LW.noB rfl rfl rfl rfl (ne_beq (v := false) rfl rfl) ?_
    refine LW.noB rfl rfl rfl rfl (ne_beq (v := false) rfl rfl) ?_
    refine LW.pure rfl rfl (RV.pickFB rfl rfl rfl) ?_
    refine LW.pure rfl rfl (RV.assign rfl) ?_
    refine LW.nil (hK5 _ _ ?_)
    refine CW.ret ?_
    obtain rfl := Option.some.inj F
    refine ⟨_, (ResOK.one rfl), ?_⟩
    refine ⟨(by first | rfl | simp), R0⟩
set_option maxRecDepth 20000 in
set_option maxHeartbeats 1000000 in
theorem law01_Long_ok {a0 : Survey} {A_a0_readings : Option Addr} {c_a0_readings : Nat} {w : World} {res : Bool} (h_a0_readings : Sl w A_a0_readings c_a0_readings 4 (a0.readings.map encReading)) (F : law01_Long a0 = some res) : Calls Try.prog 17 #[.agg #[.int .i64 a0.points, .slice A_a0_readings a0.readings.length c_a0_readings]] w (Rt w (.bool res)) := by
  refine calls_of_cw (args := [.agg #[.int .i64 a0.points, .slice A_a0_readings a0.readings.length c_a0_readings]]) Try.func17 rfl rfl rfl rfl ?_
  have H := Hp.start w
  have R0 := H.ext
  unfold law01_Long at F
  refine CW.seq fun K1 hK1 => ?_
  refine CW.region ?_
  refine LW.go rfl rfl (OW.box rfl fun b1 w1 N1 => ?_)
  replace H := H.new N1 N1.blk
  replace R0 := H.ext
  refine LW.pure rfl rfl (RV.assign rfl) ?_
  refine LW.nil (hK1 _ _ ?_)
  refine CW.seq fun K2 hK2 => ?_
  refine CW.region ?_
  refine LW.pure rfl rfl (RV.fieldAddr Tf24_1 rfl) ?_
  refine LW.pure rfl rfl (RV.load1 Tk22 rfl ((H.blk 0 rfl).cells.off 1) rfl) ?_
  refine LW.pure rfl rfl (RV.len Ts22 rfl) ?_
  refine LW.pure rfl rfl (RV.gtr rfl rfl) ?_
  refine LW.pure rfl rfl (RV.assign rfl) ?_
  refine LW.nil (hK2 _ _ ?_)
  refine CW.ret ?_
  obtain rfl := Option.some.inj F
  refine ⟨_, (ResOK.one rfl), ?_⟩
  refine ⟨(by first | rfl | simp), R0⟩
set_option maxRecDepth 20000 in
set_option maxHeartbeats 1000000 in
theorem ref01_within_ok {a0 : Int} {a1 : Int} {a2 : Int} {w : World} {res : Bool} (F : ref01_within a0 a1 a2 = some res) : Calls Try.prog 69 #[.int .i64 a0, .int .i64 a1, .int .i64 a2] w (Rt w (.bool res)) := by
  refine calls_of_cw (args := [.int .i64 a0, .int .i64 a1, .int .i64 a2]) Try.func69 rfl rfl rfl rfl ?_
  have H := Hp.start w
  have R0 := H.ext
  unfold ref01_within at F
  refine CW.seq fun K1 hK1 => ?_
  refine CW.region ?_
  refine LW.pure rfl rfl (RV.assign rfl) ?_
  refine LW.nil (hK1 _ _ ?_)
  refine CW.seq fun K2 hK2 => ?_
  by_cases hp1 : a1 ≤ a0
  ·
    replace F := ite_y hp1 F
    have hq1 := dec_t hp1
    refine CW.region ?_
    refine LW.pure rfl rfl (RV.move rfl) ?_
    refine LW.pure rfl rfl (RV.move rfl) ?_
    refine LW.pure rfl rfl (RV.geq rfl rfl) ?_
    refine LW.pure rfl rfl (RV.move rfl) ?_
    refine LW.pureYB rfl rfl rfl rfl hq1 (RV.move rfl) ?_
    refine LW.pureYB rfl rfl rfl rfl hq1 (RV.move rfl) ?_
    refine LW.pureYB rfl rfl rfl rfl hq1 (RV.leq rfl rfl) ?_
    refine LW.pure rfl rfl (RV.pickTB rfl hq1 rfl) ?_
    refine LW.pure rfl rfl (RV.assign rfl) ?_
    refine LW.nil (hK2 _ _ ?_)
    refine CW.ret ?_
    obtain rfl := Option.some.inj F
    refine ⟨_, (ResOK.one rfl), ?_⟩
    refine ⟨(by first | rfl | simp), R0⟩
  ·
    replace F := ite_n hp1 F
    have hq1 := dec_f hp1
    refine CW.region ?_
    refine LW.pure rfl rfl (RV.move rfl) ?_
    refine LW.pure rfl rfl (RV.move rfl) ?_
    refine LW.pure rfl rfl (RV.geq rfl rfl) ?_
    refine LW.pure rfl rfl (RV.move rfl) ?_
    refine LW.noB rfl rfl rfl rfl (ne_beq (v := false) hq1 rfl) ?_
    refine LW.noB rfl rfl rfl rfl (ne_beq (v := false) hq1 rfl) ?_
    refine LW.noB rfl rfl rfl rfl (ne_beq (v := false) hq1 rfl) ?_
    refine LW.pure rfl rfl (RV.pickFB rfl hq1 rfl) ?_
    refine LW.pure rfl rfl (RV.assign rfl) ?_
    refine LW.nil (hK2 _ _ ?_)
    refine CW.ret ?_
    obtain rfl := Option.some.inj F
    refine ⟨_, (ResOK.one rfl), ?_⟩
    refine ⟨(by first | rfl | simp), R0⟩
set_option maxRecDepth 20000 in
set_option maxHeartbeats 1000000 in
theorem ref01_Validate_ok {a0 : Survey} {A_a0_readings : Option Addr} {c_a0_readings : Nat} {w : World} {res : Int} (h_a0_readings : Sl w A_a0_readings c_a0_readings 4 (a0.readings.map encReading)) (F : ref01_Validate a0 = some res) : Calls Try.prog 26 #[.agg #[.int .i64 a0.points, .slice A_a0_readings a0.readings.length c_a0_readings]] w (Rt w (.int .i64 res)) := by
  refine calls_of_cw (args := [.agg #[.int .i64 a0.points, .slice A_a0_readings a0.readings.length c_a0_readings]]) Try.func26 rfl rfl rfl rfl ?_
  have H := Hp.start w
  have R0 := H.ext
  unfold ref01_Validate at F
  refine CW.seq fun K1 hK1 => ?_
  refine CW.region ?_
  refine LW.go rfl rfl (OW.box rfl fun b1 w1 N1 => ?_)
  replace H := H.new N1 N1.blk
  replace R0 := H.ext
  refine LW.pure rfl rfl (RV.assign rfl) ?_
  refine LW.nil (hK1 _ _ ?_)
  refine CW.seq fun K2 hK2 => ?_
  refine CW.seq fun K3 hK3 => ?_
  obtain ⟨r5, hr5, F⟩ := bnd_some F
  refine CW.region ?_
  refine LW.pure rfl rfl (RV.fieldAddr Tf24_0 rfl) ?_
  refine LW.pure rfl rfl (RV.load1 Tk3 rfl ((H.blk 0 rfl).cells.off 0) rfl) ?_
  refine LW.go rfl rfl (OW.call Tc69 rfl (ref01_within_ok (a0 := a0.points) (a1 := (1 : Int)) (a2 := (5 : Int)) hr5) ?_)
  rintro _ w2 ⟨rfl, E1⟩
  refine ⟨_, rfl, ?_⟩
  replace H := H.grow E1
  replace R0 := H.ext
  refine LW.pure rfl rfl (RV.not rfl) ?_
  refine LW.nil (hK3 _ _ ?_)
  by_cases hp1 : r5 = true
  ·
    replace F := ite_y hp1 F
    have hq1 : r5 = true := hp1
    refine CW.condF rfl (not_f hq1) ?_
    refine CW.skip (hK2 _ _ ?_)
    refine CW.seq fun K4 hK4 => ?_
    refine CW.seq fun K5 hK5 => ?_
    refine CW.region ?_
    refine LW.pure rfl rfl (RV.fieldAddr Tf24_1 rfl) ?_
    refine LW.pure rfl rfl (RV.load1 Tk22 rfl ((H.blk 0 rfl).cells.off 1) rfl) ?_
    refine LW.pure rfl rfl (RV.len Ts22 rfl) ?_
    refine LW.pure rfl rfl (RV.gtr rfl rfl) ?_
    refine LW.nil (hK5 _ _ ?_)
    by_cases hp2 : (8 : Int) < ((a0.readings.length : Int))
    ·
      replace F := ite_y hp2 F
      have hq2 := dec_t hp2
      refine CW.condT rfl hq2 ?_
      refine CW.seq fun K6 hK6 => ?_
      refine CW.region ?_
      refine LW.pure rfl rfl (RV.assign rfl) ?_
      refine LW.nil (hK6 _ _ ?_)
      refine CW.ret ?_
      obtain rfl := Option.some.inj F
      refine ⟨_, (ResOK.one rfl), ?_⟩
      refine ⟨(by first | rfl | simp), R0⟩
    ·
      replace F := ite_n hp2 F
      have hq2 := dec_f hp2
      refine CW.condF rfl hq2 ?_
      refine CW.skip (hK4 _ _ ?_)
      refine CW.seqJ (fun ρ wl1 => (ref01_Validate_k1 = some res ∧ ρ = [(2, .int .i64 0)] ∧ Hp w wl1 [])) ?_ ?_
      ·
        rintro _ wl1 ⟨F, rfl, H⟩
        have R0 := H.ext
        unfold ref01_Validate_k1 at F
        refine CW.seq fun K7 hK7 => ?_
        refine CW.region ?_
        refine LW.pure rfl rfl (RV.assign rfl) ?_
        refine LW.nil (hK7 _ _ ?_)
        refine CW.ret ?_
        obtain rfl := Option.some.inj F
        refine ⟨_, (ResOK.one rfl), ?_⟩
        refine ⟨(by first | rfl | simp), R0⟩
      ·
        intro K8 hK8 jK74
        refine CW.seq fun K9 hK9 => ?_
        refine CW.region ?_
        refine LW.pure rfl rfl (RV.assign rfl) ?_
        refine LW.nil (hK9 _ _ ?_)
        refine CW.block ?_
        refine CW.loop (fun meas ρ wl2 => ∃ (t3_1 : Int), ref01_Validate_L1 a0 meas t3_1 = some res ∧ ρ = [(1, .pointer (some (⟨b1, 0, none⟩))), (2, .int .i64 0), (3, .int .i64 t3_1)] ∧ Hp w wl2 [.blk b1 24 [.int .i64 a0.points, .slice A_a0_readings a0.readings.length c_a0_readings]]) FU ⟨_, ?_, ((0 : Int)), F, rfl, H⟩ ?_
        · exact ⟨rfl, rfl, rfl, trivial⟩
        rintro mk1 _ wl2 ⟨t3_1, F, rfl, H⟩
        have R0 := H.ext
        replace F := ref01_Validate_L1_s F
        obtain ⟨mk1, rfl, F⟩ := F
        generalize hrec1 : ref01_Validate_L1 a0 mk1 = rec1 at F
        unfold ref01_Validate_B1 at F
        refine CW.seq fun K10 hK10 => ?_
        refine CW.seq fun K11 hK11 => ?_
        refine CW.region ?_
        refine LW.pure rfl rfl (RV.move rfl) ?_
        refine LW.pure rfl rfl (RV.fieldAddr Tf24_1 rfl) ?_
        refine LW.pure rfl rfl (RV.load1 Tk22 rfl ((H.blk 0 rfl).cells.off 1) rfl) ?_
        refine LW.pure rfl rfl (RV.len Ts22 rfl) ?_
        refine LW.pure rfl rfl (RV.lss rfl rfl) ?_
        refine LW.nil (hK11 _ _ ?_)
        by_cases hp3 : t3_1 < ((a0.readings.length : Int))
        ·
          replace F := ite_y hp3 F
          have hq3 := dec_t hp3
          refine CW.condT rfl hq3 ?_
          refine CW.skip (hK10 _ _ ?_)
          refine CW.seq fun K12 hK12 => ?_
          refine CW.block ?_
          refine CW.seq fun K13 hK13 => ?_
          obtain ⟨x1, hbx1, hx1, F⟩ := ix_some F
          refine CW.region ?_
          refine LW.pure rfl rfl (RV.fieldAddr Tf24_1 rfl) ?_
          refine LW.pure rfl rfl (RV.load1 Tk22 rfl ((H.blk 0 rfl).cells.off 1) rfl) ?_
          refine LW.pure rfl rfl (RV.move rfl) ?_
          refine LW.pure rfl rfl (RV.indexAddr Ts22 rfl rfl hbx1 (h_a0_readings.addr_ hx1)) ?_
          refine LW.pure rfl rfl (RV.loadA [.int .i64 x1.from_, .int .i64 x1.to_, .int .i64 x1.rise, .int .i64 x1.weight] Tk46 rfl ((h_a0_readings.at_ hx1).ext R0) rfl rfl) ?_
          refine LW.go rfl rfl (OW.alloc Tz46 fun b2 w3 N2 => ?_)
          replace H := H.new N2 N2.blk
          replace R0 := H.ext
          refine LW.go rfl rfl (OW.store Tk46 rfl rfl (H.blk 0 rfl) (off := 0) (vs := [.int .i64 x1.from_, .int .i64 x1.to_, .int .i64 x1.rise, .int .i64 x1.weight]) rfl rfl rfl rfl rfl fun w4 S1 => ?_)
          replace H : Hp w w4 [.blk b2 46 [.int .i64 x1.from_, .int .i64 x1.to_, .int .i64 x1.rise, .int .i64 x1.weight], .blk b1 24 [.int .i64 a0.points, .slice A_a0_readings a0.readings.length c_a0_readings]] := H.stored 0 rfl S1
          replace R0 := H.ext
          refine LW.nil (hK13 _ _ ?_)
          refine CW.seqJ (fun ρ wl3 => (∃ (t59_1 : Bool), ref01_Validate_k2 t3_1 rec1 t59_1 = some res ∧ ρ = [(1, .pointer (some (⟨b1, 0, none⟩))), (2, .int .i64 0), (3, .int .i64 t3_1), (59, .bool t59_1)] ∧ Hp w wl3 [.blk b1 24 [.int .i64 a0.points, .slice A_a0_readings a0.readings.length c_a0_readings]])) ?_ ?_
          ·
            rintro _ wl3 ⟨t59_1, F, rfl, H⟩
            have R0 := H.ext
            unfold ref01_Validate_k2 at F
            by_cases hp4 : t59_1 = true
            ·
              replace F := ite_y hp4 F
              have hq4 : t59_1 = true := hp4
              refine CW.condT rfl hq4 ?_
              refine CW.seq fun K14 hK14 => ?_
              refine CW.region ?_
              refine LW.pure rfl rfl (RV.assign rfl) ?_
              refine LW.nil (hK14 _ _ ?_)
              refine CW.ret ?_
              obtain rfl := Option.some.inj F
              refine ⟨_, (ResOK.one rfl), ?_⟩
              refine ⟨(by first | rfl | simp), R0⟩
            ·
              replace F := ite_n hp4 F
              have hq4 : t59_1 = false := raw_f hp4
              refine CW.condF rfl hq4 ?_
              refine CW.skip (hK12 _ _ ?_)
              obtain ⟨hg1, F⟩ := gd_some F
              refine CW.region ?_
              refine LW.pure rfl rfl (RV.move rfl) ?_
              refine LW.pure rfl rfl (RV.add rfl rfl hg1) ?_
              refine LW.pure rfl rfl (RV.assign rfl) ?_
              refine LW.nil ?_
              subst hrec1
              refine ⟨mk1, Nat.lt_succ_self _, _, ?_, (t3_1 + 1), F, rfl, H⟩
              exact ⟨rfl, rfl, rfl, trivial⟩
          ·
            intro K15 hK15 jK93
            obtain ⟨hg2, F⟩ := gd_some F
            obtain ⟨r1, hr1, F⟩ := bnd_some F
            by_cases hp5 : r1 = true
            ·
              replace F := ite_y hp5 F
              have hq5 : r1 = true := hp5
              obtain ⟨hg3, F⟩ := gd_some F
              obtain ⟨r2, hr2, F⟩ := bnd_some F
              by_cases hp6 : r2 = true
              ·
                replace F := ite_y hp6 F
                have hq6 : r2 = true := hp6
                by_cases hp7 : x1.from_ = x1.to_
                ·
                  replace F := ite_y hp7 F
                  have hq7 := dec_t hp7
                  refine CW.region ?_
                  refine LW.pure rfl rfl (RV.fieldAddr Tf46_0 rfl) ?_
                  refine LW.pure rfl rfl (RV.load1 Tk3 rfl ((H.blk 0 rfl).cells.off 0) rfl) ?_
                  refine LW.pure rfl rfl (RV.fieldAddr Tf24_0 rfl) ?_
                  refine LW.pure rfl rfl (RV.load1 Tk3 rfl ((H.blk 1 rfl).cells.off 0) rfl) ?_
                  refine LW.pure rfl rfl (RV.sub rfl rfl hg2) ?_
                  refine LW.go rfl rfl (OW.call Tc69 rfl (ref01_within_ok (a0 := x1.from_) (a1 := (0 : Int)) (a2 := a0.points - 1) hr1) ?_)
                  rintro _ w5 ⟨rfl, E2⟩
                  refine ⟨_, rfl, ?_⟩
                  replace H := H.grow E2
                  replace R0 := H.ext
                  refine LW.pure rfl rfl (RV.not rfl) ?_
                  refine LW.pure rfl rfl (RV.move rfl) ?_
                  refine LW.pureYB rfl rfl rfl rfl (not_f hq5) (RV.fieldAddr Tf46_1 rfl) ?_
                  refine LW.pureYB rfl rfl rfl rfl (not_f hq5) (RV.load1 Tk3 rfl ((H.blk 0 rfl).cells.off 1) rfl) ?_
                  refine LW.pureYB rfl rfl rfl rfl (not_f hq5) (RV.fieldAddr Tf24_0 rfl) ?_
                  refine LW.pureYB rfl rfl rfl rfl (not_f hq5) (RV.load1 Tk3 rfl ((H.blk 1 rfl).cells.off 0) rfl) ?_
                  refine LW.pureYB rfl rfl rfl rfl (not_f hq5) (RV.sub rfl rfl hg3) ?_
                  refine LW.yesB rfl rfl rfl rfl (not_f hq5) (OW.call Tc69 rfl (ref01_within_ok (a0 := x1.to_) (a1 := (0 : Int)) (a2 := a0.points - 1) hr2) ?_)
                  rintro _ w6 ⟨rfl, E3⟩
                  refine ⟨_, rfl, ?_⟩
                  replace H := H.grow E3
                  replace R0 := H.ext
                  refine LW.pureYB rfl rfl rfl rfl (not_f hq5) (RV.not rfl) ?_
                  refine LW.pure rfl rfl (RV.pickFB rfl (not_f hq5) rfl) ?_
                  refine LW.pure rfl rfl (RV.move rfl) ?_
                  refine LW.pureYB rfl rfl rfl rfl (not_f hq6) (RV.fieldAddr Tf46_0 rfl) ?_
                  refine LW.pureYB rfl rfl rfl rfl (not_f hq6) (RV.load1 Tk3 rfl ((H.blk 0 rfl).cells.off 0) rfl) ?_
                  refine LW.pureYB rfl rfl rfl rfl (not_f hq6) (RV.fieldAddr Tf46_1 rfl) ?_
                  refine LW.pureYB rfl rfl rfl rfl (not_f hq6) (RV.load1 Tk3 rfl ((H.blk 0 rfl).cells.off 1) rfl) ?_
                  refine LW.pureYB rfl rfl rfl rfl (not_f hq6) (RV.eqi rfl rfl) ?_
                  refine LW.pure rfl rfl (RV.pickFB rfl (not_f hq6) rfl) ?_
                  refine LW.pure rfl rfl (RV.move rfl) ?_
                  refine LW.noB rfl rfl rfl rfl (ne_beq (v := true) hq7 rfl) ?_
                  refine LW.noB rfl rfl rfl rfl (ne_beq (v := true) hq7 rfl) ?_
                  refine LW.noB rfl rfl rfl rfl (ne_beq (v := true) hq7 rfl) ?_
                  refine LW.noB rfl rfl rfl rfl (ne_beq (v := true) hq7 rfl) ?_
                  refine LW.pure rfl rfl (RV.pickTB rfl hq7 rfl) ?_
                  refine LW.pure rfl rfl (RV.move rfl) ?_
                  refine LW.noB rfl rfl rfl rfl (ne_beq (v := true) rfl rfl) ?_
                  refine LW.noB rfl rfl rfl rfl (ne_beq (v := true) rfl rfl) ?_
                  refine LW.noB rfl rfl rfl rfl (ne_beq (v := true) rfl rfl) ?_
                  refine LW.noB rfl rfl rfl rfl (ne_beq (v := true) rfl rfl) ?_
                  refine LW.pure rfl rfl (RV.pickTB rfl rfl rfl) ?_
                  replace H := H.pick (L' := [.blk b1 24 [.int .i64 a0.points, .slice A_a0_readings a0.readings.length c_a0_readings]]) [1] (by decide) rfl
                  replace R0 := H.ext
                  refine LW.nil (jK93 _ _ ⟨_, ?_, ⟨true, F, rfl, H⟩⟩)
                  exact ⟨rfl, rfl, rfl, rfl, trivial⟩
                ·
                  replace F := ite_n hp7 F
                  have hq7 := dec_f hp7
                  obtain ⟨r3, hr3, F⟩ := bnd_some F
                  by_cases hp8 : r3 = true
                  ·
                    replace F := ite_y hp8 F
                    have hq8 : r3 = true := hp8
                    obtain ⟨r4, hr4, F⟩ := bnd_some F
                    refine CW.region ?_
                    refine LW.pure rfl rfl (RV.fieldAddr Tf46_0 rfl) ?_
                    refine LW.pure rfl rfl (RV.load1 Tk3 rfl ((H.blk 0 rfl).cells.off 0) rfl) ?_
                    refine LW.pure rfl rfl (RV.fieldAddr Tf24_0 rfl) ?_
                    refine LW.pure rfl rfl (RV.load1 Tk3 rfl ((H.blk 1 rfl).cells.off 0) rfl) ?_
                    refine LW.pure rfl rfl (RV.sub rfl rfl hg2) ?_
                    refine LW.go rfl rfl (OW.call Tc69 rfl (ref01_within_ok (a0 := x1.from_) (a1 := (0 : Int)) (a2 := a0.points - 1) hr1) ?_)
                    rintro _ w7 ⟨rfl, E4⟩
                    refine ⟨_, rfl, ?_⟩
                    replace H := H.grow E4
                    replace R0 := H.ext
                    refine LW.pure rfl rfl (RV.not rfl) ?_
                    refine LW.pure rfl rfl (RV.move rfl) ?_
                    refine LW.pureYB rfl rfl rfl rfl (not_f hq5) (RV.fieldAddr Tf46_1 rfl) ?_
                    refine LW.pureYB rfl rfl rfl rfl (not_f hq5) (RV.load1 Tk3 rfl ((H.blk 0 rfl).cells.off 1) rfl) ?_
                    refine LW.pureYB rfl rfl rfl rfl (not_f hq5) (RV.fieldAddr Tf24_0 rfl) ?_
                    refine LW.pureYB rfl rfl rfl rfl (not_f hq5) (RV.load1 Tk3 rfl ((H.blk 1 rfl).cells.off 0) rfl) ?_
                    refine LW.pureYB rfl rfl rfl rfl (not_f hq5) (RV.sub rfl rfl hg3) ?_
                    refine LW.yesB rfl rfl rfl rfl (not_f hq5) (OW.call Tc69 rfl (ref01_within_ok (a0 := x1.to_) (a1 := (0 : Int)) (a2 := a0.points - 1) hr2) ?_)
                    rintro _ w8 ⟨rfl, E5⟩
                    refine ⟨_, rfl, ?_⟩
                    replace H := H.grow E5
                    replace R0 := H.ext
                    refine LW.pureYB rfl rfl rfl rfl (not_f hq5) (RV.not rfl) ?_
                    refine LW.pure rfl rfl (RV.pickFB rfl (not_f hq5) rfl) ?_
                    refine LW.pure rfl rfl (RV.move rfl) ?_
                    refine LW.pureYB rfl rfl rfl rfl (not_f hq6) (RV.fieldAddr Tf46_0 rfl) ?_
                    refine LW.pureYB rfl rfl rfl rfl (not_f hq6) (RV.load1 Tk3 rfl ((H.blk 0 rfl).cells.off 0) rfl) ?_
                    refine LW.pureYB rfl rfl rfl rfl (not_f hq6) (RV.fieldAddr Tf46_1 rfl) ?_
                    refine LW.pureYB rfl rfl rfl rfl (not_f hq6) (RV.load1 Tk3 rfl ((H.blk 0 rfl).cells.off 1) rfl) ?_
                    refine LW.pureYB rfl rfl rfl rfl (not_f hq6) (RV.eqi rfl rfl) ?_
                    refine LW.pure rfl rfl (RV.pickFB rfl (not_f hq6) rfl) ?_
                    refine LW.pure rfl rfl (RV.move rfl) ?_
                    refine LW.pureYB rfl rfl rfl rfl hq7 (RV.fieldAddr Tf46_2 rfl) ?_
                    refine LW.pureYB rfl rfl rfl rfl hq7 (RV.load1 Tk3 rfl ((H.blk 0 rfl).cells.off 2) rfl) ?_
                    refine LW.yesB rfl rfl rfl rfl hq7 (OW.call Tc69 rfl (ref01_within_ok (a0 := x1.rise) (a1 := (-1000 : Int)) (a2 := (1000 : Int)) hr3) ?_)
                    rintro _ w9 ⟨rfl, E6⟩
                    refine ⟨_, rfl, ?_⟩
                    replace H := H.grow E6
                    replace R0 := H.ext
                    refine LW.pureYB rfl rfl rfl rfl hq7 (RV.not rfl) ?_
                    refine LW.pure rfl rfl (RV.pickFB rfl hq7 rfl) ?_
                    refine LW.pure rfl rfl (RV.move rfl) ?_
                    refine LW.pureYB rfl rfl rfl rfl (not_f hq8) (RV.fieldAddr Tf46_3 rfl) ?_
                    refine LW.pureYB rfl rfl rfl rfl (not_f hq8) (RV.load1 Tk3 rfl ((H.blk 0 rfl).cells.off 3) rfl) ?_
                    refine LW.yesB rfl rfl rfl rfl (not_f hq8) (OW.call Tc69 rfl (ref01_within_ok (a0 := x1.weight) (a1 := (1 : Int)) (a2 := (3 : Int)) hr4) ?_)
                    rintro _ w10 ⟨rfl, E7⟩
                    refine ⟨_, rfl, ?_⟩
                    replace H := H.grow E7
                    replace R0 := H.ext
                    refine LW.pureYB rfl rfl rfl rfl (not_f hq8) (RV.not rfl) ?_
                    refine LW.pure rfl rfl (RV.pickFB rfl (not_f hq8) rfl) ?_
                    replace H := H.pick (L' := [.blk b1 24 [.int .i64 a0.points, .slice A_a0_readings a0.readings.length c_a0_readings]]) [1] (by decide) rfl
                    replace R0 := H.ext
                    refine LW.nil (jK93 _ _ ⟨_, ?_, ⟨(!r4), F, rfl, H⟩⟩)
                    exact ⟨rfl, rfl, rfl, rfl, trivial⟩
                  ·
                    replace F := ite_n hp8 F
                    have hq8 : r3 = false := raw_f hp8
                    refine CW.region ?_
                    refine LW.pure rfl rfl (RV.fieldAddr Tf46_0 rfl) ?_
                    refine LW.pure rfl rfl (RV.load1 Tk3 rfl ((H.blk 0 rfl).cells.off 0) rfl) ?_
                    refine LW.pure rfl rfl (RV.fieldAddr Tf24_0 rfl) ?_
                    refine LW.pure rfl rfl (RV.load1 Tk3 rfl ((H.blk 1 rfl).cells.off 0) rfl) ?_
                    refine LW.pure rfl rfl (RV.sub rfl rfl hg2) ?_
                    refine LW.go rfl rfl (OW.call Tc69 rfl (ref01_within_ok (a0 := x1.from_) (a1 := (0 : Int)) (a2 := a0.points - 1) hr1) ?_)
                    rintro _ w11 ⟨rfl, E8⟩
                    refine ⟨_, rfl, ?_⟩
                    replace H := H.grow E8
                    replace R0 := H.ext
                    refine LW.pure rfl rfl (RV.not rfl) ?_
                    refine LW.pure rfl rfl (RV.move rfl) ?_
                    refine LW.pureYB rfl rfl rfl rfl (not_f hq5) (RV.fieldAddr Tf46_1 rfl) ?_
                    refine LW.pureYB rfl rfl rfl rfl (not_f hq5) (RV.load1 Tk3 rfl ((H.blk 0 rfl).cells.off 1) rfl) ?_
                    refine LW.pureYB rfl rfl rfl rfl (not_f hq5) (RV.fieldAddr Tf24_0 rfl) ?_
                    refine LW.pureYB rfl rfl rfl rfl (not_f hq5) (RV.load1 Tk3 rfl ((H.blk 1 rfl).cells.off 0) rfl) ?_
                    refine LW.pureYB rfl rfl rfl rfl (not_f hq5) (RV.sub rfl rfl hg3) ?_
                    refine LW.yesB rfl rfl rfl rfl (not_f hq5) (OW.call Tc69 rfl (ref01_within_ok (a0 := x1.to_) (a1 := (0 : Int)) (a2 := a0.points - 1) hr2) ?_)
                    rintro _ w12 ⟨rfl, E9⟩
                    refine ⟨_, rfl, ?_⟩
                    replace H := H.grow E9
                    replace R0 := H.ext
                    refine LW.pureYB rfl rfl rfl rfl (not_f hq5) (RV.not rfl) ?_
                    refine LW.pure rfl rfl (RV.pickFB rfl (not_f hq5) rfl) ?_
                    refine LW.pure rfl rfl (RV.move rfl) ?_
                    refine LW.pureYB rfl rfl rfl rfl (not_f hq6) (RV.fieldAddr Tf46_0 rfl) ?_
                    refine LW.pureYB rfl rfl rfl rfl (not_f hq6) (RV.load1 Tk3 rfl ((H.blk 0 rfl).cells.off 0) rfl) ?_
                    refine LW.pureYB rfl rfl rfl rfl (not_f hq6) (RV.fieldAddr Tf46_1 rfl) ?_
                    refine LW.pureYB rfl rfl rfl rfl (not_f hq6) (RV.load1 Tk3 rfl ((H.blk 0 rfl).cells.off 1) rfl) ?_
                    refine LW.pureYB rfl rfl rfl rfl (not_f hq6) (RV.eqi rfl rfl) ?_
                    refine LW.pure rfl rfl (RV.pickFB rfl (not_f hq6) rfl) ?_
                    refine LW.pure rfl rfl (RV.move rfl) ?_
                    refine LW.pureYB rfl rfl rfl rfl hq7 (RV.fieldAddr Tf46_2 rfl) ?_
                    refine LW.pureYB rfl rfl rfl rfl hq7 (RV.load1 Tk3 rfl ((H.blk 0 rfl).cells.off 2) rfl) ?_
                    refine LW.yesB rfl rfl rfl rfl hq7 (OW.call Tc69 rfl (ref01_within_ok (a0 := x1.rise) (a1 := (-1000 : Int)) (a2 := (1000 : Int)) hr3) ?_)
                    rintro _ w13 ⟨rfl, E10⟩
                    refine ⟨_, rfl, ?_⟩
                    replace H := H.grow E10
                    replace R0 := H.ext
                    refine LW.pureYB rfl rfl rfl rfl hq7 (RV.not rfl) ?_
                    refine LW.pure rfl rfl (RV.pickFB rfl hq7 rfl) ?_
                    refine LW.pure rfl rfl (RV.move rfl) ?_
                    refine LW.noB rfl rfl rfl rfl (ne_beq (v := true) (not_t hq8) rfl) ?_
                    refine LW.noB rfl rfl rfl rfl (ne_beq (v := true) (not_t hq8) rfl) ?_
                    refine LW.noB rfl rfl rfl rfl (ne_beq (v := true) (not_t hq8) rfl) ?_
                    refine LW.noB rfl rfl rfl rfl (ne_beq (v := true) (not_t hq8) rfl) ?_
                    refine LW.pure rfl rfl (RV.pickTB rfl (not_t hq8) rfl) ?_
                    replace H := H.pick (L' := [.blk b1 24 [.int .i64 a0.points, .slice A_a0_readings a0.readings.length c_a0_readings]]) [1] (by decide) rfl
                    replace R0 := H.ext
                    refine LW.nil (jK93 _ _ ⟨_, ?_, ⟨true, F, rfl, H⟩⟩)
                    exact ⟨rfl, rfl, rfl, rfl, trivial⟩
              ·
                replace F := ite_n hp6 F
                have hq6 : r2 = false := raw_f hp6
                refine CW.region ?_
                refine LW.pure rfl rfl (RV.fieldAddr Tf46_0 rfl) ?_
                refine LW.pure rfl rfl (RV.load1 Tk3 rfl ((H.blk 0 rfl).cells.off 0) rfl) ?_
                refine LW.pure rfl rfl (RV.fieldAddr Tf24_0 rfl) ?_
                refine LW.pure rfl rfl (RV.load1 Tk3 rfl ((H.blk 1 rfl).cells.off 0) rfl) ?_
                refine LW.pure rfl rfl (RV.sub rfl rfl hg2) ?_
                refine LW.go rfl rfl (OW.call Tc69 rfl (ref01_within_ok (a0 := x1.from_) (a1 := (0 : Int)) (a2 := a0.points - 1) hr1) ?_)
                rintro _ w14 ⟨rfl, E11⟩
                refine ⟨_, rfl, ?_⟩
                replace H := H.grow E11
                replace R0 := H.ext
                refine LW.pure rfl rfl (RV.not rfl) ?_
                refine LW.pure rfl rfl (RV.move rfl) ?_
                refine LW.pureYB rfl rfl rfl rfl (not_f hq5) (RV.fieldAddr Tf46_1 rfl) ?_
                refine LW.pureYB rfl rfl rfl rfl (not_f hq5) (RV.load1 Tk3 rfl ((H.blk 0 rfl).cells.off 1) rfl) ?_
                refine LW.pureYB rfl rfl rfl rfl (not_f hq5) (RV.fieldAddr Tf24_0 rfl) ?_
                refine LW.pureYB rfl rfl rfl rfl (not_f hq5) (RV.load1 Tk3 rfl ((H.blk 1 rfl).cells.off 0) rfl) ?_
                refine LW.pureYB rfl rfl rfl rfl (not_f hq5) (RV.sub rfl rfl hg3) ?_
                refine LW.yesB rfl rfl rfl rfl (not_f hq5) (OW.call Tc69 rfl (ref01_within_ok (a0 := x1.to_) (a1 := (0 : Int)) (a2 := a0.points - 1) hr2) ?_)
                rintro _ w15 ⟨rfl, E12⟩
                refine ⟨_, rfl, ?_⟩
                replace H := H.grow E12
                replace R0 := H.ext
                refine LW.pureYB rfl rfl rfl rfl (not_f hq5) (RV.not rfl) ?_
                refine LW.pure rfl rfl (RV.pickFB rfl (not_f hq5) rfl) ?_
                refine LW.pure rfl rfl (RV.move rfl) ?_
                refine LW.noB rfl rfl rfl rfl (ne_beq (v := true) (not_t hq6) rfl) ?_
                refine LW.noB rfl rfl rfl rfl (ne_beq (v := true) (not_t hq6) rfl) ?_
                refine LW.noB rfl rfl rfl rfl (ne_beq (v := true) (not_t hq6) rfl) ?_
                refine LW.noB rfl rfl rfl rfl (ne_beq (v := true) (not_t hq6) rfl) ?_
                refine LW.noB rfl rfl rfl rfl (ne_beq (v := true) (not_t hq6) rfl) ?_
                refine LW.pure rfl rfl (RV.pickTB rfl (not_t hq6) rfl) ?_
                refine LW.pure rfl rfl (RV.move rfl) ?_
                refine LW.noB rfl rfl rfl rfl (ne_beq (v := true) rfl rfl) ?_
                refine LW.noB rfl rfl rfl rfl (ne_beq (v := true) rfl rfl) ?_
                refine LW.noB rfl rfl rfl rfl (ne_beq (v := true) rfl rfl) ?_
                refine LW.noB rfl rfl rfl rfl (ne_beq (v := true) rfl rfl) ?_
                refine LW.pure rfl rfl (RV.pickTB rfl rfl rfl) ?_
                refine LW.pure rfl rfl (RV.move rfl) ?_
                refine LW.noB rfl rfl rfl rfl (ne_beq (v := true) rfl rfl) ?_
                refine LW.noB rfl rfl rfl rfl (ne_beq (v := true) rfl rfl) ?_
                refine LW.noB rfl rfl rfl rfl (ne_beq (v := true) rfl rfl) ?_
                refine LW.noB rfl rfl rfl rfl (ne_beq (v := true) rfl rfl) ?_
                refine LW.pure rfl rfl (RV.pickTB rfl rfl rfl) ?_
                replace H := H.pick (L' := [.blk b1 24 [.int .i64 a0.points, .slice A_a0_readings a0.readings.length c_a0_readings]]) [1] (by decide) rfl
                replace R0 := H.ext
                refine LW.nil (jK93 _ _ ⟨_, ?_, ⟨true, F, rfl, H⟩⟩)
                exact ⟨rfl, rfl, rfl, rfl, trivial⟩
            ·
              replace F := ite_n hp5 F
              have hq5 : r1 = false := raw_f hp5
              refine CW.region ?_
              refine LW.pure rfl rfl (RV.fieldAddr Tf46_0 rfl) ?_
              refine LW.pure rfl rfl (RV.load1 Tk3 rfl ((H.blk 0 rfl).cells.off 0) rfl) ?_
              refine LW.pure rfl rfl (RV.fieldAddr Tf24_0 rfl) ?_
              refine LW.pure rfl rfl (RV.load1 Tk3 rfl ((H.blk 1 rfl).cells.off 0) rfl) ?_
              refine LW.pure rfl rfl (RV.sub rfl rfl hg2) ?_
              refine LW.go rfl rfl (OW.call Tc69 rfl (ref01_within_ok (a0 := x1.from_) (a1 := (0 : Int)) (a2 := a0.points - 1) hr1) ?_)
              rintro _ w16 ⟨rfl, E13⟩
              refine ⟨_, rfl, ?_⟩
              replace H := H.grow E13
              replace R0 := H.ext
              refine LW.pure rfl rfl (RV.not rfl) ?_
              refine LW.pure rfl rfl (RV.move rfl) ?_
              refine LW.noB rfl rfl rfl rfl (ne_beq (v := true) (not_t hq5) rfl) ?_
              refine LW.noB rfl rfl rfl rfl (ne_beq (v := true) (not_t hq5) rfl) ?_
              refine LW.noB rfl rfl rfl rfl (ne_beq (v := true) (not_t hq5) rfl) ?_
              refine LW.noB rfl rfl rfl rfl (ne_beq (v := true) (not_t hq5) rfl) ?_
              refine LW.noB rfl rfl rfl rfl (ne_beq (v := true) (not_t hq5) rfl) ?_
              refine LW.noB rfl rfl rfl rfl (ne_beq (v := true) (not_t hq5) rfl) ?_
              refine LW.noB rfl rfl rfl rfl (ne_beq (v := true) (not_t hq5) rfl) ?_
              refine LW.pure rfl rfl (RV.pickTB rfl (not_t hq5) rfl) ?_
              refine LW.pure rfl rfl (RV.move rfl) ?_
              refine LW.noB rfl rfl rfl rfl (ne_beq (v := true) rfl rfl) ?_
              refine LW.noB rfl rfl rfl rfl (ne_beq (v := true) rfl rfl) ?_
              refine LW.noB rfl rfl rfl rfl (ne_beq (v := true) rfl rfl) ?_
              refine LW.noB rfl rfl rfl rfl (ne_beq (v := true) rfl rfl) ?_
              refine LW.noB rfl rfl rfl rfl (ne_beq (v := true) rfl rfl) ?_
              refine LW.pure rfl rfl (RV.pickTB rfl rfl rfl) ?_
              refine LW.pure rfl rfl (RV.move rfl) ?_
              refine LW.noB rfl rfl rfl rfl (ne_beq (v := true) rfl rfl) ?_
              refine LW.noB rfl rfl rfl rfl (ne_beq (v := true) rfl rfl) ?_
              refine LW.noB rfl rfl rfl rfl (ne_beq (v := true) rfl rfl) ?_
              refine LW.noB rfl rfl rfl rfl (ne_beq (v := true) rfl rfl) ?_
              refine LW.pure rfl rfl (RV.pickTB rfl rfl rfl) ?_
              refine LW.pure rfl rfl (RV.move rfl) ?_
              refine LW.noB rfl rfl rfl rfl (ne_beq (v := true) rfl rfl) ?_
              refine LW.noB rfl rfl rfl rfl (ne_beq (v := true) rfl rfl) ?_
              refine LW.noB rfl rfl rfl rfl (ne_beq (v := true) rfl rfl) ?_
              refine LW.noB rfl rfl rfl rfl (ne_beq (v := true) rfl rfl) ?_
              refine LW.pure rfl rfl (RV.pickTB rfl rfl rfl) ?_
              replace H := H.pick (L' := [.blk b1 24 [.int .i64 a0.points, .slice A_a0_readings a0.readings.length c_a0_readings]]) [1] (by decide) rfl
              replace R0 := H.ext
              refine LW.nil (jK93 _ _ ⟨_, ?_, ⟨true, F, rfl, H⟩⟩)
              exact ⟨rfl, rfl, rfl, rfl, trivial⟩
        ·
          replace F := ite_n hp3 F
          have hq3 := dec_f hp3
          refine CW.condF rfl hq3 ?_
          replace H := H.pick (L' := []) [] (by decide) rfl
          replace R0 := H.ext
          refine CW.exit (jK74 _ _ ⟨_, ?_, ⟨F, rfl, H⟩⟩)
          exact ⟨rfl, trivial⟩
  ·
    replace F := ite_n hp1 F
    have hq1 : r5 = false := raw_f hp1
    refine CW.condT rfl (not_t hq1) ?_
    refine CW.seq fun K16 hK16 => ?_
    refine CW.region ?_
    refine LW.pure rfl rfl (RV.assign rfl) ?_
    refine LW.nil (hK16 _ _ ?_)
    refine CW.ret ?_
    obtain rfl := Option.some.inj F
    refine ⟨_, (ResOK.one rfl), ?_⟩
    refine ⟨(by first | rfl | simp), R0⟩
end Go.D1

set_option linter.unusedVariables false
set_option linter.unusedSimpArgs false
namespace Go.D1
open Go.Tb Go.Proofs Go.RowKit
theorem Tc101 : callable Try.prog 101 = true := by kernel_rfl
theorem Tc26 : callable Try.prog 26 = true := by kernel_rfl
theorem Tc67 : callable Try.prog 67 = true := by kernel_rfl
set_option maxRecDepth 20000 in
set_option maxHeartbeats 1000000 in
theorem ref01_roots_ok {a0 : Survey} {a1 : Int} {A_a0_readings : Option Addr} {c_a0_readings : Nat} {w : World} {res : (List Int)} (h_a0_readings : Sl w A_a0_readings c_a0_readings 4 (a0.readings.map encReading)) (F : ref01_roots a0 a1 = some res) : Calls Try.prog 101 #[.agg #[.int .i64 a0.points, .slice A_a0_readings a0.readings.length c_a0_readings], .int .i64 a1] w (fun e w' => ∃ (A0 : Option Addr) (c0 : Nat), e = .returned (.slice A0 res.length c0) ∧ Hp w w' [.own A0 c0 3 1 (List.map encN res)]) := by
  refine calls_of_cw (args := [.agg #[.int .i64 a0.points, .slice A_a0_readings a0.readings.length c_a0_readings], .int .i64 a1]) Try.func101 rfl rfl rfl rfl ?_
  have H := Hp.start w
  have R0 := H.ext
  unfold ref01_roots at F
  refine CW.seq fun K1 hK1 => ?_
  refine CW.region ?_
  refine LW.go rfl rfl (OW.box rfl fun b1 w1 N1 => ?_)
  replace H := H.new N1 N1.blk
  replace R0 := H.ext
  refine LW.pure rfl rfl (RV.assign rfl) ?_
  refine LW.nil (hK1 _ _ ?_)
  refine CW.seq fun K2 hK2 => ?_
  obtain ⟨hg1, F⟩ := gd_some F
  refine CW.region ?_
  refine LW.pure rfl rfl (RV.fieldAddr Tf24_0 rfl) ?_
  refine LW.pure rfl rfl (RV.load1 Tk3 rfl ((H.blk 0 rfl).cells.off 0) rfl) ?_
  refine LW.go rfl rfl (OW.makeR (enc := encN) (0 : Int) Ts39 rfl rfl rfl rfl rfl hg1 (by decide) fun b2 w2 N2 => ?_)
  replace H := H.made' (k := 1) (t := 3) (enc := encN) (l := (List.replicate (Int.toNat a0.points) (0 : Int))) N2 N2.blk (fun _ => rfl) rfl (by first | decide | omega | (simp; done) | (simp; omega))
  replace R0 := H.ext
  refine LW.pure rfl rfl (RV.assign rfl) ?_
  refine LW.nil (hK2 _ _ ?_)
  refine CW.seqJ (fun ρ wl1 => (∃ (l5 : List Int), ref01_roots_k3 a0 a1 l5 = some res ∧ ρ = [(1, .int .i64 a1), (2, .pointer (some (⟨b1, 0, none⟩))), (4, .slice none 0 0), (5, .slice (some ⟨b2, 0, none⟩) l5.length (((List.replicate (Int.toNat a0.points) (0 : Int))).length))] ∧ Hp w wl1 [.own (some ⟨b2, 0, none⟩) (((List.replicate (Int.toNat a0.points) (0 : Int))).length) 3 1 (List.map encN l5), .blk b1 24 [.int .i64 a0.points, .slice A_a0_readings a0.readings.length c_a0_readings]])) ?_ ?_
  ·
    rintro _ wl1 ⟨l5, F, rfl, H⟩
    have R0 := H.ext
    unfold ref01_roots_k3 at F
    refine CW.seqJ (fun ρ wl2 => (∃ (l1 : List Int), ref01_roots_k1 l1 = some res ∧ ρ = [(4, .slice none 0 0), (5, .slice (some ⟨b2, 0, none⟩) l1.length (((List.replicate (Int.toNat a0.points) (0 : Int))).length))] ∧ Hp w wl2 [.own (some ⟨b2, 0, none⟩) (((List.replicate (Int.toNat a0.points) (0 : Int))).length) 3 1 (List.map encN l1)])) ?_ ?_
    ·
      rintro _ wl2 ⟨l1, F, rfl, H⟩
      have R0 := H.ext
      unfold ref01_roots_k1 at F
      refine CW.seq fun K3 hK3 => ?_
      refine CW.region ?_
      refine LW.pure rfl rfl (RV.move rfl) ?_
      refine LW.pure rfl rfl (RV.assign rfl) ?_
      refine LW.nil (hK3 _ _ ?_)
      refine CW.ret ?_
      obtain rfl := Option.some.inj F
      refine ⟨_, (ResOK.one rfl), ?_⟩
      exact ⟨(some ⟨b2, 0, none⟩), (((List.replicate (Int.toNat a0.points) (0 : Int))).length), (by first | rfl | (simp; done) | (simp; omega)), H⟩
    ·
      intro K4 hK4 jK375
      refine CW.seq fun K5 hK5 => ?_
      refine CW.region ?_
      refine LW.pure rfl rfl (RV.assign rfl) ?_
      refine LW.nil (hK5 _ _ ?_)
      refine CW.block ?_
      refine CW.loop (fun meas ρ wl3 => ∃ (t7_3 : Bool) (l4 : List Int), ref01_roots_L2 a0 a1 meas t7_3 l4 = some res ∧ ρ = [(1, .int .i64 a1), (2, .pointer (some (⟨b1, 0, none⟩))), (4, .slice none 0 0), (5, .slice (some ⟨b2, 0, none⟩) l4.length (((List.replicate (Int.toNat a0.points) (0 : Int))).length)), (7, .bool t7_3)] ∧ Hp w wl3 [.own (some ⟨b2, 0, none⟩) (((List.replicate (Int.toNat a0.points) (0 : Int))).length) 3 1 (List.map encN l4), .blk b1 24 [.int .i64 a0.points, .slice A_a0_readings a0.readings.length c_a0_readings]]) FU ⟨_, ?_, true, l5, F, rfl, H⟩ ?_
      · exact ⟨rfl, rfl, rfl, (look_slice rfl (by first | rfl | (simp; done) | omega | (simp; omega))), rfl, trivial⟩
      rintro mk1 _ wl3 ⟨t7_3, l4, F, rfl, H⟩
      have R0 := H.ext
      replace F := ref01_roots_L2_s F
      obtain ⟨mk1, rfl, F⟩ := F
      generalize hrec2 : ref01_roots_L2 a0 a1 mk1 = rec2 at F
      unfold ref01_roots_B2 at F
      refine CW.seq fun K6 hK6 => ?_
      refine CW.seq fun K7 hK7 => ?_
      refine CW.region ?_
      refine LW.pure rfl rfl (RV.move rfl) ?_
      refine LW.nil (hK7 _ _ ?_)
      by_cases hp1 : t7_3 = true
      ·
        replace F := ite_y hp1 F
        have hq1 : t7_3 = true := hp1
        refine CW.condT rfl hq1 ?_
        refine CW.skip (hK6 _ _ ?_)
        refine CW.block ?_
        refine CW.seq fun K8 hK8 => ?_
        refine CW.region ?_
        refine LW.pure rfl rfl (RV.assign rfl) ?_
        refine LW.nil (hK8 _ _ ?_)
        refine CW.seq fun K9 hK9 => ?_
        refine CW.region ?_
        refine LW.pure rfl rfl (RV.assign rfl) ?_
        refine LW.nil (hK9 _ _ ?_)
        refine CW.block ?_
        refine CW.loop (fun meas ρ wl4 => ∃ (t7_2 : Bool) (t8_1 : Int) (l3 : List Int), ref01_roots_L1 a0 a1 rec2 meas t7_2 t8_1 l3 = some res ∧ ρ = [(1, .int .i64 a1), (2, .pointer (some (⟨b1, 0, none⟩))), (4, .slice none 0 0), (5, .slice (some ⟨b2, 0, none⟩) l3.length (((List.replicate (Int.toNat a0.points) (0 : Int))).length)), (7, .bool t7_2), (8, .int .i64 t8_1)] ∧ Hp w wl4 [.own (some ⟨b2, 0, none⟩) (((List.replicate (Int.toNat a0.points) (0 : Int))).length) 3 1 (List.map encN l3), .blk b1 24 [.int .i64 a0.points, .slice A_a0_readings a0.readings.length c_a0_readings]]) FU ⟨_, ?_, false, ((0 : Int)), l4, F, rfl, H⟩ ?_
        · exact ⟨rfl, rfl, rfl, (look_slice rfl (by first | rfl | (simp; done) | omega | (simp; omega))), rfl, rfl, trivial⟩
        rintro mk2 _ wl4 ⟨t7_2, t8_1, l3, F, rfl, H⟩
        have R0 := H.ext
        replace F := ref01_roots_L1_s F
        obtain ⟨mk2, rfl, F⟩ := F
        generalize hrec1 : ref01_roots_L1 a0 a1 rec2 mk2 = rec1 at F
        unfold ref01_roots_B1 at F
        refine CW.seq fun K10 hK10 => ?_
        refine CW.seq fun K11 hK11 => ?_
        refine CW.region ?_
        refine LW.pure rfl rfl (RV.move rfl) ?_
        refine LW.pure rfl rfl (RV.move rfl) ?_
        refine LW.pure rfl rfl (RV.lss rfl rfl) ?_
        refine LW.nil (hK11 _ _ ?_)
        by_cases hp2 : t8_1 < a1
        ·
          replace F := ite_y hp2 F
          have hq2 := dec_t hp2
          refine CW.condT rfl hq2 ?_
          refine CW.skip (hK10 _ _ ?_)
          refine CW.seqJ (fun ρ wl5 => (∃ (t7_1 : Bool) (l2 : List Int), ref01_roots_k2 t8_1 rec1 t7_1 l2 = some res ∧ ρ = [(1, .int .i64 a1), (2, .pointer (some (⟨b1, 0, none⟩))), (4, .slice none 0 0), (5, .slice (some ⟨b2, 0, none⟩) l2.length (((List.replicate (Int.toNat a0.points) (0 : Int))).length)), (7, .bool t7_1), (8, .int .i64 t8_1)] ∧ Hp w wl5 [.own (some ⟨b2, 0, none⟩) (((List.replicate (Int.toNat a0.points) (0 : Int))).length) 3 1 (List.map encN l2), .blk b1 24 [.int .i64 a0.points, .slice A_a0_readings a0.readings.length c_a0_readings]])) ?_ ?_
          ·
            rintro _ wl5 ⟨t7_1, l2, F, rfl, H⟩
            have R0 := H.ext
            unfold ref01_roots_k2 at F
            obtain ⟨hg2, F⟩ := gd_some F
            refine CW.region ?_
            refine LW.pure rfl rfl (RV.move rfl) ?_
            refine LW.pure rfl rfl (RV.add rfl rfl hg2) ?_
            refine LW.pure rfl rfl (RV.assign rfl) ?_
            refine LW.nil ?_
            subst hrec1
            refine ⟨mk2, Nat.lt_succ_self _, _, ?_, t7_1, (t8_1 + 1), l2, F, rfl, H⟩
            exact ⟨rfl, rfl, rfl, (look_slice rfl (by first | rfl | (simp; done) | omega | (simp; omega))), rfl, rfl, trivial⟩
          ·
            intro K12 hK12 jK483
            refine CW.block ?_
            refine CW.seq fun K13 hK13 => ?_
            obtain ⟨x1, hbx1, hx1, F⟩ := ix_some F
            obtain ⟨x2, hbx2, hx2, F⟩ := ix_some F
            refine CW.draw [] (fun _ => True) (.cons 0 1 (.cons 1 1 (.cons 2 1 (.cons 3 1 (.cons 4 1 (.cons 5 1 (.cons 6 1 (.cons 7 1 (.cons 8 1 (.cons 9 1 (.cons 10 1 (.cons 11 1 (.cons 12 1 (.cons 13 1 .nil)))))))))))))) mixed (by kernel_rfl) fun w3 E1 => ?_
            replace H := H.grow E1
            replace R0 := H.ext
            refine DW.fix rfl rfl rfl (fun _ EQ => RV.fieldAddr Tf24_1 rfl) ?_
            refine DW.fix rfl rfl rfl (fun _ EQ => RV.load1 Tk22 rfl (((H.grow EQ).blk 1 rfl).cells.off 1) rfl) ?_
            refine DW.fix rfl rfl rfl (fun _ EQ => RV.move rfl) ?_
            refine DW.fix rfl rfl rfl (fun _ EQ => RV.indexAddr Ts22 rfl rfl hbx1 (h_a0_readings.addr_ hx1)) ?_
            refine DW.fix rfl rfl rfl (fun _ EQ => RV.fieldAddr Tf46_0 rfl) ?_
            refine DW.fix rfl rfl rfl (fun _ EQ => RV.load1 Tk3 rfl (((h_a0_readings.at_ hx1).ext (R0.trans EQ)).off 0) rfl) ?_
            refine DW.fix rfl rfl rfl (fun _ EQ => RV.fieldAddr Tf24_1 rfl) ?_
            refine DW.fix rfl rfl rfl (fun _ EQ => RV.load1 Tk22 rfl (((H.grow EQ).blk 1 rfl).cells.off 1) rfl) ?_
            refine DW.fix rfl rfl rfl (fun _ EQ => RV.move rfl) ?_
            refine DW.fix rfl rfl rfl (fun _ EQ => RV.indexAddr Ts22 rfl rfl hbx2 (h_a0_readings.addr_ hx2)) ?_
            refine DW.fix rfl rfl rfl (fun _ EQ => RV.fieldAddr Tf46_1 rfl) ?_
            refine DW.fix rfl rfl rfl (fun _ EQ => RV.load1 Tk3 rfl (((h_a0_readings.at_ hx2).ext (R0.trans EQ)).off 1) rfl) ?_
            refine DW.fix rfl rfl rfl (fun _ EQ => RV.assign rfl) ?_
            refine DW.fix rfl rfl rfl (fun _ EQ => RV.assign rfl) ?_
            refine DW.nil (hK13 _ _ ?_)
            refine CW.seq fun K14 hK14 => ?_
            obtain ⟨x3, hbx3, hx3, F⟩ := ix_some F
            obtain ⟨x4, hbx4, hx4, F⟩ := ix_some F
            refine CW.draw [] (fun _ => True) (.cons 0 1 (.cons 1 1 (.cons 2 1 (.cons 3 1 (.cons 4 1 (.cons 5 1 (.cons 6 1 (.cons 7 1 (.cons 8 1 .nil))))))))) mixed (by kernel_rfl) fun w4 E2 => ?_
            replace H := H.grow E2
            replace R0 := H.ext
            refine DW.fix rfl rfl rfl (fun _ EQ => RV.move rfl) ?_
            refine DW.fix rfl rfl rfl (fun _ EQ => RV.move rfl) ?_
            refine DW.fix rfl rfl rfl (fun _ EQ => RV.indexAddr Ts39 rfl rfl hbx3 ⟨_, rfl⟩) ?_
            refine DW.fix rfl rfl rfl (fun _ EQ => RV.load1 Tk3 rfl (((H.grow EQ).own 0 rfl).sl.at_ hx3) rfl) ?_
            refine DW.fix rfl rfl rfl (fun _ EQ => RV.move rfl) ?_
            refine DW.fix rfl rfl rfl (fun _ EQ => RV.move rfl) ?_
            refine DW.fix rfl rfl rfl (fun _ EQ => RV.indexAddr Ts39 rfl rfl hbx4 ⟨_, rfl⟩) ?_
            refine DW.fix rfl rfl rfl (fun _ EQ => RV.load1 Tk3 rfl (((H.grow EQ).own 0 rfl).sl.at_ hx4) rfl) ?_
            refine DW.fix rfl rfl rfl (fun _ EQ => RV.nei rfl rfl) ?_
            refine DW.nil (hK14 _ _ ?_)
            by_cases hp3 : x3 = x4
            ·
              replace F := ite_y hp3 F
              have hq3 := dec_t hp3
              refine CW.condF rfl (not_f hq3) ?_
              refine CW.skip (jK483 _ _ ⟨_, ?_, ⟨t7_2, l3, F, rfl, H⟩⟩)
              exact ⟨rfl, rfl, rfl, (look_slice rfl (by first | rfl | (simp; done) | omega | (simp; omega))), rfl, rfl, trivial⟩
            ·
              replace F := ite_n hp3 F
              have hq3 := dec_f hp3
              refine CW.condT rfl (not_t hq3) ?_
              refine CW.seq fun K15 hK15 => ?_
              obtain ⟨x5, hbx5, hx5, F⟩ := ix_some F
              obtain ⟨x6, hbx6, hx6, F⟩ := ix_some F
              refine CW.draw [] (fun _ => True) (.cons 0 1 (.cons 1 1 (.cons 2 1 (.cons 3 1 (.cons 4 1 (.cons 5 1 (.cons 6 1 (.cons 7 1 (.cons 8 1 (.cons 9 1 .nil)))))))))) mixed (by kernel_rfl) fun w5 E3 => ?_
              replace H := H.grow E3
              replace R0 := H.ext
              refine DW.fix rfl rfl rfl (fun _ EQ => RV.move rfl) ?_
              refine DW.fix rfl rfl rfl (fun _ EQ => RV.move rfl) ?_
              refine DW.fix rfl rfl rfl (fun _ EQ => RV.indexAddr Ts39 rfl rfl hbx5 ⟨_, rfl⟩) ?_
              refine DW.fix rfl rfl rfl (fun _ EQ => RV.load1 Tk3 rfl (((H.grow EQ).own 0 rfl).sl.at_ hx5) rfl) ?_
              refine DW.fix rfl rfl rfl (fun _ EQ => RV.move rfl) ?_
              refine DW.fix rfl rfl rfl (fun _ EQ => RV.move rfl) ?_
              refine DW.fix rfl rfl rfl (fun _ EQ => RV.indexAddr Ts39 rfl rfl hbx6 ⟨_, rfl⟩) ?_
              refine DW.fix rfl rfl rfl (fun _ EQ => RV.load1 Tk3 rfl (((H.grow EQ).own 0 rfl).sl.at_ hx6) rfl) ?_
              refine DW.fix rfl rfl rfl (fun _ EQ => RV.min2 rfl rfl) ?_
              refine DW.fix rfl rfl rfl (fun _ EQ => RV.assign rfl) ?_
              refine DW.nil (hK15 _ _ ?_)
              refine CW.seq fun K16 hK16 => ?_
              obtain ⟨x7, hbx7, hx7, F⟩ := ix_some F
              obtain ⟨x8, hbx8, hx8, F⟩ := ix_some F
              refine CW.region ?_
              refine LW.pure rfl rfl (RV.move rfl) ?_
              refine LW.pure rfl rfl (RV.move rfl) ?_
              refine LW.pure rfl rfl (RV.move rfl) ?_
              refine LW.pure rfl rfl (RV.move rfl) ?_
              refine LW.pure rfl rfl (RV.move rfl) ?_
              refine LW.pure rfl rfl (RV.move rfl) ?_
              refine LW.pure rfl rfl (RV.indexAddr Ts39 rfl rfl hbx7 ⟨_, rfl⟩) ?_
              refine LW.go rfl rfl (OW.storeO (enc := encN) (vs := [.int .i64 (min x5 x6)]) 0 (min x5 x6) Tk3 rfl rfl (H.own 0 rfl) (fun _ => rfl) rfl hx7 rfl rfl (by decide) rfl rfl fun w6 M1 O1 => ?_)
              replace H : Hp w w6 [.own (some ⟨b2, 0, none⟩) (((List.replicate (Int.toNat a0.points) (0 : Int))).length) 3 1 (List.map encN ((l3.set (Int.toNat x1.from_) (min x5 x6)))), .blk b1 24 [.int .i64 a0.points, .slice A_a0_readings a0.readings.length c_a0_readings]] := H.mod 0 rfl M1 O1 (.inl rfl)
              replace R0 := H.ext
              refine LW.pure rfl rfl (RV.indexAddr Ts39 rfl rfl (by first | exact hbx8 | (simp at hbx8 ⊢; omega)) ⟨_, rfl⟩) ?_
              refine LW.go rfl rfl (OW.storeO (enc := encN) (vs := [.int .i64 (min x5 x6)]) 0 (min x5 x6) Tk3 rfl rfl (H.own 0 rfl) (fun _ => rfl) rfl hx8 rfl rfl (by decide) rfl rfl fun w7 M2 O2 => ?_)
              replace H : Hp w w7 [.own (some ⟨b2, 0, none⟩) (((List.replicate (Int.toNat a0.points) (0 : Int))).length) 3 1 (List.map encN ((((l3.set (Int.toNat x1.from_) (min x5 x6))).set (Int.toNat x2.to_) (min x5 x6)))), .blk b1 24 [.int .i64 a0.points, .slice A_a0_readings a0.readings.length c_a0_readings]] := H.mod 0 rfl M2 O2 (.inl rfl)
              replace R0 := H.ext
              refine LW.nil (hK16 _ _ ?_)
              refine CW.region ?_
              refine LW.pure rfl rfl (RV.assign rfl) ?_
              refine LW.nil (jK483 _ _ ⟨_, ?_, ⟨true, ((((l3.set (Int.toNat x1.from_) (min x5 x6))).set (Int.toNat x2.to_) (min x5 x6))), F, rfl, H⟩⟩)
              exact ⟨rfl, rfl, rfl, (look_slice rfl (by first | rfl | (simp; done) | omega | (simp; omega))), rfl, rfl, trivial⟩
        ·
          replace F := ite_n hp2 F
          have hq2 := dec_f hp2
          refine CW.condF rfl hq2 ?_
          refine CW.exit ?_
          subst hrec2
          refine ⟨mk1, Nat.lt_succ_self _, _, ?_, t7_2, l3, F, rfl, H⟩
          exact ⟨rfl, rfl, rfl, (look_slice rfl (by first | rfl | (simp; done) | omega | (simp; omega))), rfl, trivial⟩
      ·
        replace F := ite_n hp1 F
        have hq1 : t7_3 = false := raw_f hp1
        refine CW.condF rfl hq1 ?_
        replace H := H.pick (L' := [.own (some ⟨b2, 0, none⟩) (((List.replicate (Int.toNat a0.points) (0 : Int))).length) 3 1 (List.map encN l4)]) [0] (by decide) rfl
        replace R0 := H.ext
        refine CW.exit (jK375 _ _ ⟨_, ?_, ⟨l4, F, rfl, H⟩⟩)
        exact ⟨rfl, (look_slice rfl (by first | rfl | (simp; done) | omega | (simp; omega))), trivial⟩
  ·
    intro K17 hK17 jK488
    refine CW.seq fun K18 hK18 => ?_
    refine CW.region ?_
    refine LW.pure rfl rfl (RV.assign rfl) ?_
    refine LW.nil (hK18 _ _ ?_)
    refine CW.block ?_
    refine CW.loop (fun meas ρ wl6 => ∃ (t6_1 : Int) (l6 : List Int), ref01_roots_L3 a0 a1 meas t6_1 l6 = some res ∧ ρ = [(1, .int .i64 a1), (2, .pointer (some (⟨b1, 0, none⟩))), (4, .slice none 0 0), (5, .slice (some ⟨b2, 0, none⟩) l6.length (((List.replicate (Int.toNat a0.points) (0 : Int))).length)), (6, .int .i64 t6_1)] ∧ Hp w wl6 [.own (some ⟨b2, 0, none⟩) (((List.replicate (Int.toNat a0.points) (0 : Int))).length) 3 1 (List.map encN l6), .blk b1 24 [.int .i64 a0.points, .slice A_a0_readings a0.readings.length c_a0_readings]]) FU ⟨_, ?_, ((0 : Int)), ((List.replicate (Int.toNat a0.points) (0 : Int))), F, rfl, H⟩ ?_
    · exact ⟨rfl, rfl, rfl, (look_slice rfl (by first | rfl | (simp; done) | omega | (simp; omega))), rfl, trivial⟩
    rintro mk3 _ wl6 ⟨t6_1, l6, F, rfl, H⟩
    have R0 := H.ext
    replace F := ref01_roots_L3_s F
    obtain ⟨mk3, rfl, F⟩ := F
    generalize hrec3 : ref01_roots_L3 a0 a1 mk3 = rec3 at F
    unfold ref01_roots_B3 at F
    refine CW.seq fun K19 hK19 => ?_
    refine CW.seq fun K20 hK20 => ?_
    refine CW.region ?_
    refine LW.pure rfl rfl (RV.move rfl) ?_
    refine LW.pure rfl rfl (RV.fieldAddr Tf24_0 rfl) ?_
    refine LW.pure rfl rfl (RV.load1 Tk3 rfl ((H.blk 1 rfl).cells.off 0) rfl) ?_
    refine LW.pure rfl rfl (RV.lss rfl rfl) ?_
    refine LW.nil (hK20 _ _ ?_)
    by_cases hp4 : t6_1 < a0.points
    ·
      replace F := ite_y hp4 F
      have hq4 := dec_t hp4
      refine CW.condT rfl hq4 ?_
      refine CW.skip (hK19 _ _ ?_)
      refine CW.seq fun K21 hK21 => ?_
      refine CW.block ?_
      obtain ⟨x9, hbx9, hx9, F⟩ := ix_some F
      refine CW.region ?_
      refine LW.pure rfl rfl (RV.move rfl) ?_
      refine LW.pure rfl rfl (RV.move rfl) ?_
      refine LW.pure rfl rfl (RV.move rfl) ?_
      refine LW.pure rfl rfl (RV.indexAddr Ts39 rfl rfl hbx9 ⟨_, rfl⟩) ?_
      refine LW.go rfl rfl (OW.storeO (enc := encN) (vs := [.int .i64 t6_1]) 0 (t6_1) Tk3 rfl rfl (H.own 0 rfl) (fun _ => rfl) rfl hx9 rfl rfl (by decide) rfl rfl fun w8 M3 O3 => ?_)
      replace H : Hp w w8 [.own (some ⟨b2, 0, none⟩) (((List.replicate (Int.toNat a0.points) (0 : Int))).length) 3 1 (List.map encN ((l6.set (Int.toNat t6_1) t6_1))), .blk b1 24 [.int .i64 a0.points, .slice A_a0_readings a0.readings.length c_a0_readings]] := H.mod 0 rfl M3 O3 (.inl rfl)
      replace R0 := H.ext
      refine LW.nil (hK21 _ _ ?_)
      obtain ⟨hg3, F⟩ := gd_some F
      refine CW.region ?_
      refine LW.pure rfl rfl (RV.move rfl) ?_
      refine LW.pure rfl rfl (RV.add rfl rfl hg3) ?_
      refine LW.pure rfl rfl (RV.assign rfl) ?_
      refine LW.nil ?_
      subst hrec3
      refine ⟨mk3, Nat.lt_succ_self _, _, ?_, (t6_1 + 1), ((l6.set (Int.toNat t6_1) t6_1)), F, rfl, H⟩
      exact ⟨rfl, rfl, rfl, (look_slice rfl (by first | rfl | (simp; done) | omega | (simp; omega))), rfl, trivial⟩
    ·
      replace F := ite_n hp4 F
      have hq4 := dec_f hp4
      refine CW.condF rfl hq4 ?_
      refine CW.exit (jK488 _ _ ⟨_, ?_, ⟨l6, F, rfl, H⟩⟩)
      exact ⟨rfl, rfl, rfl, (look_slice rfl (by first | rfl | (simp; done) | omega | (simp; omega))), trivial⟩
set_option maxRecDepth 20000 in
set_option maxHeartbeats 1000000 in
theorem ref01_whole_ok {a0 : Survey} {A_a0_readings : Option Addr} {c_a0_readings : Nat} {w : World} {res : (List Int)} (h_a0_readings : Sl w A_a0_readings c_a0_readings 4 (a0.readings.map encReading)) (F : ref01_whole a0 = some res) : Calls Try.prog 67 #[.agg #[.int .i64 a0.points, .slice A_a0_readings a0.readings.length c_a0_readings]] w (fun e w' => ∃ (A0 : Option Addr) (c0 : Nat), e = .returned (.slice A0 res.length c0) ∧ Hp w w' [.own A0 c0 3 1 (List.map encN res)]) := by
  refine calls_of_cw (args := [.agg #[.int .i64 a0.points, .slice A_a0_readings a0.readings.length c_a0_readings]]) Try.func67 rfl rfl rfl rfl ?_
  have H := Hp.start w
  have R0 := H.ext
  unfold ref01_whole at F
  refine CW.seq fun K1 hK1 => ?_
  refine CW.region ?_
  refine LW.go rfl rfl (OW.box rfl fun b1 w1 N1 => ?_)
  replace H := H.new N1 N1.blk
  replace R0 := H.ext
  refine LW.pure rfl rfl (RV.assign rfl) ?_
  refine LW.nil (hK1 _ _ ?_)
  refine CW.seq fun K2 hK2 => ?_
  obtain ⟨r1, hr1, F⟩ := bnd_some F
  refine CW.region ?_
  refine LW.pure rfl rfl (RV.loadA [.int .i64 a0.points, .slice A_a0_readings a0.readings.length c_a0_readings] Tk24 rfl (H.blk 0 rfl).cells rfl rfl) ?_
  refine LW.pure rfl rfl (RV.fieldAddr Tf24_1 rfl) ?_
  refine LW.pure rfl rfl (RV.load1 Tk22 rfl ((H.blk 0 rfl).cells.off 1) rfl) ?_
  refine LW.pure rfl rfl (RV.len Ts22 rfl) ?_
  refine LW.go rfl rfl (OW.call Tc101 rfl (ref01_roots_ok (a0 := a0) (a1 := (a0.readings.length : Int)) (h_a0_readings.ext R0) hr1) ?_)
  rintro _ w2 ⟨A3_0, c3_0, rfl, E1⟩
  refine ⟨_, rfl, ?_⟩
  replace H : Hp w w2 [.own A3_0 c3_0 3 1 (List.map encN r1), .blk b1 24 [.int .i64 a0.points, .slice A_a0_readings a0.readings.length c_a0_readings]] := H.append E1
  replace R0 := H.ext
  refine LW.pure rfl rfl (RV.assign rfl) ?_
  refine LW.nil (hK2 _ _ ?_)
  refine CW.ret ?_
  obtain rfl := Option.some.inj F
  refine ⟨_, (ResOK.one rfl), ?_⟩
  replace H := H.pick (L' := [.own A3_0 c3_0 3 1 (List.map encN r1)]) [0] (by decide) rfl
  replace R0 := H.ext
  exact ⟨A3_0, c3_0, (by first | rfl | (simp; done) | (simp; omega)), H⟩
end Go.D1

set_option linter.unusedVariables false
set_option linter.unusedSimpArgs false
namespace Go.D1
open Go.Tb Go.Proofs Go.RowKit
theorem Tc17 : callable Try.prog 17 = true := by kernel_rfl
theorem Tc18 : callable Try.prog 18 = true := by kernel_rfl
end Go.D1

set_option linter.unusedVariables false
set_option linter.unusedSimpArgs false
namespace Go.D1
open Go.Tb Go.Proofs Go.RowKit
set_option maxRecDepth 20000 in
set_option maxHeartbeats 1000000 in
theorem ref01_laplace_ok {a0 : Survey} {a1 : List Int} {A_a0_readings : Option Addr} {c_a0_readings : Nat} {A_a1 : Option Addr} {c_a1 : Nat} {w : World} {res : (List (List Int))} (h_a0_readings : Sl w A_a0_readings c_a0_readings 4 (a0.readings.map encReading)) (h_a1 : Sl w A_a1 c_a1 1 (a1.map encN)) (F : ref01_laplace a0 a1 = some res) : Calls Try.prog 100 #[.agg #[.int .i64 a0.points, .slice A_a0_readings a0.readings.length c_a0_readings], .slice A_a1 a1.length c_a1] w (fun e w' => ∃ (A1 : Option Addr) (c1 : Nat) (hs0 : List (Option Addr × Nat)), e = .returned (.slice A1 res.length c1) ∧ Hp w w' [.tab A1 c1 39 hs0 3 1 (encM encN res)]) := by
  refine calls_of_cw (args := [.agg #[.int .i64 a0.points, .slice A_a0_readings a0.readings.length c_a0_readings], .slice A_a1 a1.length c_a1]) Try.func100 rfl rfl rfl rfl ?_
  have H := Hp.start w
  have R0 := H.ext
  unfold ref01_laplace at F
  refine CW.seq fun K1 hK1 => ?_
  refine CW.region ?_
  refine LW.go rfl rfl (OW.box rfl fun b1 w1 N1 => ?_)
  replace H := H.new N1 N1.blk
  replace R0 := H.ext
  refine LW.pure rfl rfl (RV.assign rfl) ?_
  refine LW.nil (hK1 _ _ ?_)
  refine CW.seq fun K2 hK2 => ?_
  refine CW.region ?_
  refine LW.pure rfl rfl (RV.assign rfl) ?_
  refine LW.nil (hK2 _ _ ?_)
  refine CW.seqJ (fun ρ wl1 => (∃ (m1 : List (List Int)) (hsm1 : List (Option Addr × Nat)) (Am1 : Option Addr) (cm1 : Nat), ref01_laplace_k1 m1 = some res ∧ ρ = [(4, .slice none 0 0), (5, .slice Am1 m1.length cm1)] ∧ Hp w wl1 [.tab Am1 cm1 39 hsm1 3 1 (encM encN m1)])) ?_ ?_
  ·
    rintro _ wl1 ⟨m1, hsm1, Am1, cm1, F, rfl, H⟩
    have R0 := H.ext
    unfold ref01_laplace_k1 at F
    refine CW.seq fun K3 hK3 => ?_
    refine CW.region ?_
    refine LW.pure rfl rfl (RV.move rfl) ?_
    refine LW.pure rfl rfl (RV.assign rfl) ?_
    refine LW.nil (hK3 _ _ ?_)
    refine CW.ret ?_
    obtain rfl := Option.some.inj F
    refine ⟨_, (ResOK.one rfl), ?_⟩
    exact ⟨Am1, cm1, hsm1, (by first | rfl | (simp; done) | (simp; omega)), H⟩
  ·
    intro K4 hK4 jK9074
    refine CW.seq fun K5 hK5 => ?_
    refine CW.region ?_
    refine LW.pure rfl rfl (RV.assign rfl) ?_
    refine LW.nil (hK5 _ _ ?_)
    refine CW.block ?_
    replace H := H.nilTab encN 39 3 1
    replace R0 := H.ext
    refine CW.loop (fun meas ρ wl2 => ∃ (t6_1 : Int) (m3 : List (List Int)) (hsm3 : List (Option Addr × Nat)) (Am3 : Option Addr) (cm3 : Nat), ref01_laplace_L3 a0 a1 meas t6_1 m3 = some res ∧ ρ = [(1, .slice A_a1 a1.length c_a1), (2, .pointer (some (⟨b1, 0, none⟩))), (4, .slice none 0 0), (5, .slice Am3 m3.length cm3), (6, .int .i64 t6_1)] ∧ Hp w wl2 [.tab Am3 cm3 39 hsm3 3 1 (encM encN m3), .blk b1 24 [.int .i64 a0.points, .slice A_a0_readings a0.readings.length c_a0_readings]]) FU ⟨_, ?_, ((0 : Int)), (([] : List (List Int))), ([]), none, 0, F, rfl, H⟩ ?_
    · exact ⟨rfl, rfl, rfl, (look_slice rfl (by first | rfl | (simp; done) | omega | (simp; omega))), rfl, trivial⟩
    rintro mk1 _ wl2 ⟨t6_1, m3, hsm3, Am3, cm3, F, rfl, H⟩
    have R0 := H.ext
    replace F := ref01_laplace_L3_s F
    obtain ⟨mk1, rfl, F⟩ := F
    generalize hrec1 : ref01_laplace_L3 a0 a1 mk1 = rec1 at F
    unfold ref01_laplace_B3 at F
    refine CW.seq fun K6 hK6 => ?_
    refine CW.seq fun K7 hK7 => ?_
    refine CW.region ?_
    refine LW.pure rfl rfl (RV.move rfl) ?_
    refine LW.pure rfl rfl (RV.move rfl) ?_
    refine LW.pure rfl rfl (RV.len Ts39 rfl) ?_
    refine LW.pure rfl rfl (RV.lss rfl rfl) ?_
    refine LW.nil (hK7 _ _ ?_)
    by_cases hp1 : t6_1 < ((a1.length : Int))
    ·
      replace F := ite_y hp1 F
      have hq1 := dec_t hp1
      refine CW.condT rfl hq1 ?_
      refine CW.skip (hK6 _ _ ?_)
      refine CW.seqJ (fun ρ wl3 => (∃ (m2 : List (List Int)) (hsm2 : List (Option Addr × Nat)) (Am2 : Option Addr) (cm2 : Nat), ref01_laplace_k2 t6_1 rec1 m2 = some res ∧ ρ = [(1, .slice A_a1 a1.length c_a1), (2, .pointer (some (⟨b1, 0, none⟩))), (4, .slice none 0 0), (5, .slice Am2 m2.length cm2), (6, .int .i64 t6_1)] ∧ Hp w wl3 [.tab Am2 cm2 39 hsm2 3 1 (encM encN m2), .blk b1 24 [.int .i64 a0.points, .slice A_a0_readings a0.readings.length c_a0_readings]])) ?_ ?_
      ·
        rintro _ wl3 ⟨m2, hsm2, Am2, cm2, F, rfl, H⟩
        have R0 := H.ext
        unfold ref01_laplace_k2 at F
        obtain ⟨hg1, F⟩ := gd_some F
        refine CW.region ?_
        refine LW.pure rfl rfl (RV.move rfl) ?_
        refine LW.pure rfl rfl (RV.add rfl rfl hg1) ?_
        refine LW.pure rfl rfl (RV.assign rfl) ?_
        refine LW.nil ?_
        subst hrec1
        refine ⟨mk1, Nat.lt_succ_self _, _, ?_, (t6_1 + 1), m2, hsm2, Am2, cm2, F, rfl, H⟩
        exact ⟨rfl, rfl, rfl, (look_slice rfl (by first | rfl | (simp; done) | omega | (simp; omega))), rfl, trivial⟩
      ·
        intro K8 hK8 jK11594
        refine CW.block ?_
        refine CW.seq fun K9 hK9 => ?_
        obtain ⟨hg2, F⟩ := gd_some F
        refine CW.region ?_
        refine LW.pure rfl rfl (RV.move rfl) ?_
        refine LW.pure rfl rfl (RV.len Ts39 rfl) ?_
        refine LW.go rfl rfl (OW.makeR (enc := encN) (0 : Int) Ts39 rfl rfl rfl rfl rfl hg2 (by decide) fun b2 w2 N2 => ?_)
        replace H := H.made' (k := 1) (t := 3) (enc := encN) (l := (List.replicate (Int.toNat ((a1.length : Int))) (0 : Int))) N2 N2.blk (fun _ => rfl) rfl (by first | decide | omega | (simp; done) | (simp; omega))
        replace R0 := H.ext
        refine LW.pure rfl rfl (RV.assign rfl) ?_
        refine LW.nil (hK9 _ _ ?_)
        refine CW.seqJ (fun ρ wl4 => (∃ (l1 : List Int), ref01_laplace_k3 t6_1 m3 rec1 l1 = some res ∧ ρ = [(1, .slice A_a1 a1.length c_a1), (2, .pointer (some (⟨b1, 0, none⟩))), (4, .slice none 0 0), (5, .slice Am3 m3.length cm3), (6, .int .i64 t6_1), (7, .slice (some ⟨b2, 0, none⟩) l1.length (((List.replicate (Int.toNat ((a1.length : Int))) (0 : Int))).length))] ∧ Hp w wl4 [.tab Am3 cm3 39 hsm3 3 1 (encM encN m3), .own (some ⟨b2, 0, none⟩) (((List.replicate (Int.toNat ((a1.length : Int))) (0 : Int))).length) 3 1 (List.map encN l1), .blk b1 24 [.int .i64 a0.points, .slice A_a0_readings a0.readings.length c_a0_readings]])) ?_ ?_
        ·
          rintro _ wl4 ⟨l1, F, rfl, H⟩
          have R0 := H.ext
          unfold ref01_laplace_k3 at F
          obtain ⟨hg3, F⟩ := gd_some F
          refine CW.region ?_
          refine LW.pure rfl rfl (RV.move rfl) ?_
          refine LW.pure rfl rfl (RV.move rfl) ?_
          refine LW.go rfl rfl (OW.buildSlice (e := 39) (vs := [.slice (some ⟨b2, 0, none⟩) l1.length (((List.replicate (Int.toNat ((a1.length : Int))) (0 : Int))).length)]) (cs := [.slice (some ⟨b2, 0, none⟩) l1.length (((List.replicate (Int.toNat ((a1.length : Int))) (0 : Int))).length)]) rfl (fun _ => by kernel_rfl) fun b3 w3 N3 => ?_)
          replace H := H.made' (k := 1) (t := 39) (enc := encH) (l := ([((some ⟨b2, 0, none⟩, ((List.replicate (Int.toNat ((a1.length : Int))) (0 : Int))).length), List.map encN l1)] : List ((Option Addr × Nat) × List (List Value)))) N3 (by have q := N3.blk; simp only [List.flatMap_cons, List.flatMap_nil, encH, List.length_map, List.append_nil, List.cons_append, List.nil_append]; first | done | exact q) (fun _ => rfl) rfl (by first | decide | omega | (simp; done) | (simp; omega))
          replace R0 := H.ext
          refine LW.go rfl rfl (OW.appendT (enc := encN) (m := m3) (l := l1) Ts36 rfl rfl (H.tab 1 rfl) (H.own 0 rfl).sl rfl hg3 (by decide) fun A2 c2 w4 O1 M1 D1 => ?_)
          replace H : Hp w w4 [.own (some ⟨b3, 0, none⟩) ((([((some ⟨b2, 0, none⟩, ((List.replicate (Int.toNat ((a1.length : Int))) (0 : Int))).length), List.map encN l1)] : List ((Option Addr × Nat) × List (List Value)))).length) 39 1 (List.map encH (([((some ⟨b2, 0, none⟩, ((List.replicate (Int.toNat ((a1.length : Int))) (0 : Int))).length), List.map encN l1)] : List ((Option Addr × Nat) × List (List Value))))), .tab A2 c2 39 ((hsm3 ++ [(some ⟨b2, 0, none⟩, ((List.replicate (Int.toNat ((a1.length : Int))) (0 : Int))).length)])) 3 1 (encM encN ((m3 ++ [l1]))), .blk b1 24 [.int .i64 a0.points, .slice A_a0_readings a0.readings.length c_a0_readings]] := H.tabPush 1 2 (by decide) rfl rfl M1 D1 O1
          replace R0 := H.ext
          refine LW.pure rfl rfl (RV.assign rfl) ?_
          replace H := H.pick (L' := [.tab A2 c2 39 ((hsm3 ++ [(some ⟨b2, 0, none⟩, ((List.replicate (Int.toNat ((a1.length : Int))) (0 : Int))).length)])) 3 1 (encM encN ((m3 ++ [l1]))), .blk b1 24 [.int .i64 a0.points, .slice A_a0_readings a0.readings.length c_a0_readings]]) [1, 2] (by decide) rfl
          replace R0 := H.ext
          refine LW.nil (jK11594 _ _ ⟨_, ?_, ⟨((m3 ++ [l1])), ((hsm3 ++ [(some ⟨b2, 0, none⟩, ((List.replicate (Int.toNat ((a1.length : Int))) (0 : Int))).length)])), A2, c2, F, rfl, H⟩⟩)
          exact ⟨rfl, rfl, rfl, (look_slice rfl (by first | rfl | (simp; done) | omega | (simp; omega))), rfl, trivial⟩
        ·
          intro K10 hK10 jK11846
          refine CW.seq fun K11 hK11 => ?_
          refine CW.region ?_
          refine LW.pure rfl rfl (RV.assign rfl) ?_
          refine LW.nil (hK11 _ _ ?_)
          refine CW.block ?_
          replace H := H.pick (L' := [.tab Am3 cm3 39 hsm3 3 1 (encM encN m3), .own (some ⟨b2, 0, none⟩) (((List.replicate (Int.toNat ((a1.length : Int))) (0 : Int))).length) 3 1 (List.map encN ((List.replicate (Int.toNat ((a1.length : Int))) (0 : Int)))), .blk b1 24 [.int .i64 a0.points, .slice A_a0_readings a0.readings.length c_a0_readings]]) [1, 0, 2] (by decide) rfl
          replace R0 := H.ext
          refine CW.loop (fun meas ρ wl5 => ∃ (t8_1 : Int) (l6 : List Int), ref01_laplace_L2 a0 a1 t6_1 m3 rec1 meas t8_1 l6 = some res ∧ ρ = [(1, .slice A_a1 a1.length c_a1), (2, .pointer (some (⟨b1, 0, none⟩))), (4, .slice none 0 0), (5, .slice Am3 m3.length cm3), (6, .int .i64 t6_1), (7, .slice (some ⟨b2, 0, none⟩) l6.length (((List.replicate (Int.toNat ((a1.length : Int))) (0 : Int))).length)), (8, .int .i64 t8_1)] ∧ Hp w wl5 [.tab Am3 cm3 39 hsm3 3 1 (encM encN m3), .own (some ⟨b2, 0, none⟩) (((List.replicate (Int.toNat ((a1.length : Int))) (0 : Int))).length) 3 1 (List.map encN l6), .blk b1 24 [.int .i64 a0.points, .slice A_a0_readings a0.readings.length c_a0_readings]]) FU ⟨_, ?_, ((0 : Int)), ((List.replicate (Int.toNat ((a1.length : Int))) (0 : Int))), F, rfl, H⟩ ?_
          · exact ⟨rfl, rfl, rfl, (look_slice rfl (by first | rfl | (simp; done) | omega | (simp; omega))), rfl, (look_slice rfl (by first | rfl | (simp; done) | omega | (simp; omega))), rfl, trivial⟩
          rintro mk2 _ wl5 ⟨t8_1, l6, F, rfl, H⟩
          have R0 := H.ext
          replace F := ref01_laplace_L2_s F
          obtain ⟨mk2, rfl, F⟩ := F
          generalize hrec2 : ref01_laplace_L2 a0 a1 t6_1 m3 rec1 mk2 = rec2 at F
          unfold ref01_laplace_B2 at F
          refine CW.seq fun K12 hK12 => ?_
          refine CW.seq fun K13 hK13 => ?_
          refine CW.region ?_
          refine LW.pure rfl rfl (RV.move rfl) ?_
          refine LW.pure rfl rfl (RV.move rfl) ?_
          refine LW.pure rfl rfl (RV.len Ts39 rfl) ?_
          refine LW.pure rfl rfl (RV.lss rfl rfl) ?_
          refine LW.nil (hK13 _ _ ?_)
          by_cases hp2 : t8_1 < ((a1.length : Int))
          ·
            replace F := ite_y hp2 F
            have hq2 := dec_t hp2
            refine CW.condT rfl hq2 ?_
            refine CW.skip (hK12 _ _ ?_)
            refine CW.seqJ (fun ρ wl6 => (∃ (l2 : List Int), ref01_laplace_k4 t8_1 rec2 l2 = some res ∧ ρ = [(1, .slice A_a1 a1.length c_a1), (2, .pointer (some (⟨b1, 0, none⟩))), (4, .slice none 0 0), (5, .slice Am3 m3.length cm3), (6, .int .i64 t6_1), (7, .slice (some ⟨b2, 0, none⟩) l2.length (((List.replicate (Int.toNat ((a1.length : Int))) (0 : Int))).length)), (8, .int .i64 t8_1)] ∧ Hp w wl6 [.tab Am3 cm3 39 hsm3 3 1 (encM encN m3), .own (some ⟨b2, 0, none⟩) (((List.replicate (Int.toNat ((a1.length : Int))) (0 : Int))).length) 3 1 (List.map encN l2), .blk b1 24 [.int .i64 a0.points, .slice A_a0_readings a0.readings.length c_a0_readings]])) ?_ ?_
            ·
              rintro _ wl6 ⟨l2, F, rfl, H⟩
              have R0 := H.ext
              unfold ref01_laplace_k4 at F
              obtain ⟨hg4, F⟩ := gd_some F
              refine CW.region ?_
              refine LW.pure rfl rfl (RV.move rfl) ?_
              refine LW.pure rfl rfl (RV.add rfl rfl hg4) ?_
              refine LW.pure rfl rfl (RV.assign rfl) ?_
              refine LW.nil ?_
              subst hrec2
              refine ⟨mk2, Nat.lt_succ_self _, _, ?_, (t8_1 + 1), l2, F, rfl, H⟩
              exact ⟨rfl, rfl, rfl, (look_slice rfl (by first | rfl | (simp; done) | omega | (simp; omega))), rfl, (look_slice rfl (by first | rfl | (simp; done) | omega | (simp; omega))), rfl, trivial⟩
            ·
              intro K14 hK14 jK12056
              refine CW.block ?_
              refine CW.seq fun K15 hK15 => ?_
              refine CW.region ?_
              refine LW.pure rfl rfl (RV.assign rfl) ?_
              refine LW.nil (hK15 _ _ ?_)
              refine CW.block ?_
              refine CW.loop (fun meas ρ wl7 => ∃ (t9_1 : Int) (l5 : List Int), ref01_laplace_L1 a0 a1 t6_1 t8_1 rec2 meas t9_1 l5 = some res ∧ ρ = [(1, .slice A_a1 a1.length c_a1), (2, .pointer (some (⟨b1, 0, none⟩))), (4, .slice none 0 0), (5, .slice Am3 m3.length cm3), (6, .int .i64 t6_1), (7, .slice (some ⟨b2, 0, none⟩) l5.length (((List.replicate (Int.toNat ((a1.length : Int))) (0 : Int))).length)), (8, .int .i64 t8_1), (9, .int .i64 t9_1)] ∧ Hp w wl7 [.tab Am3 cm3 39 hsm3 3 1 (encM encN m3), .own (some ⟨b2, 0, none⟩) (((List.replicate (Int.toNat ((a1.length : Int))) (0 : Int))).length) 3 1 (List.map encN l5), .blk b1 24 [.int .i64 a0.points, .slice A_a0_readings a0.readings.length c_a0_readings]]) FU ⟨_, ?_, ((0 : Int)), l6, F, rfl, H⟩ ?_
              · exact ⟨rfl, rfl, rfl, (look_slice rfl (by first | rfl | (simp; done) | omega | (simp; omega))), rfl, (look_slice rfl (by first | rfl | (simp; done) | omega | (simp; omega))), rfl, rfl, trivial⟩
              rintro mk3 _ wl7 ⟨t9_1, l5, F, rfl, H⟩
              have R0 := H.ext
              replace F := ref01_laplace_L1_s F
              obtain ⟨mk3, rfl, F⟩ := F
              generalize hrec3 : ref01_laplace_L1 a0 a1 t6_1 t8_1 rec2 mk3 = rec3 at F
              unfold ref01_laplace_B1 at F
              refine CW.seq fun K16 hK16 => ?_
              refine CW.seq fun K17 hK17 => ?_
              refine CW.region ?_
              refine LW.pure rfl rfl (RV.move rfl) ?_
              refine LW.pure rfl rfl (RV.fieldAddr Tf24_1 rfl) ?_
              refine LW.pure rfl rfl (RV.load1 Tk22 rfl ((H.blk 2 rfl).cells.off 1) rfl) ?_
              refine LW.pure rfl rfl (RV.len Ts22 rfl) ?_
              refine LW.pure rfl rfl (RV.lss rfl rfl) ?_
              refine LW.nil (hK17 _ _ ?_)
              by_cases hp3 : t9_1 < ((a0.readings.length : Int))
              ·
                replace F := ite_y hp3 F
                have hq3 := dec_t hp3
                refine CW.condT rfl hq3 ?_
                refine CW.skip (hK16 _ _ ?_)
                refine CW.seqJ (fun ρ wl8 => (∃ (l3 : List Int), ref01_laplace_k5 t9_1 rec3 l3 = some res ∧ ρ = [(1, .slice A_a1 a1.length c_a1), (2, .pointer (some (⟨b1, 0, none⟩))), (4, .slice none 0 0), (5, .slice Am3 m3.length cm3), (6, .int .i64 t6_1), (7, .slice (some ⟨b2, 0, none⟩) l3.length (((List.replicate (Int.toNat ((a1.length : Int))) (0 : Int))).length)), (8, .int .i64 t8_1), (9, .int .i64 t9_1)] ∧ Hp w wl8 [.tab Am3 cm3 39 hsm3 3 1 (encM encN m3), .own (some ⟨b2, 0, none⟩) (((List.replicate (Int.toNat ((a1.length : Int))) (0 : Int))).length) 3 1 (List.map encN l3), .blk b1 24 [.int .i64 a0.points, .slice A_a0_readings a0.readings.length c_a0_readings]])) ?_ ?_
                ·
                  rintro _ wl8 ⟨l3, F, rfl, H⟩
                  have R0 := H.ext
                  unfold ref01_laplace_k5 at F
                  obtain ⟨hg5, F⟩ := gd_some F
                  refine CW.region ?_
                  refine LW.pure rfl rfl (RV.move rfl) ?_
                  refine LW.pure rfl rfl (RV.add rfl rfl hg5) ?_
                  refine LW.pure rfl rfl (RV.assign rfl) ?_
                  refine LW.nil ?_
                  subst hrec3
                  refine ⟨mk3, Nat.lt_succ_self _, _, ?_, (t9_1 + 1), l3, F, rfl, H⟩
                  exact ⟨rfl, rfl, rfl, (look_slice rfl (by first | rfl | (simp; done) | omega | (simp; omega))), rfl, (look_slice rfl (by first | rfl | (simp; done) | omega | (simp; omega))), rfl, rfl, trivial⟩
                ·
                  intro K18 hK18 jK12091
                  refine CW.block ?_
                  refine CW.seq fun K19 hK19 => ?_
                  obtain ⟨x1, hbx1, hx1, F⟩ := ix_some F
                  refine CW.region ?_
                  refine LW.pure rfl rfl (RV.fieldAddr Tf24_1 rfl) ?_
                  refine LW.pure rfl rfl (RV.load1 Tk22 rfl ((H.blk 2 rfl).cells.off 1) rfl) ?_
                  refine LW.pure rfl rfl (RV.move rfl) ?_
                  refine LW.pure rfl rfl (RV.indexAddr Ts22 rfl rfl hbx1 (h_a0_readings.addr_ hx1)) ?_
                  refine LW.pure rfl rfl (RV.loadA [.int .i64 x1.from_, .int .i64 x1.to_, .int .i64 x1.rise, .int .i64 x1.weight] Tk46 rfl ((h_a0_readings.at_ hx1).ext R0) rfl rfl) ?_
                  refine LW.go rfl rfl (OW.alloc Tz46 fun b4 w5 N4 => ?_)
                  replace H := H.new N4 N4.blk
                  replace R0 := H.ext
                  refine LW.go rfl rfl (OW.store Tk46 rfl rfl (H.blk 0 rfl) (off := 0) (vs := [.int .i64 x1.from_, .int .i64 x1.to_, .int .i64 x1.rise, .int .i64 x1.weight]) rfl rfl rfl rfl rfl fun w6 S1 => ?_)
                  replace H : Hp w w6 [.blk b4 46 [.int .i64 x1.from_, .int .i64 x1.to_, .int .i64 x1.rise, .int .i64 x1.weight], .tab Am3 cm3 39 hsm3 3 1 (encM encN m3), .own (some ⟨b2, 0, none⟩) (((List.replicate (Int.toNat ((a1.length : Int))) (0 : Int))).length) 3 1 (List.map encN l5), .blk b1 24 [.int .i64 a0.points, .slice A_a0_readings a0.readings.length c_a0_readings]] := H.stored 0 rfl S1
                  replace R0 := H.ext
                  refine LW.nil (hK19 _ _ ?_)
                  refine CW.seqJ (fun ρ wl9 => (∃ (l4 : List Int), ref01_laplace_k7 a1 t6_1 t8_1 t9_1 rec3 x1 l4 = some res ∧ ρ = [(1, .slice A_a1 a1.length c_a1), (2, .pointer (some (⟨b1, 0, none⟩))), (4, .slice none 0 0), (5, .slice Am3 m3.length cm3), (6, .int .i64 t6_1), (7, .slice (some ⟨b2, 0, none⟩) l4.length (((List.replicate (Int.toNat ((a1.length : Int))) (0 : Int))).length)), (8, .int .i64 t8_1), (9, .int .i64 t9_1), (10, .pointer (some (⟨b4, 0, none⟩)))] ∧ Hp w wl9 [.tab Am3 cm3 39 hsm3 3 1 (encM encN m3), .own (some ⟨b2, 0, none⟩) (((List.replicate (Int.toNat ((a1.length : Int))) (0 : Int))).length) 3 1 (List.map encN l4), .blk b1 24 [.int .i64 a0.points, .slice A_a0_readings a0.readings.length c_a0_readings], .blk b4 46 [.int .i64 x1.from_, .int .i64 x1.to_, .int .i64 x1.rise, .int .i64 x1.weight]])) ?_ ?_
                  ·
                    rintro _ wl9 ⟨l4, F, rfl, H⟩
                    have R0 := H.ext
                    unfold ref01_laplace_k7 at F
                    refine CW.seqJ (fun ρ wl10 => (∃ (t105_1 : Bool), ref01_laplace_k6 t8_1 t9_1 rec3 x1 l4 t105_1 = some res ∧ ρ = [(1, .slice A_a1 a1.length c_a1), (2, .pointer (some (⟨b1, 0, none⟩))), (4, .slice none 0 0), (5, .slice Am3 m3.length cm3), (6, .int .i64 t6_1), (7, .slice (some ⟨b2, 0, none⟩) l4.length (((List.replicate (Int.toNat ((a1.length : Int))) (0 : Int))).length)), (8, .int .i64 t8_1), (9, .int .i64 t9_1), (10, .pointer (some (⟨b4, 0, none⟩))), (105, .bool t105_1)] ∧ Hp w wl10 [.tab Am3 cm3 39 hsm3 3 1 (encM encN m3), .own (some ⟨b2, 0, none⟩) (((List.replicate (Int.toNat ((a1.length : Int))) (0 : Int))).length) 3 1 (List.map encN l4), .blk b1 24 [.int .i64 a0.points, .slice A_a0_readings a0.readings.length c_a0_readings], .blk b4 46 [.int .i64 x1.from_, .int .i64 x1.to_, .int .i64 x1.rise, .int .i64 x1.weight]])) ?_ ?_
                    ·
                      rintro _ wl10 ⟨t105_1, F, rfl, H⟩
                      have R0 := H.ext
                      unfold ref01_laplace_k6 at F
                      by_cases hp4 : t105_1 = true
                      ·
                        replace F := ite_y hp4 F
                        have hq4 : t105_1 = true := hp4
                        refine CW.condT rfl hq4 ?_
                        obtain ⟨x2, hbx2, hx2, F⟩ := ix_some F
                        obtain ⟨hg6, F⟩ := gd_some F
                        obtain ⟨x3, hbx3, hx3, F⟩ := ix_some F
                        refine CW.draw [8] (fun _ => True) (.cons 0 1 (.cons 1 1 (.cons 2 1 (.cons 3 1 (.cons 4 1 (.cons 5 1 (.cons 6 1 (.cons 7 1 (.cons 8 0 .nil))))))))) mixed (by kernel_rfl) fun w7 E1 => ?_
                        replace H := H.grow E1
                        replace R0 := H.ext
                        refine DW.fix rfl rfl rfl (fun _ EQ => RV.move rfl) ?_
                        refine DW.fix rfl rfl rfl (fun _ EQ => RV.move rfl) ?_
                        refine DW.fix rfl rfl rfl (fun _ EQ => RV.indexAddr Ts39 rfl rfl hbx2 ⟨_, rfl⟩) ?_
                        refine DW.fix rfl rfl rfl (fun _ EQ => RV.load1 Tk3 rfl (((H.grow EQ).own 1 rfl).sl.at_ hx2) rfl) ?_
                        refine DW.fix rfl rfl rfl (fun _ EQ => RV.fieldAddr Tf46_3 rfl) ?_
                        refine DW.fix rfl rfl rfl (fun _ EQ => RV.load1 Tk3 rfl (((H.grow EQ).blk 3 rfl).cells.off 3) rfl) ?_
                        refine DW.fix rfl rfl rfl (fun _ EQ => RV.sub rfl rfl hg6) ?_
                        refine DW.fix rfl rfl rfl (fun _ EQ => RV.indexAddr Ts39 rfl rfl hbx3 ⟨_, rfl⟩) ?_
                        refine DW.sole rfl rfl rfl (OW.storeO (enc := encN) (vs := [.int .i64 (x2 - x1.weight)]) 0 (x2 - x1.weight) Tk3 rfl rfl (H.own 1 rfl) (fun _ => rfl) rfl hx3 rfl rfl (by decide) rfl rfl fun w8 M2 O2 => ?_)
                        refine ⟨fun h => absurd h (by decide), M2.modx (fun _ _ => trivial), ?_⟩
                        replace H : Hp w w8 [.tab Am3 cm3 39 hsm3 3 1 (encM encN m3), .own (some ⟨b2, 0, none⟩) (((List.replicate (Int.toNat ((a1.length : Int))) (0 : Int))).length) 3 1 (List.map encN ((l4.set (Int.toNat t8_1) (x2 - x1.weight)))), .blk b1 24 [.int .i64 a0.points, .slice A_a0_readings a0.readings.length c_a0_readings], .blk b4 46 [.int .i64 x1.from_, .int .i64 x1.to_, .int .i64 x1.rise, .int .i64 x1.weight]] := H.mod 1 rfl M2 O2 (.inl rfl)
                        replace R0 := H.ext
                        replace H := H.pick (L' := [.tab Am3 cm3 39 hsm3 3 1 (encM encN m3), .own (some ⟨b2, 0, none⟩) (((List.replicate (Int.toNat ((a1.length : Int))) (0 : Int))).length) 3 1 (List.map encN ((l4.set (Int.toNat t8_1) (x2 - x1.weight)))), .blk b1 24 [.int .i64 a0.points, .slice A_a0_readings a0.readings.length c_a0_readings]]) [0, 1, 2] (by decide) rfl
                        replace R0 := H.ext
                        refine DW.nil (jK12091 _ _ ⟨_, ?_, ⟨((l4.set (Int.toNat t8_1) (x2 - x1.weight))), F, rfl, H⟩⟩)
                        exact ⟨rfl, rfl, rfl, (look_slice rfl (by first | rfl | (simp; done) | omega | (simp; omega))), rfl, (look_slice rfl (by first | rfl | (simp; done) | omega | (simp; omega))), rfl, rfl, trivial⟩
                      ·
                        replace F := ite_n hp4 F
                        have hq4 : t105_1 = false := raw_f hp4
                        refine CW.condF rfl hq4 ?_
                        replace H := H.pick (L' := [.tab Am3 cm3 39 hsm3 3 1 (encM encN m3), .own (some ⟨b2, 0, none⟩) (((List.replicate (Int.toNat ((a1.length : Int))) (0 : Int))).length) 3 1 (List.map encN l4), .blk b1 24 [.int .i64 a0.points, .slice A_a0_readings a0.readings.length c_a0_readings]]) [0, 1, 2] (by decide) rfl
                        replace R0 := H.ext
                        refine CW.skip (jK12091 _ _ ⟨_, ?_, ⟨l4, F, rfl, H⟩⟩)
                        exact ⟨rfl, rfl, rfl, (look_slice rfl (by first | rfl | (simp; done) | omega | (simp; omega))), rfl, (look_slice rfl (by first | rfl | (simp; done) | omega | (simp; omega))), rfl, rfl, trivial⟩
                    ·
                      intro K20 hK20 jK12094
                      by_cases hp5 : t6_1 = t8_1
                      ·
                        replace F := ite_y hp5 F
                        have hq5 := dec_t hp5
                        refine CW.draw [] (fun _ => True) (.cons 0 1 (.cons 1 1 (.cons 2 1 (.cons 3 1 (.cons 4 1 (.cons 5 1 (.cons 6 1 (.cons 7 1 (.cons 8 1 (.cons 9 1 (.cons 10 1 (.cons 11 1 (.cons 12 1 (.cons 13 1 (.cons 14 1 (.cons 15 1 (.cons 16 1 (.cons 17 1 (.cons 18 1 (.cons 19 1 (.cons 20 1 (.cons 21 1 (.cons 22 1 (.cons 23 1 (.cons 24 1 (.cons 25 1 (.cons 26 1 (.cons 27 1 (.cons 28 1 (.cons 29 1 (.cons 30 1 (.cons 31 1 (.cons 32 1 (.cons 33 1 (.cons 34 1 (.cons 35 1 (.cons 36 1 (.cons 37 1 (.cons 38 1 .nil))))))))))))))))))))))))))))))))))))))) mixed (by kernel_rfl) fun w9 E2 => ?_
                        replace H := H.grow E2
                        replace R0 := H.ext
                        refine DW.fix rfl rfl rfl (fun _ EQ => RV.move rfl) ?_
                        refine DW.fix rfl rfl rfl (fun _ EQ => RV.move rfl) ?_
                        refine DW.fix rfl rfl rfl (fun _ EQ => RV.nei rfl rfl) ?_
                        refine DW.fix rfl rfl rfl (fun _ EQ => RV.move rfl) ?_
                        refine DW.fixNB rfl rfl rfl rfl rfl (ne_beq (v := false) (not_f hq5) rfl) ?_
                        refine DW.fixNB rfl rfl rfl rfl rfl (ne_beq (v := false) (not_f hq5) rfl) ?_
                        refine DW.fixNB rfl rfl rfl rfl rfl (ne_beq (v := false) (not_f hq5) rfl) ?_
                        refine DW.fixNB rfl rfl rfl rfl rfl (ne_beq (v := false) (not_f hq5) rfl) ?_
                        refine DW.fixNB rfl rfl rfl rfl rfl (ne_beq (v := false) (not_f hq5) rfl) ?_
                        refine DW.fixNB rfl rfl rfl rfl rfl (ne_beq (v := false) (not_f hq5) rfl) ?_
                        refine DW.fixNB rfl rfl rfl rfl rfl (ne_beq (v := false) (not_f hq5) rfl) ?_
                        refine DW.fixNB rfl rfl rfl rfl rfl (ne_beq (v := false) (not_f hq5) rfl) ?_
                        refine DW.fixNU rfl rfl rfl rfl rfl ?_
                        refine DW.fixNU rfl rfl rfl rfl rfl ?_
                        refine DW.fixNU rfl rfl rfl rfl rfl ?_
                        refine DW.fixNU rfl rfl rfl rfl rfl ?_
                        refine DW.fixNU rfl rfl rfl rfl rfl ?_
                        refine DW.fixNU rfl rfl rfl rfl rfl ?_
                        refine DW.fixNU rfl rfl rfl rfl rfl ?_
                        refine DW.fixNB rfl rfl rfl rfl rfl (ne_beq (v := false) (not_f hq5) rfl) ?_
                        refine DW.fixNB rfl rfl rfl rfl rfl (ne_beq (v := false) (not_f hq5) rfl) ?_
                        refine DW.fixNU rfl rfl rfl rfl rfl ?_
                        refine DW.fixNU rfl rfl rfl rfl rfl ?_
                        refine DW.fixNU rfl rfl rfl rfl rfl ?_
                        refine DW.fixNU rfl rfl rfl rfl rfl ?_
                        refine DW.fixNU rfl rfl rfl rfl rfl ?_
                        refine DW.fixNU rfl rfl rfl rfl rfl ?_
                        refine DW.fixNU rfl rfl rfl rfl rfl ?_
                        refine DW.fixNU rfl rfl rfl rfl rfl ?_
                        refine DW.fixNU rfl rfl rfl rfl rfl ?_
                        refine DW.fixNU rfl rfl rfl rfl rfl ?_
                        refine DW.fixNU rfl rfl rfl rfl rfl ?_
                        refine DW.fixNU rfl rfl rfl rfl rfl ?_
                        refine DW.fixNU rfl rfl rfl rfl rfl ?_
                        refine DW.fixNU rfl rfl rfl rfl rfl ?_
                        refine DW.fixNU rfl rfl rfl rfl rfl ?_
                        refine DW.fixNU rfl rfl rfl rfl rfl ?_
                        refine DW.fixNB rfl rfl rfl rfl rfl (ne_beq (v := false) (not_f hq5) rfl) ?_
                        refine DW.fix rfl rfl rfl (fun _ EQ => RV.pickFB rfl (not_f hq5) rfl) ?_
                        refine DW.nil (jK12094 _ _ ⟨_, ?_, ⟨false, F, rfl, H⟩⟩)
                        exact ⟨rfl, rfl, rfl, (look_slice rfl (by first | rfl | (simp; done) | omega | (simp; omega))), rfl, (look_slice rfl (by first | rfl | (simp; done) | omega | (simp; omega))), rfl, rfl, rfl, rfl, trivial⟩
                      ·
                        replace F := ite_n hp5 F
                        have hq5 := dec_f hp5
                        obtain ⟨x4, hbx4, hx4, F⟩ := ix_some F
                        by_cases hp6 : x1.from_ = x4
                        ·
                          replace F := ite_y hp6 F
                          have hq6 := dec_t hp6
                          obtain ⟨x5, hbx5, hx5, F⟩ := ix_some F
                          by_cases hp7 : x1.to_ = x5
                          ·
                            replace F := ite_y hp7 F
                            have hq7 := dec_t hp7
                            refine CW.draw [] (fun _ => True) (.cons 0 1 (.cons 1 1 (.cons 2 1 (.cons 3 1 (.cons 4 1 (.cons 5 1 (.cons 6 1 (.cons 7 1 (.cons 8 1 (.cons 9 1 (.cons 10 1 (.cons 11 1 (.cons 12 1 (.cons 13 1 (.cons 14 1 (.cons 15 1 (.cons 16 1 (.cons 17 1 (.cons 18 1 (.cons 19 1 (.cons 20 1 (.cons 21 1 (.cons 22 1 (.cons 23 1 (.cons 24 1 (.cons 25 1 (.cons 26 1 (.cons 27 1 (.cons 28 1 (.cons 29 1 (.cons 30 1 (.cons 31 1 (.cons 32 1 (.cons 33 1 (.cons 34 1 (.cons 35 1 (.cons 36 1 (.cons 37 1 (.cons 38 1 .nil))))))))))))))))))))))))))))))))))))))) mixed (by kernel_rfl) fun w10 E3 => ?_
                            replace H := H.grow E3
                            replace R0 := H.ext
                            refine DW.fix rfl rfl rfl (fun _ EQ => RV.move rfl) ?_
                            refine DW.fix rfl rfl rfl (fun _ EQ => RV.move rfl) ?_
                            refine DW.fix rfl rfl rfl (fun _ EQ => RV.nei rfl rfl) ?_
                            refine DW.fix rfl rfl rfl (fun _ EQ => RV.move rfl) ?_
                            refine DW.fixYB rfl rfl rfl rfl rfl (not_t hq5) (fun _ EQ => RV.fieldAddr Tf46_0 rfl) ?_
                            refine DW.fixYB rfl rfl rfl rfl rfl (not_t hq5) (fun _ EQ => RV.load1 Tk3 rfl (((H.grow EQ).blk 3 rfl).cells.off 0) rfl) ?_
                            refine DW.fixYB rfl rfl rfl rfl rfl (not_t hq5) (fun _ EQ => RV.move rfl) ?_
                            refine DW.fixYB rfl rfl rfl rfl rfl (not_t hq5) (fun _ EQ => RV.move rfl) ?_
                            refine DW.fixYB rfl rfl rfl rfl rfl (not_t hq5) (fun _ EQ => RV.indexAddr Ts39 rfl rfl hbx4 (h_a1.addr_ hx4)) ?_
                            refine DW.fixYB rfl rfl rfl rfl rfl (not_t hq5) (fun _ EQ => RV.load1 Tk3 rfl ((h_a1.at_ hx4).ext (R0.trans EQ)) rfl) ?_
                            refine DW.fixYB rfl rfl rfl rfl rfl (not_t hq5) (fun _ EQ => RV.eqi rfl rfl) ?_
                            refine DW.fixYB rfl rfl rfl rfl rfl (not_t hq5) (fun _ EQ => RV.move rfl) ?_
                            refine DW.fixYB rfl rfl rfl rfl rfl hq6 (fun _ EQ => RV.fieldAddr Tf46_1 rfl) ?_
                            refine DW.fixYB rfl rfl rfl rfl rfl hq6 (fun _ EQ => RV.load1 Tk3 rfl (((H.grow EQ).blk 3 rfl).cells.off 1) rfl) ?_
                            refine DW.fixYB rfl rfl rfl rfl rfl hq6 (fun _ EQ => RV.move rfl) ?_
                            refine DW.fixYB rfl rfl rfl rfl rfl hq6 (fun _ EQ => RV.move rfl) ?_
                            refine DW.fixYB rfl rfl rfl rfl rfl hq6 (fun _ EQ => RV.indexAddr Ts39 rfl rfl hbx5 (h_a1.addr_ hx5)) ?_
                            refine DW.fixYB rfl rfl rfl rfl rfl hq6 (fun _ EQ => RV.load1 Tk3 rfl ((h_a1.at_ hx5).ext (R0.trans EQ)) rfl) ?_
                            refine DW.fixYB rfl rfl rfl rfl rfl hq6 (fun _ EQ => RV.eqi rfl rfl) ?_
                            refine DW.fixYB rfl rfl rfl rfl rfl (not_t hq5) (fun _ EQ => RV.pickTB rfl hq6 rfl) ?_
                            refine DW.fixYB rfl rfl rfl rfl rfl (not_t hq5) (fun _ EQ => RV.move rfl) ?_
                            refine DW.fixNB rfl rfl rfl rfl rfl (ne_beq (v := true) hq7 rfl) ?_
                            refine DW.fixNB rfl rfl rfl rfl rfl (ne_beq (v := true) hq7 rfl) ?_
                            refine DW.fixNB rfl rfl rfl rfl rfl (ne_beq (v := true) hq7 rfl) ?_
                            refine DW.fixNB rfl rfl rfl rfl rfl (ne_beq (v := true) hq7 rfl) ?_
                            refine DW.fixNB rfl rfl rfl rfl rfl (ne_beq (v := true) hq7 rfl) ?_
                            refine DW.fixNB rfl rfl rfl rfl rfl (ne_beq (v := true) hq7 rfl) ?_
                            refine DW.fixNB rfl rfl rfl rfl rfl (ne_beq (v := true) hq7 rfl) ?_
                            refine DW.fixNB rfl rfl rfl rfl rfl (ne_beq (v := true) hq7 rfl) ?_
                            refine DW.fixNU rfl rfl rfl rfl rfl ?_
                            refine DW.fixNU rfl rfl rfl rfl rfl ?_
                            refine DW.fixNU rfl rfl rfl rfl rfl ?_
                            refine DW.fixNU rfl rfl rfl rfl rfl ?_
                            refine DW.fixNU rfl rfl rfl rfl rfl ?_
                            refine DW.fixNU rfl rfl rfl rfl rfl ?_
                            refine DW.fixNU rfl rfl rfl rfl rfl ?_
                            refine DW.fixNB rfl rfl rfl rfl rfl (ne_beq (v := true) hq7 rfl) ?_
                            refine DW.fixYB rfl rfl rfl rfl rfl (not_t hq5) (fun _ EQ => RV.pickTB rfl hq7 rfl) ?_
                            refine DW.fix rfl rfl rfl (fun _ EQ => RV.pickTB rfl (not_t hq5) rfl) ?_
                            refine DW.nil (jK12094 _ _ ⟨_, ?_, ⟨true, F, rfl, H⟩⟩)
                            exact ⟨rfl, rfl, rfl, (look_slice rfl (by first | rfl | (simp; done) | omega | (simp; omega))), rfl, (look_slice rfl (by first | rfl | (simp; done) | omega | (simp; omega))), rfl, rfl, rfl, rfl, trivial⟩
                          ·
                            replace F := ite_n hp7 F
                            have hq7 := dec_f hp7
                            obtain ⟨x6, hbx6, hx6, F⟩ := ix_some F
                            by_cases hp8 : x1.to_ = x6
                            ·
                              replace F := ite_y hp8 F
                              have hq8 := dec_t hp8
                              obtain ⟨x7, hbx7, hx7, F⟩ := ix_some F
                              refine CW.draw [] (fun _ => True) (.cons 0 1 (.cons 1 1 (.cons 2 1 (.cons 3 1 (.cons 4 1 (.cons 5 1 (.cons 6 1 (.cons 7 1 (.cons 8 1 (.cons 9 1 (.cons 10 1 (.cons 11 1 (.cons 12 1 (.cons 13 1 (.cons 14 1 (.cons 15 1 (.cons 16 1 (.cons 17 1 (.cons 18 1 (.cons 19 1 (.cons 20 1 (.cons 21 1 (.cons 22 1 (.cons 23 1 (.cons 24 1 (.cons 25 1 (.cons 26 1 (.cons 27 1 (.cons 28 1 (.cons 29 1 (.cons 30 1 (.cons 31 1 (.cons 32 1 (.cons 33 1 (.cons 34 1 (.cons 35 1 (.cons 36 1 (.cons 37 1 (.cons 38 1 .nil))))))))))))))))))))))))))))))))))))))) mixed (by kernel_rfl) fun w11 E4 => ?_
                              replace H := H.grow E4
                              replace R0 := H.ext
                              refine DW.fix rfl rfl rfl (fun _ EQ => RV.move rfl) ?_
                              refine DW.fix rfl rfl rfl (fun _ EQ => RV.move rfl) ?_
                              refine DW.fix rfl rfl rfl (fun _ EQ => RV.nei rfl rfl) ?_
                              refine DW.fix rfl rfl rfl (fun _ EQ => RV.move rfl) ?_
                              refine DW.fixYB rfl rfl rfl rfl rfl (not_t hq5) (fun _ EQ => RV.fieldAddr Tf46_0 rfl) ?_
                              refine DW.fixYB rfl rfl rfl rfl rfl (not_t hq5) (fun _ EQ => RV.load1 Tk3 rfl (((H.grow EQ).blk 3 rfl).cells.off 0) rfl) ?_
                              refine DW.fixYB rfl rfl rfl rfl rfl (not_t hq5) (fun _ EQ => RV.move rfl) ?_
                              refine DW.fixYB rfl rfl rfl rfl rfl (not_t hq5) (fun _ EQ => RV.move rfl) ?_
                              refine DW.fixYB rfl rfl rfl rfl rfl (not_t hq5) (fun _ EQ => RV.indexAddr Ts39 rfl rfl hbx4 (h_a1.addr_ hx4)) ?_
                              refine DW.fixYB rfl rfl rfl rfl rfl (not_t hq5) (fun _ EQ => RV.load1 Tk3 rfl ((h_a1.at_ hx4).ext (R0.trans EQ)) rfl) ?_
                              refine DW.fixYB rfl rfl rfl rfl rfl (not_t hq5) (fun _ EQ => RV.eqi rfl rfl) ?_
                              refine DW.fixYB rfl rfl rfl rfl rfl (not_t hq5) (fun _ EQ => RV.move rfl) ?_
                              refine DW.fixYB rfl rfl rfl rfl rfl hq6 (fun _ EQ => RV.fieldAddr Tf46_1 rfl) ?_
                              refine DW.fixYB rfl rfl rfl rfl rfl hq6 (fun _ EQ => RV.load1 Tk3 rfl (((H.grow EQ).blk 3 rfl).cells.off 1) rfl) ?_
                              refine DW.fixYB rfl rfl rfl rfl rfl hq6 (fun _ EQ => RV.move rfl) ?_
                              refine DW.fixYB rfl rfl rfl rfl rfl hq6 (fun _ EQ => RV.move rfl) ?_
                              refine DW.fixYB rfl rfl rfl rfl rfl hq6 (fun _ EQ => RV.indexAddr Ts39 rfl rfl hbx5 (h_a1.addr_ hx5)) ?_
                              refine DW.fixYB rfl rfl rfl rfl rfl hq6 (fun _ EQ => RV.load1 Tk3 rfl ((h_a1.at_ hx5).ext (R0.trans EQ)) rfl) ?_
                              refine DW.fixYB rfl rfl rfl rfl rfl hq6 (fun _ EQ => RV.eqi rfl rfl) ?_
                              refine DW.fixYB rfl rfl rfl rfl rfl (not_t hq5) (fun _ EQ => RV.pickTB rfl hq6 rfl) ?_
                              refine DW.fixYB rfl rfl rfl rfl rfl (not_t hq5) (fun _ EQ => RV.move rfl) ?_
                              refine DW.fixYB rfl rfl rfl rfl rfl hq7 (fun _ EQ => RV.fieldAddr Tf46_1 rfl) ?_
                              refine DW.fixYB rfl rfl rfl rfl rfl hq7 (fun _ EQ => RV.load1 Tk3 rfl (((H.grow EQ).blk 3 rfl).cells.off 1) rfl) ?_
                              refine DW.fixYB rfl rfl rfl rfl rfl hq7 (fun _ EQ => RV.move rfl) ?_
                              refine DW.fixYB rfl rfl rfl rfl rfl hq7 (fun _ EQ => RV.move rfl) ?_
                              refine DW.fixYB rfl rfl rfl rfl rfl hq7 (fun _ EQ => RV.indexAddr Ts39 rfl rfl hbx6 (h_a1.addr_ hx6)) ?_
                              refine DW.fixYB rfl rfl rfl rfl rfl hq7 (fun _ EQ => RV.load1 Tk3 rfl ((h_a1.at_ hx6).ext (R0.trans EQ)) rfl) ?_
                              refine DW.fixYB rfl rfl rfl rfl rfl hq7 (fun _ EQ => RV.eqi rfl rfl) ?_
                              refine DW.fixYB rfl rfl rfl rfl rfl hq7 (fun _ EQ => RV.move rfl) ?_
                              refine DW.fixYB rfl rfl rfl rfl rfl hq8 (fun _ EQ => RV.fieldAddr Tf46_0 rfl) ?_
                              refine DW.fixYB rfl rfl rfl rfl rfl hq8 (fun _ EQ => RV.load1 Tk3 rfl (((H.grow EQ).blk 3 rfl).cells.off 0) rfl) ?_
                              refine DW.fixYB rfl rfl rfl rfl rfl hq8 (fun _ EQ => RV.move rfl) ?_
                              refine DW.fixYB rfl rfl rfl rfl rfl hq8 (fun _ EQ => RV.move rfl) ?_
                              refine DW.fixYB rfl rfl rfl rfl rfl hq8 (fun _ EQ => RV.indexAddr Ts39 rfl rfl hbx7 (h_a1.addr_ hx7)) ?_
                              refine DW.fixYB rfl rfl rfl rfl rfl hq8 (fun _ EQ => RV.load1 Tk3 rfl ((h_a1.at_ hx7).ext (R0.trans EQ)) rfl) ?_
                              refine DW.fixYB rfl rfl rfl rfl rfl hq8 (fun _ EQ => RV.eqi rfl rfl) ?_
                              refine DW.fixYB rfl rfl rfl rfl rfl hq7 (fun _ EQ => RV.pickTB rfl hq8 rfl) ?_
                              refine DW.fixYB rfl rfl rfl rfl rfl (not_t hq5) (fun _ EQ => RV.pickFB rfl hq7 rfl) ?_
                              refine DW.fix rfl rfl rfl (fun _ EQ => RV.pickTB rfl (not_t hq5) rfl) ?_
                              refine DW.nil (jK12094 _ _ ⟨_, ?_, ⟨(decide (x1.from_ = x7)), F, rfl, H⟩⟩)
                              exact ⟨rfl, rfl, rfl, (look_slice rfl (by first | rfl | (simp; done) | omega | (simp; omega))), rfl, (look_slice rfl (by first | rfl | (simp; done) | omega | (simp; omega))), rfl, rfl, rfl, rfl, trivial⟩
                            ·
                              replace F := ite_n hp8 F
                              have hq8 := dec_f hp8
                              refine CW.draw [] (fun _ => True) (.cons 0 1 (.cons 1 1 (.cons 2 1 (.cons 3 1 (.cons 4 1 (.cons 5 1 (.cons 6 1 (.cons 7 1 (.cons 8 1 (.cons 9 1 (.cons 10 1 (.cons 11 1 (.cons 12 1 (.cons 13 1 (.cons 14 1 (.cons 15 1 (.cons 16 1 (.cons 17 1 (.cons 18 1 (.cons 19 1 (.cons 20 1 (.cons 21 1 (.cons 22 1 (.cons 23 1 (.cons 24 1 (.cons 25 1 (.cons 26 1 (.cons 27 1 (.cons 28 1 (.cons 29 1 (.cons 30 1 (.cons 31 1 (.cons 32 1 (.cons 33 1 (.cons 34 1 (.cons 35 1 (.cons 36 1 (.cons 37 1 (.cons 38 1 .nil))))))))))))))))))))))))))))))))))))))) mixed (by kernel_rfl) fun w12 E5 => ?_
                              replace H := H.grow E5
                              replace R0 := H.ext
                              refine DW.fix rfl rfl rfl (fun _ EQ => RV.move rfl) ?_
                              refine DW.fix rfl rfl rfl (fun _ EQ => RV.move rfl) ?_
                              refine DW.fix rfl rfl rfl (fun _ EQ => RV.nei rfl rfl) ?_
                              refine DW.fix rfl rfl rfl (fun _ EQ => RV.move rfl) ?_
                              refine DW.fixYB rfl rfl rfl rfl rfl (not_t hq5) (fun _ EQ => RV.fieldAddr Tf46_0 rfl) ?_
                              refine DW.fixYB rfl rfl rfl rfl rfl (not_t hq5) (fun _ EQ => RV.load1 Tk3 rfl (((H.grow EQ).blk 3 rfl).cells.off 0) rfl) ?_
                              refine DW.fixYB rfl rfl rfl rfl rfl (not_t hq5) (fun _ EQ => RV.move rfl) ?_
                              refine DW.fixYB rfl rfl rfl rfl rfl (not_t hq5) (fun _ EQ => RV.move rfl) ?_
                              refine DW.fixYB rfl rfl rfl rfl rfl (not_t hq5) (fun _ EQ => RV.indexAddr Ts39 rfl rfl hbx4 (h_a1.addr_ hx4)) ?_
                              refine DW.fixYB rfl rfl rfl rfl rfl (not_t hq5) (fun _ EQ => RV.load1 Tk3 rfl ((h_a1.at_ hx4).ext (R0.trans EQ)) rfl) ?_
                              refine DW.fixYB rfl rfl rfl rfl rfl (not_t hq5) (fun _ EQ => RV.eqi rfl rfl) ?_
                              refine DW.fixYB rfl rfl rfl rfl rfl (not_t hq5) (fun _ EQ => RV.move rfl) ?_
                              refine DW.fixYB rfl rfl rfl rfl rfl hq6 (fun _ EQ => RV.fieldAddr Tf46_1 rfl) ?_
                              refine DW.fixYB rfl rfl rfl rfl rfl hq6 (fun _ EQ => RV.load1 Tk3 rfl (((H.grow EQ).blk 3 rfl).cells.off 1) rfl) ?_
                              refine DW.fixYB rfl rfl rfl rfl rfl hq6 (fun _ EQ => RV.move rfl) ?_
                              refine DW.fixYB rfl rfl rfl rfl rfl hq6 (fun _ EQ => RV.move rfl) ?_
                              refine DW.fixYB rfl rfl rfl rfl rfl hq6 (fun _ EQ => RV.indexAddr Ts39 rfl rfl hbx5 (h_a1.addr_ hx5)) ?_
                              refine DW.fixYB rfl rfl rfl rfl rfl hq6 (fun _ EQ => RV.load1 Tk3 rfl ((h_a1.at_ hx5).ext (R0.trans EQ)) rfl) ?_
                              refine DW.fixYB rfl rfl rfl rfl rfl hq6 (fun _ EQ => RV.eqi rfl rfl) ?_
                              refine DW.fixYB rfl rfl rfl rfl rfl (not_t hq5) (fun _ EQ => RV.pickTB rfl hq6 rfl) ?_
                              refine DW.fixYB rfl rfl rfl rfl rfl (not_t hq5) (fun _ EQ => RV.move rfl) ?_
                              refine DW.fixYB rfl rfl rfl rfl rfl hq7 (fun _ EQ => RV.fieldAddr Tf46_1 rfl) ?_
                              refine DW.fixYB rfl rfl rfl rfl rfl hq7 (fun _ EQ => RV.load1 Tk3 rfl (((H.grow EQ).blk 3 rfl).cells.off 1) rfl) ?_
                              refine DW.fixYB rfl rfl rfl rfl rfl hq7 (fun _ EQ => RV.move rfl) ?_
                              refine DW.fixYB rfl rfl rfl rfl rfl hq7 (fun _ EQ => RV.move rfl) ?_
                              refine DW.fixYB rfl rfl rfl rfl rfl hq7 (fun _ EQ => RV.indexAddr Ts39 rfl rfl hbx6 (h_a1.addr_ hx6)) ?_
                              refine DW.fixYB rfl rfl rfl rfl rfl hq7 (fun _ EQ => RV.load1 Tk3 rfl ((h_a1.at_ hx6).ext (R0.trans EQ)) rfl) ?_
                              refine DW.fixYB rfl rfl rfl rfl rfl hq7 (fun _ EQ => RV.eqi rfl rfl) ?_
                              refine DW.fixYB rfl rfl rfl rfl rfl hq7 (fun _ EQ => RV.move rfl) ?_
                              refine DW.fixNB rfl rfl rfl rfl rfl (ne_beq (v := false) hq8 rfl) ?_
                              refine DW.fixNB rfl rfl rfl rfl rfl (ne_beq (v := false) hq8 rfl) ?_
                              refine DW.fixNB rfl rfl rfl rfl rfl (ne_beq (v := false) hq8 rfl) ?_
                              refine DW.fixNB rfl rfl rfl rfl rfl (ne_beq (v := false) hq8 rfl) ?_
                              refine DW.fixNB rfl rfl rfl rfl rfl (ne_beq (v := false) hq8 rfl) ?_
                              refine DW.fixNB rfl rfl rfl rfl rfl (ne_beq (v := false) hq8 rfl) ?_
                              refine DW.fixNB rfl rfl rfl rfl rfl (ne_beq (v := false) hq8 rfl) ?_
                              refine DW.fixYB rfl rfl rfl rfl rfl hq7 (fun _ EQ => RV.pickFB rfl hq8 rfl) ?_
                              refine DW.fixYB rfl rfl rfl rfl rfl (not_t hq5) (fun _ EQ => RV.pickFB rfl hq7 rfl) ?_
                              refine DW.fix rfl rfl rfl (fun _ EQ => RV.pickTB rfl (not_t hq5) rfl) ?_
                              refine DW.nil (jK12094 _ _ ⟨_, ?_, ⟨false, F, rfl, H⟩⟩)
                              exact ⟨rfl, rfl, rfl, (look_slice rfl (by first | rfl | (simp; done) | omega | (simp; omega))), rfl, (look_slice rfl (by first | rfl | (simp; done) | omega | (simp; omega))), rfl, rfl, rfl, rfl, trivial⟩
                        ·
                          replace F := ite_n hp6 F
                          have hq6 := dec_f hp6
                          obtain ⟨x8, hbx8, hx8, F⟩ := ix_some F
                          by_cases hp9 : x1.to_ = x8
                          ·
                            replace F := ite_y hp9 F
                            have hq9 := dec_t hp9
                            obtain ⟨x9, hbx9, hx9, F⟩ := ix_some F
                            refine CW.draw [] (fun _ => True) (.cons 0 1 (.cons 1 1 (.cons 2 1 (.cons 3 1 (.cons 4 1 (.cons 5 1 (.cons 6 1 (.cons 7 1 (.cons 8 1 (.cons 9 1 (.cons 10 1 (.cons 11 1 (.cons 12 1 (.cons 13 1 (.cons 14 1 (.cons 15 1 (.cons 16 1 (.cons 17 1 (.cons 18 1 (.cons 19 1 (.cons 20 1 (.cons 21 1 (.cons 22 1 (.cons 23 1 (.cons 24 1 (.cons 25 1 (.cons 26 1 (.cons 27 1 (.cons 28 1 (.cons 29 1 (.cons 30 1 (.cons 31 1 (.cons 32 1 (.cons 33 1 (.cons 34 1 (.cons 35 1 (.cons 36 1 (.cons 37 1 (.cons 38 1 .nil))))))))))))))))))))))))))))))))))))))) mixed (by kernel_rfl) fun w13 E6 => ?_
                            replace H := H.grow E6
                            replace R0 := H.ext
                            refine DW.fix rfl rfl rfl (fun _ EQ => RV.move rfl) ?_
                            refine DW.fix rfl rfl rfl (fun _ EQ => RV.move rfl) ?_
                            refine DW.fix rfl rfl rfl (fun _ EQ => RV.nei rfl rfl) ?_
                            refine DW.fix rfl rfl rfl (fun _ EQ => RV.move rfl) ?_
                            refine DW.fixYB rfl rfl rfl rfl rfl (not_t hq5) (fun _ EQ => RV.fieldAddr Tf46_0 rfl) ?_
                            refine DW.fixYB rfl rfl rfl rfl rfl (not_t hq5) (fun _ EQ => RV.load1 Tk3 rfl (((H.grow EQ).blk 3 rfl).cells.off 0) rfl) ?_
                            refine DW.fixYB rfl rfl rfl rfl rfl (not_t hq5) (fun _ EQ => RV.move rfl) ?_
                            refine DW.fixYB rfl rfl rfl rfl rfl (not_t hq5) (fun _ EQ => RV.move rfl) ?_
                            refine DW.fixYB rfl rfl rfl rfl rfl (not_t hq5) (fun _ EQ => RV.indexAddr Ts39 rfl rfl hbx4 (h_a1.addr_ hx4)) ?_
                            refine DW.fixYB rfl rfl rfl rfl rfl (not_t hq5) (fun _ EQ => RV.load1 Tk3 rfl ((h_a1.at_ hx4).ext (R0.trans EQ)) rfl) ?_
                            refine DW.fixYB rfl rfl rfl rfl rfl (not_t hq5) (fun _ EQ => RV.eqi rfl rfl) ?_
                            refine DW.fixYB rfl rfl rfl rfl rfl (not_t hq5) (fun _ EQ => RV.move rfl) ?_
                            refine DW.fixNB rfl rfl rfl rfl rfl (ne_beq (v := false) hq6 rfl) ?_
                            refine DW.fixNB rfl rfl rfl rfl rfl (ne_beq (v := false) hq6 rfl) ?_
                            refine DW.fixNB rfl rfl rfl rfl rfl (ne_beq (v := false) hq6 rfl) ?_
                            refine DW.fixNB rfl rfl rfl rfl rfl (ne_beq (v := false) hq6 rfl) ?_
                            refine DW.fixNB rfl rfl rfl rfl rfl (ne_beq (v := false) hq6 rfl) ?_
                            refine DW.fixNB rfl rfl rfl rfl rfl (ne_beq (v := false) hq6 rfl) ?_
                            refine DW.fixNB rfl rfl rfl rfl rfl (ne_beq (v := false) hq6 rfl) ?_
                            refine DW.fixYB rfl rfl rfl rfl rfl (not_t hq5) (fun _ EQ => RV.pickFB rfl hq6 rfl) ?_
                            refine DW.fixYB rfl rfl rfl rfl rfl (not_t hq5) (fun _ EQ => RV.move rfl) ?_
                            refine DW.fixYB rfl rfl rfl rfl rfl rfl (fun _ EQ => RV.fieldAddr Tf46_1 rfl) ?_
                            refine DW.fixYB rfl rfl rfl rfl rfl rfl (fun _ EQ => RV.load1 Tk3 rfl (((H.grow EQ).blk 3 rfl).cells.off 1) rfl) ?_
                            refine DW.fixYB rfl rfl rfl rfl rfl rfl (fun _ EQ => RV.move rfl) ?_
                            refine DW.fixYB rfl rfl rfl rfl rfl rfl (fun _ EQ => RV.move rfl) ?_
                            refine DW.fixYB rfl rfl rfl rfl rfl rfl (fun _ EQ => RV.indexAddr Ts39 rfl rfl hbx8 (h_a1.addr_ hx8)) ?_
                            refine DW.fixYB rfl rfl rfl rfl rfl rfl (fun _ EQ => RV.load1 Tk3 rfl ((h_a1.at_ hx8).ext (R0.trans EQ)) rfl) ?_
                            refine DW.fixYB rfl rfl rfl rfl rfl rfl (fun _ EQ => RV.eqi rfl rfl) ?_
                            refine DW.fixYB rfl rfl rfl rfl rfl rfl (fun _ EQ => RV.move rfl) ?_
                            refine DW.fixYB rfl rfl rfl rfl rfl hq9 (fun _ EQ => RV.fieldAddr Tf46_0 rfl) ?_
                            refine DW.fixYB rfl rfl rfl rfl rfl hq9 (fun _ EQ => RV.load1 Tk3 rfl (((H.grow EQ).blk 3 rfl).cells.off 0) rfl) ?_
                            refine DW.fixYB rfl rfl rfl rfl rfl hq9 (fun _ EQ => RV.move rfl) ?_
                            refine DW.fixYB rfl rfl rfl rfl rfl hq9 (fun _ EQ => RV.move rfl) ?_
                            refine DW.fixYB rfl rfl rfl rfl rfl hq9 (fun _ EQ => RV.indexAddr Ts39 rfl rfl hbx9 (h_a1.addr_ hx9)) ?_
                            refine DW.fixYB rfl rfl rfl rfl rfl hq9 (fun _ EQ => RV.load1 Tk3 rfl ((h_a1.at_ hx9).ext (R0.trans EQ)) rfl) ?_
                            refine DW.fixYB rfl rfl rfl rfl rfl hq9 (fun _ EQ => RV.eqi rfl rfl) ?_
                            refine DW.fixYB rfl rfl rfl rfl rfl rfl (fun _ EQ => RV.pickTB rfl hq9 rfl) ?_
                            refine DW.fixYB rfl rfl rfl rfl rfl (not_t hq5) (fun _ EQ => RV.pickFB rfl rfl rfl) ?_
                            refine DW.fix rfl rfl rfl (fun _ EQ => RV.pickTB rfl (not_t hq5) rfl) ?_
                            refine DW.nil (jK12094 _ _ ⟨_, ?_, ⟨(decide (x1.from_ = x9)), F, rfl, H⟩⟩)
                            exact ⟨rfl, rfl, rfl, (look_slice rfl (by first | rfl | (simp; done) | omega | (simp; omega))), rfl, (look_slice rfl (by first | rfl | (simp; done) | omega | (simp; omega))), rfl, rfl, rfl, rfl, trivial⟩
                          ·
                            replace F := ite_n hp9 F
                            have hq9 := dec_f hp9
                            refine CW.draw [] (fun _ => True) (.cons 0 1 (.cons 1 1 (.cons 2 1 (.cons 3 1 (.cons 4 1 (.cons 5 1 (.cons 6 1 (.cons 7 1 (.cons 8 1 (.cons 9 1 (.cons 10 1 (.cons 11 1 (.cons 12 1 (.cons 13 1 (.cons 14 1 (.cons 15 1 (.cons 16 1 (.cons 17 1 (.cons 18 1 (.cons 19 1 (.cons 20 1 (.cons 21 1 (.cons 22 1 (.cons 23 1 (.cons 24 1 (.cons 25 1 (.cons 26 1 (.cons 27 1 (.cons 28 1 (.cons 29 1 (.cons 30 1 (.cons 31 1 (.cons 32 1 (.cons 33 1 (.cons 34 1 (.cons 35 1 (.cons 36 1 (.cons 37 1 (.cons 38 1 .nil))))))))))))))))))))))))))))))))))))))) mixed (by kernel_rfl) fun w14 E7 => ?_
                            replace H := H.grow E7
                            replace R0 := H.ext
                            refine DW.fix rfl rfl rfl (fun _ EQ => RV.move rfl) ?_
                            refine DW.fix rfl rfl rfl (fun _ EQ => RV.move rfl) ?_
                            refine DW.fix rfl rfl rfl (fun _ EQ => RV.nei rfl rfl) ?_
                            refine DW.fix rfl rfl rfl (fun _ EQ => RV.move rfl) ?_
                            refine DW.fixYB rfl rfl rfl rfl rfl (not_t hq5) (fun _ EQ => RV.fieldAddr Tf46_0 rfl) ?_
                            refine DW.fixYB rfl rfl rfl rfl rfl (not_t hq5) (fun _ EQ => RV.load1 Tk3 rfl (((H.grow EQ).blk 3 rfl).cells.off 0) rfl) ?_
                            refine DW.fixYB rfl rfl rfl rfl rfl (not_t hq5) (fun _ EQ => RV.move rfl) ?_
                            refine DW.fixYB rfl rfl rfl rfl rfl (not_t hq5) (fun _ EQ => RV.move rfl) ?_
                            refine DW.fixYB rfl rfl rfl rfl rfl (not_t hq5) (fun _ EQ => RV.indexAddr Ts39 rfl rfl hbx4 (h_a1.addr_ hx4)) ?_
                            refine DW.fixYB rfl rfl rfl rfl rfl (not_t hq5) (fun _ EQ => RV.load1 Tk3 rfl ((h_a1.at_ hx4).ext (R0.trans EQ)) rfl) ?_
                            refine DW.fixYB rfl rfl rfl rfl rfl (not_t hq5) (fun _ EQ => RV.eqi rfl rfl) ?_
                            refine DW.fixYB rfl rfl rfl rfl rfl (not_t hq5) (fun _ EQ => RV.move rfl) ?_
                            refine DW.fixNB rfl rfl rfl rfl rfl (ne_beq (v := false) hq6 rfl) ?_
                            refine DW.fixNB rfl rfl rfl rfl rfl (ne_beq (v := false) hq6 rfl) ?_
                            refine DW.fixNB rfl rfl rfl rfl rfl (ne_beq (v := false) hq6 rfl) ?_
                            refine DW.fixNB rfl rfl rfl rfl rfl (ne_beq (v := false) hq6 rfl) ?_
                            refine DW.fixNB rfl rfl rfl rfl rfl (ne_beq (v := false) hq6 rfl) ?_
                            refine DW.fixNB rfl rfl rfl rfl rfl (ne_beq (v := false) hq6 rfl) ?_
                            refine DW.fixNB rfl rfl rfl rfl rfl (ne_beq (v := false) hq6 rfl) ?_
                            refine DW.fixYB rfl rfl rfl rfl rfl (not_t hq5) (fun _ EQ => RV.pickFB rfl hq6 rfl) ?_
                            refine DW.fixYB rfl rfl rfl rfl rfl (not_t hq5) (fun _ EQ => RV.move rfl) ?_
                            refine DW.fixYB rfl rfl rfl rfl rfl rfl (fun _ EQ => RV.fieldAddr Tf46_1 rfl) ?_
                            refine DW.fixYB rfl rfl rfl rfl rfl rfl (fun _ EQ => RV.load1 Tk3 rfl (((H.grow EQ).blk 3 rfl).cells.off 1) rfl) ?_
                            refine DW.fixYB rfl rfl rfl rfl rfl rfl (fun _ EQ => RV.move rfl) ?_
                            refine DW.fixYB rfl rfl rfl rfl rfl rfl (fun _ EQ => RV.move rfl) ?_
                            refine DW.fixYB rfl rfl rfl rfl rfl rfl (fun _ EQ => RV.indexAddr Ts39 rfl rfl hbx8 (h_a1.addr_ hx8)) ?_
                            refine DW.fixYB rfl rfl rfl rfl rfl rfl (fun _ EQ => RV.load1 Tk3 rfl ((h_a1.at_ hx8).ext (R0.trans EQ)) rfl) ?_
                            refine DW.fixYB rfl rfl rfl rfl rfl rfl (fun _ EQ => RV.eqi rfl rfl) ?_
                            refine DW.fixYB rfl rfl rfl rfl rfl rfl (fun _ EQ => RV.move rfl) ?_
                            refine DW.fixNB rfl rfl rfl rfl rfl (ne_beq (v := false) hq9 rfl) ?_
                            refine DW.fixNB rfl rfl rfl rfl rfl (ne_beq (v := false) hq9 rfl) ?_
                            refine DW.fixNB rfl rfl rfl rfl rfl (ne_beq (v := false) hq9 rfl) ?_
                            refine DW.fixNB rfl rfl rfl rfl rfl (ne_beq (v := false) hq9 rfl) ?_
                            refine DW.fixNB rfl rfl rfl rfl rfl (ne_beq (v := false) hq9 rfl) ?_
                            refine DW.fixNB rfl rfl rfl rfl rfl (ne_beq (v := false) hq9 rfl) ?_
                            refine DW.fixNB rfl rfl rfl rfl rfl (ne_beq (v := false) hq9 rfl) ?_
                            refine DW.fixYB rfl rfl rfl rfl rfl rfl (fun _ EQ => RV.pickFB rfl hq9 rfl) ?_
                            refine DW.fixYB rfl rfl rfl rfl rfl (not_t hq5) (fun _ EQ => RV.pickFB rfl rfl rfl) ?_
                            refine DW.fix rfl rfl rfl (fun _ EQ => RV.pickTB rfl (not_t hq5) rfl) ?_
                            refine DW.nil (jK12094 _ _ ⟨_, ?_, ⟨false, F, rfl, H⟩⟩)
                            exact ⟨rfl, rfl, rfl, (look_slice rfl (by first | rfl | (simp; done) | omega | (simp; omega))), rfl, (look_slice rfl (by first | rfl | (simp; done) | omega | (simp; omega))), rfl, rfl, rfl, rfl, trivial⟩
                  ·
                    intro K21 hK21 jK12095
                    refine CW.seqJ (fun ρ wl11 => (∃ (t58_1 : Bool), ref01_laplace_k8 a1 t6_1 t8_1 t9_1 l5 rec3 x1 t58_1 = some res ∧ ρ = [(1, .slice A_a1 a1.length c_a1), (2, .pointer (some (⟨b1, 0, none⟩))), (4, .slice none 0 0), (5, .slice Am3 m3.length cm3), (6, .int .i64 t6_1), (7, .slice (some ⟨b2, 0, none⟩) l5.length (((List.replicate (Int.toNat ((a1.length : Int))) (0 : Int))).length)), (8, .int .i64 t8_1), (9, .int .i64 t9_1), (10, .pointer (some (⟨b4, 0, none⟩))), (58, .bool t58_1)] ∧ Hp w wl11 [.tab Am3 cm3 39 hsm3 3 1 (encM encN m3), .own (some ⟨b2, 0, none⟩) (((List.replicate (Int.toNat ((a1.length : Int))) (0 : Int))).length) 3 1 (List.map encN l5), .blk b1 24 [.int .i64 a0.points, .slice A_a0_readings a0.readings.length c_a0_readings], .blk b4 46 [.int .i64 x1.from_, .int .i64 x1.to_, .int .i64 x1.rise, .int .i64 x1.weight]])) ?_ ?_
                    ·
                      rintro _ wl11 ⟨t58_1, F, rfl, H⟩
                      have R0 := H.ext
                      unfold ref01_laplace_k8 at F
                      by_cases hp10 : t58_1 = true
                      ·
                        replace F := ite_y hp10 F
                        have hq10 : t58_1 = true := hp10
                        refine CW.condT rfl hq10 ?_
                        obtain ⟨x10, hbx10, hx10, F⟩ := ix_some F
                        obtain ⟨hg7, F⟩ := gd_some F
                        obtain ⟨x11, hbx11, hx11, F⟩ := ix_some F
                        refine CW.draw [8] (fun _ => True) (.cons 0 1 (.cons 1 1 (.cons 2 1 (.cons 3 1 (.cons 4 1 (.cons 5 1 (.cons 6 1 (.cons 7 1 (.cons 8 0 .nil))))))))) mixed (by kernel_rfl) fun w15 E8 => ?_
                        replace H := H.grow E8
                        replace R0 := H.ext
                        refine DW.fix rfl rfl rfl (fun _ EQ => RV.move rfl) ?_
                        refine DW.fix rfl rfl rfl (fun _ EQ => RV.move rfl) ?_
                        refine DW.fix rfl rfl rfl (fun _ EQ => RV.indexAddr Ts39 rfl rfl hbx10 ⟨_, rfl⟩) ?_
                        refine DW.fix rfl rfl rfl (fun _ EQ => RV.load1 Tk3 rfl (((H.grow EQ).own 1 rfl).sl.at_ hx10) rfl) ?_
                        refine DW.fix rfl rfl rfl (fun _ EQ => RV.fieldAddr Tf46_3 rfl) ?_
                        refine DW.fix rfl rfl rfl (fun _ EQ => RV.load1 Tk3 rfl (((H.grow EQ).blk 3 rfl).cells.off 3) rfl) ?_
                        refine DW.fix rfl rfl rfl (fun _ EQ => RV.add rfl rfl hg7) ?_
                        refine DW.fix rfl rfl rfl (fun _ EQ => RV.indexAddr Ts39 rfl rfl hbx11 ⟨_, rfl⟩) ?_
                        refine DW.sole rfl rfl rfl (OW.storeO (enc := encN) (vs := [.int .i64 (x10 + x1.weight)]) 0 (x10 + x1.weight) Tk3 rfl rfl (H.own 1 rfl) (fun _ => rfl) rfl hx11 rfl rfl (by decide) rfl rfl fun w16 M3 O3 => ?_)
                        refine ⟨fun h => absurd h (by decide), M3.modx (fun _ _ => trivial), ?_⟩
                        replace H : Hp w w16 [.tab Am3 cm3 39 hsm3 3 1 (encM encN m3), .own (some ⟨b2, 0, none⟩) (((List.replicate (Int.toNat ((a1.length : Int))) (0 : Int))).length) 3 1 (List.map encN ((l5.set (Int.toNat t8_1) (x10 + x1.weight)))), .blk b1 24 [.int .i64 a0.points, .slice A_a0_readings a0.readings.length c_a0_readings], .blk b4 46 [.int .i64 x1.from_, .int .i64 x1.to_, .int .i64 x1.rise, .int .i64 x1.weight]] := H.mod 1 rfl M3 O3 (.inl rfl)
                        replace R0 := H.ext
                        refine DW.nil (jK12095 _ _ ⟨_, ?_, ⟨((l5.set (Int.toNat t8_1) (x10 + x1.weight))), F, rfl, H⟩⟩)
                        exact ⟨rfl, rfl, rfl, (look_slice rfl (by first | rfl | (simp; done) | omega | (simp; omega))), rfl, (look_slice rfl (by first | rfl | (simp; done) | omega | (simp; omega))), rfl, rfl, rfl, trivial⟩
                      ·
                        replace F := ite_n hp10 F
                        have hq10 : t58_1 = false := raw_f hp10
                        refine CW.condF rfl hq10 ?_
                        refine CW.skip (jK12095 _ _ ⟨_, ?_, ⟨l5, F, rfl, H⟩⟩)
                        exact ⟨rfl, rfl, rfl, (look_slice rfl (by first | rfl | (simp; done) | omega | (simp; omega))), rfl, (look_slice rfl (by first | rfl | (simp; done) | omega | (simp; omega))), rfl, rfl, rfl, trivial⟩
                    ·
                      intro K22 hK22 jK12096
                      by_cases hp11 : t6_1 = t8_1
                      ·
                        replace F := ite_y hp11 F
                        have hq11 := dec_t hp11
                        obtain ⟨x12, hbx12, hx12, F⟩ := ix_some F
                        by_cases hp12 : x1.from_ = x12
                        ·
                          replace F := ite_y hp12 F
                          have hq12 := dec_t hp12
                          refine CW.draw [] (fun _ => True) (.cons 0 1 (.cons 1 1 (.cons 2 1 (.cons 3 1 (.cons 4 1 (.cons 5 1 (.cons 6 1 (.cons 7 1 (.cons 8 1 (.cons 9 1 (.cons 10 1 (.cons 11 1 (.cons 12 1 (.cons 13 1 (.cons 14 1 (.cons 15 1 (.cons 16 1 (.cons 17 1 (.cons 18 1 (.cons 19 1 (.cons 20 1 .nil))))))))))))))))))))) mixed (by kernel_rfl) fun w17 E9 => ?_
                          replace H := H.grow E9
                          replace R0 := H.ext
                          refine DW.fix rfl rfl rfl (fun _ EQ => RV.move rfl) ?_
                          refine DW.fix rfl rfl rfl (fun _ EQ => RV.move rfl) ?_
                          refine DW.fix rfl rfl rfl (fun _ EQ => RV.eqi rfl rfl) ?_
                          refine DW.fix rfl rfl rfl (fun _ EQ => RV.move rfl) ?_
                          refine DW.fixYB rfl rfl rfl rfl rfl hq11 (fun _ EQ => RV.fieldAddr Tf46_0 rfl) ?_
                          refine DW.fixYB rfl rfl rfl rfl rfl hq11 (fun _ EQ => RV.load1 Tk3 rfl (((H.grow EQ).blk 0 rfl).cells.off 0) rfl) ?_
                          refine DW.fixYB rfl rfl rfl rfl rfl hq11 (fun _ EQ => RV.move rfl) ?_
                          refine DW.fixYB rfl rfl rfl rfl rfl hq11 (fun _ EQ => RV.move rfl) ?_
                          refine DW.fixYB rfl rfl rfl rfl rfl hq11 (fun _ EQ => RV.indexAddr Ts39 rfl rfl hbx12 (h_a1.addr_ hx12)) ?_
                          refine DW.fixYB rfl rfl rfl rfl rfl hq11 (fun _ EQ => RV.load1 Tk3 rfl ((h_a1.at_ hx12).ext (R0.trans EQ)) rfl) ?_
                          refine DW.fixYB rfl rfl rfl rfl rfl hq11 (fun _ EQ => RV.eqi rfl rfl) ?_
                          refine DW.fixYB rfl rfl rfl rfl rfl hq11 (fun _ EQ => RV.move rfl) ?_
                          refine DW.fixNB rfl rfl rfl rfl rfl (ne_beq (v := true) hq12 rfl) ?_
                          refine DW.fixNB rfl rfl rfl rfl rfl (ne_beq (v := true) hq12 rfl) ?_
                          refine DW.fixNB rfl rfl rfl rfl rfl (ne_beq (v := true) hq12 rfl) ?_
                          refine DW.fixNB rfl rfl rfl rfl rfl (ne_beq (v := true) hq12 rfl) ?_
                          refine DW.fixNB rfl rfl rfl rfl rfl (ne_beq (v := true) hq12 rfl) ?_
                          refine DW.fixNB rfl rfl rfl rfl rfl (ne_beq (v := true) hq12 rfl) ?_
                          refine DW.fixNB rfl rfl rfl rfl rfl (ne_beq (v := true) hq12 rfl) ?_
                          refine DW.fixYB rfl rfl rfl rfl rfl hq11 (fun _ EQ => RV.pickTB rfl hq12 rfl) ?_
                          refine DW.fix rfl rfl rfl (fun _ EQ => RV.pickTB rfl hq11 rfl) ?_
                          replace H := H.pick (L' := [.tab Am3 cm3 39 hsm3 3 1 (encM encN m3), .own (some ⟨b2, 0, none⟩) (((List.replicate (Int.toNat ((a1.length : Int))) (0 : Int))).length) 3 1 (List.map encN l5), .blk b1 24 [.int .i64 a0.points, .slice A_a0_readings a0.readings.length c_a0_readings], .blk b4 46 [.int .i64 x1.from_, .int .i64 x1.to_, .int .i64 x1.rise, .int .i64 x1.weight]]) [1, 2, 3, 0] (by decide) rfl
                          replace R0 := H.ext
                          refine DW.nil (jK12096 _ _ ⟨_, ?_, ⟨true, F, rfl, H⟩⟩)
                          exact ⟨rfl, rfl, rfl, (look_slice rfl (by first | rfl | (simp; done) | omega | (simp; omega))), rfl, (look_slice rfl (by first | rfl | (simp; done) | omega | (simp; omega))), rfl, rfl, rfl, rfl, trivial⟩
                        ·
                          replace F := ite_n hp12 F
                          have hq12 := dec_f hp12
                          obtain ⟨x13, hbx13, hx13, F⟩ := ix_some F
                          refine CW.draw [] (fun _ => True) (.cons 0 1 (.cons 1 1 (.cons 2 1 (.cons 3 1 (.cons 4 1 (.cons 5 1 (.cons 6 1 (.cons 7 1 (.cons 8 1 (.cons 9 1 (.cons 10 1 (.cons 11 1 (.cons 12 1 (.cons 13 1 (.cons 14 1 (.cons 15 1 (.cons 16 1 (.cons 17 1 (.cons 18 1 (.cons 19 1 (.cons 20 1 .nil))))))))))))))))))))) mixed (by kernel_rfl) fun w18 E10 => ?_
                          replace H := H.grow E10
                          replace R0 := H.ext
                          refine DW.fix rfl rfl rfl (fun _ EQ => RV.move rfl) ?_
                          refine DW.fix rfl rfl rfl (fun _ EQ => RV.move rfl) ?_
                          refine DW.fix rfl rfl rfl (fun _ EQ => RV.eqi rfl rfl) ?_
                          refine DW.fix rfl rfl rfl (fun _ EQ => RV.move rfl) ?_
                          refine DW.fixYB rfl rfl rfl rfl rfl hq11 (fun _ EQ => RV.fieldAddr Tf46_0 rfl) ?_
                          refine DW.fixYB rfl rfl rfl rfl rfl hq11 (fun _ EQ => RV.load1 Tk3 rfl (((H.grow EQ).blk 0 rfl).cells.off 0) rfl) ?_
                          refine DW.fixYB rfl rfl rfl rfl rfl hq11 (fun _ EQ => RV.move rfl) ?_
                          refine DW.fixYB rfl rfl rfl rfl rfl hq11 (fun _ EQ => RV.move rfl) ?_
                          refine DW.fixYB rfl rfl rfl rfl rfl hq11 (fun _ EQ => RV.indexAddr Ts39 rfl rfl hbx12 (h_a1.addr_ hx12)) ?_
                          refine DW.fixYB rfl rfl rfl rfl rfl hq11 (fun _ EQ => RV.load1 Tk3 rfl ((h_a1.at_ hx12).ext (R0.trans EQ)) rfl) ?_
                          refine DW.fixYB rfl rfl rfl rfl rfl hq11 (fun _ EQ => RV.eqi rfl rfl) ?_
                          refine DW.fixYB rfl rfl rfl rfl rfl hq11 (fun _ EQ => RV.move rfl) ?_
                          refine DW.fixYB rfl rfl rfl rfl rfl hq12 (fun _ EQ => RV.fieldAddr Tf46_1 rfl) ?_
                          refine DW.fixYB rfl rfl rfl rfl rfl hq12 (fun _ EQ => RV.load1 Tk3 rfl (((H.grow EQ).blk 0 rfl).cells.off 1) rfl) ?_
                          refine DW.fixYB rfl rfl rfl rfl rfl hq12 (fun _ EQ => RV.move rfl) ?_
                          refine DW.fixYB rfl rfl rfl rfl rfl hq12 (fun _ EQ => RV.move rfl) ?_
                          refine DW.fixYB rfl rfl rfl rfl rfl hq12 (fun _ EQ => RV.indexAddr Ts39 rfl rfl hbx13 (h_a1.addr_ hx13)) ?_
                          refine DW.fixYB rfl rfl rfl rfl rfl hq12 (fun _ EQ => RV.load1 Tk3 rfl ((h_a1.at_ hx13).ext (R0.trans EQ)) rfl) ?_
                          refine DW.fixYB rfl rfl rfl rfl rfl hq12 (fun _ EQ => RV.eqi rfl rfl) ?_
                          refine DW.fixYB rfl rfl rfl rfl rfl hq11 (fun _ EQ => RV.pickFB rfl hq12 rfl) ?_
                          refine DW.fix rfl rfl rfl (fun _ EQ => RV.pickTB rfl hq11 rfl) ?_
                          replace H := H.pick (L' := [.tab Am3 cm3 39 hsm3 3 1 (encM encN m3), .own (some ⟨b2, 0, none⟩) (((List.replicate (Int.toNat ((a1.length : Int))) (0 : Int))).length) 3 1 (List.map encN l5), .blk b1 24 [.int .i64 a0.points, .slice A_a0_readings a0.readings.length c_a0_readings], .blk b4 46 [.int .i64 x1.from_, .int .i64 x1.to_, .int .i64 x1.rise, .int .i64 x1.weight]]) [1, 2, 3, 0] (by decide) rfl
                          replace R0 := H.ext
                          refine DW.nil (jK12096 _ _ ⟨_, ?_, ⟨(decide (x1.to_ = x13)), F, rfl, H⟩⟩)
                          exact ⟨rfl, rfl, rfl, (look_slice rfl (by first | rfl | (simp; done) | omega | (simp; omega))), rfl, (look_slice rfl (by first | rfl | (simp; done) | omega | (simp; omega))), rfl, rfl, rfl, rfl, trivial⟩
                      ·
                        replace F := ite_n hp11 F
                        have hq11 := dec_f hp11
                        refine CW.draw [] (fun _ => True) (.cons 0 1 (.cons 1 1 (.cons 2 1 (.cons 3 1 (.cons 4 1 (.cons 5 1 (.cons 6 1 (.cons 7 1 (.cons 8 1 (.cons 9 1 (.cons 10 1 (.cons 11 1 (.cons 12 1 (.cons 13 1 (.cons 14 1 (.cons 15 1 (.cons 16 1 (.cons 17 1 (.cons 18 1 (.cons 19 1 (.cons 20 1 .nil))))))))))))))))))))) mixed (by kernel_rfl) fun w19 E11 => ?_
                        replace H := H.grow E11
                        replace R0 := H.ext
                        refine DW.fix rfl rfl rfl (fun _ EQ => RV.move rfl) ?_
                        refine DW.fix rfl rfl rfl (fun _ EQ => RV.move rfl) ?_
                        refine DW.fix rfl rfl rfl (fun _ EQ => RV.eqi rfl rfl) ?_
                        refine DW.fix rfl rfl rfl (fun _ EQ => RV.move rfl) ?_
                        refine DW.fixNB rfl rfl rfl rfl rfl (ne_beq (v := false) hq11 rfl) ?_
                        refine DW.fixNB rfl rfl rfl rfl rfl (ne_beq (v := false) hq11 rfl) ?_
                        refine DW.fixNB rfl rfl rfl rfl rfl (ne_beq (v := false) hq11 rfl) ?_
                        refine DW.fixNB rfl rfl rfl rfl rfl (ne_beq (v := false) hq11 rfl) ?_
                        refine DW.fixNB rfl rfl rfl rfl rfl (ne_beq (v := false) hq11 rfl) ?_
                        refine DW.fixNB rfl rfl rfl rfl rfl (ne_beq (v := false) hq11 rfl) ?_
                        refine DW.fixNB rfl rfl rfl rfl rfl (ne_beq (v := false) hq11 rfl) ?_
                        refine DW.fixNB rfl rfl rfl rfl rfl (ne_beq (v := false) hq11 rfl) ?_
                        refine DW.fixNU rfl rfl rfl rfl rfl ?_
                        refine DW.fixNU rfl rfl rfl rfl rfl ?_
                        refine DW.fixNU rfl rfl rfl rfl rfl ?_
                        refine DW.fixNU rfl rfl rfl rfl rfl ?_
                        refine DW.fixNU rfl rfl rfl rfl rfl ?_
                        refine DW.fixNU rfl rfl rfl rfl rfl ?_
                        refine DW.fixNU rfl rfl rfl rfl rfl ?_
                        refine DW.fixNB rfl rfl rfl rfl rfl (ne_beq (v := false) hq11 rfl) ?_
                        refine DW.fix rfl rfl rfl (fun _ EQ => RV.pickFB rfl hq11 rfl) ?_
                        replace H := H.pick (L' := [.tab Am3 cm3 39 hsm3 3 1 (encM encN m3), .own (some ⟨b2, 0, none⟩) (((List.replicate (Int.toNat ((a1.length : Int))) (0 : Int))).length) 3 1 (List.map encN l5), .blk b1 24 [.int .i64 a0.points, .slice A_a0_readings a0.readings.length c_a0_readings], .blk b4 46 [.int .i64 x1.from_, .int .i64 x1.to_, .int .i64 x1.rise, .int .i64 x1.weight]]) [1, 2, 3, 0] (by decide) rfl
                        replace R0 := H.ext
                        refine DW.nil (jK12096 _ _ ⟨_, ?_, ⟨false, F, rfl, H⟩⟩)
                        exact ⟨rfl, rfl, rfl, (look_slice rfl (by first | rfl | (simp; done) | omega | (simp; omega))), rfl, (look_slice rfl (by first | rfl | (simp; done) | omega | (simp; omega))), rfl, rfl, rfl, rfl, trivial⟩
              ·
                replace F := ite_n hp3 F
                have hq3 := dec_f hp3
                refine CW.condF rfl hq3 ?_
                refine CW.exit (jK12056 _ _ ⟨_, ?_, ⟨l5, F, rfl, H⟩⟩)
                exact ⟨rfl, rfl, rfl, (look_slice rfl (by first | rfl | (simp; done) | omega | (simp; omega))), rfl, (look_slice rfl (by first | rfl | (simp; done) | omega | (simp; omega))), rfl, trivial⟩
          ·
            replace F := ite_n hp2 F
            have hq2 := dec_f hp2
            refine CW.condF rfl hq2 ?_
            refine CW.exit (jK11846 _ _ ⟨_, ?_, ⟨l6, F, rfl, H⟩⟩)
            exact ⟨rfl, rfl, rfl, (look_slice rfl (by first | rfl | (simp; done) | omega | (simp; omega))), rfl, (look_slice rfl (by first | rfl | (simp; done) | omega | (simp; omega))), trivial⟩
    ·
      replace F := ite_n hp1 F
      have hq1 := dec_f hp1
      refine CW.condF rfl hq1 ?_
      replace H := H.pick (L' := [.tab Am3 cm3 39 hsm3 3 1 (encM encN m3)]) [0] (by decide) rfl
      replace R0 := H.ext
      refine CW.exit (jK9074 _ _ ⟨_, ?_, ⟨m3, hsm3, Am3, cm3, F, rfl, H⟩⟩)
      exact ⟨rfl, (look_slice rfl (by first | rfl | (simp; done) | omega | (simp; omega))), trivial⟩
end Go.D1

set_option linter.unusedVariables false
set_option linter.unusedSimpArgs false
namespace Go.D1
open Go.Tb Go.Proofs Go.RowKit
theorem Tb4 : Try.prog.underlying 4 = some .bool := by kernel_rfl
theorem Tc100 : callable Try.prog 100 = true := by kernel_rfl
theorem Tc33 : callable Try.prog 33 = true := by kernel_rfl
theorem Tc99 : callable Try.prog 99 = true := by kernel_rfl
set_option maxRecDepth 20000 in
set_option maxHeartbeats 1000000 in
theorem ref01_det_F_ok : ∀ (n_ : Nat) {a0 : List (List Int)} {A_a0 : Option Addr} {c_a0 : Nat} {w : World} {res : Int} (h_a0 : Sl2 w A_a0 c_a0 1 encN a0) (F : ref01_det_F n_ a0 = some res), Calls Try.prog 99 #[.slice A_a0 a0.length c_a0] w (Rt w (.int .i64 res)) := by
  intro n_
  induction n_ with
  | zero =>
    intro a0 A_a0 c_a0 w res h_a0 F
    cases F
  | succ n_ ih =>
    intro a0 A_a0 c_a0 w res h_a0 F
    replace F : ref01_det_body (ref01_det_F n_) a0 = some res := F
    generalize hrecf : ref01_det_F n_ = recf at F ih
    refine calls_of_cw (args := [.slice A_a0 a0.length c_a0]) Try.func99 rfl rfl rfl rfl ?_
    have H := Hp.start w
    have R0 := H.ext
    unfold ref01_det_body at F
    refine CW.seq fun K1 hK1 => ?_
    refine CW.region ?_
    refine LW.pure rfl rfl (RV.assign rfl) ?_
    refine LW.nil (hK1 _ _ ?_)
    refine CW.seq fun K2 hK2 => ?_
    refine CW.seq fun K3 hK3 => ?_
    refine CW.region ?_
    refine LW.pure rfl rfl (RV.move rfl) ?_
    refine LW.pure rfl rfl (RV.len Ts36 rfl) ?_
    refine LW.pure rfl rfl (RV.eqi rfl rfl) ?_
    refine LW.nil (hK3 _ _ ?_)
    by_cases hp1 : ((a0.length : Int)) = 0
    ·
      replace F := ite_y hp1 F
      have hq1 := dec_t hp1
      refine CW.condT rfl hq1 ?_
      refine CW.seq fun K4 hK4 => ?_
      refine CW.region ?_
      refine LW.pure rfl rfl (RV.assign rfl) ?_
      refine LW.nil (hK4 _ _ ?_)
      refine CW.ret ?_
      obtain rfl := Option.some.inj F
      refine ⟨_, (ResOK.one rfl), ?_⟩
      refine ⟨(by first | rfl | simp), R0⟩
    ·
      replace F := ite_n hp1 F
      have hq1 := dec_f hp1
      refine CW.condF rfl hq1 ?_
      refine CW.skip (hK2 _ _ ?_)
      refine CW.seq fun K5 hK5 => ?_
      refine CW.region ?_
      refine LW.pure rfl rfl (RV.assign rfl) ?_
      refine LW.pure rfl rfl (RV.assign rfl) ?_
      refine LW.nil (hK5 _ _ ?_)
      refine CW.seqJ (fun ρ wl1 => (∃ (t3_1 : Int), ref01_det_k1 t3_1 = some res ∧ ρ = [(2, .int .i64 0), (3, .int .i64 t3_1)] ∧ Hp w wl1 [])) ?_ ?_
      ·
        rintro _ wl1 ⟨t3_1, F, rfl, H⟩
        have R0 := H.ext
        unfold ref01_det_k1 at F
        refine CW.seq fun K6 hK6 => ?_
        refine CW.region ?_
        refine LW.pure rfl rfl (RV.move rfl) ?_
        refine LW.pure rfl rfl (RV.assign rfl) ?_
        refine LW.nil (hK6 _ _ ?_)
        refine CW.ret ?_
        obtain rfl := Option.some.inj F
        refine ⟨_, (ResOK.one rfl), ?_⟩
        refine ⟨(by first | rfl | simp), R0⟩
      ·
        intro K7 hK7 jK458
        refine CW.seq fun K8 hK8 => ?_
        refine CW.region ?_
        refine LW.pure rfl rfl (RV.assign rfl) ?_
        refine LW.nil (hK8 _ _ ?_)
        refine CW.block ?_
        refine CW.loop (fun meas ρ wl2 => ∃ (t3_3 : Int) (t4_1 : Int) (t5_1 : Int), ref01_det_L2 a0 recf meas t3_3 t4_1 t5_1 = some res ∧ ρ = [(0, .slice A_a0 a0.length c_a0), (2, .int .i64 0), (3, .int .i64 t3_3), (4, .int .i64 t4_1), (5, .int .i64 t5_1)] ∧ Hp w wl2 []) FU ⟨_, ?_, ((0 : Int)), ((1 : Int)), ((0 : Int)), F, rfl, H⟩ ?_
        · exact ⟨rfl, rfl, rfl, rfl, rfl, trivial⟩
        rintro mk1 _ wl2 ⟨t3_3, t4_1, t5_1, F, rfl, H⟩
        have R0 := H.ext
        replace F := ref01_det_L2_s F
        obtain ⟨mk1, rfl, F⟩ := F
        generalize hrec1 : ref01_det_L2 a0 recf mk1 = rec1 at F
        unfold ref01_det_B2 at F
        refine CW.seq fun K9 hK9 => ?_
        refine CW.seq fun K10 hK10 => ?_
        refine CW.region ?_
        refine LW.pure rfl rfl (RV.move rfl) ?_
        refine LW.pure rfl rfl (RV.move rfl) ?_
        refine LW.pure rfl rfl (RV.len Ts36 rfl) ?_
        refine LW.pure rfl rfl (RV.lss rfl rfl) ?_
        refine LW.nil (hK10 _ _ ?_)
        by_cases hp2 : t5_1 < ((a0.length : Int))
        ·
          replace F := ite_y hp2 F
          have hq2 := dec_t hp2
          refine CW.condT rfl hq2 ?_
          refine CW.skip (hK9 _ _ ?_)
          refine CW.seqJ (fun ρ wl3 => (∃ (t3_2 : Int), ref01_det_k2 t4_1 t5_1 rec1 t3_2 = some res ∧ ρ = [(0, .slice A_a0 a0.length c_a0), (2, .int .i64 0), (3, .int .i64 t3_2), (4, .int .i64 (-t4_1)), (5, .int .i64 t5_1)] ∧ Hp w wl3 [])) ?_ ?_
          ·
            rintro _ wl3 ⟨t3_2, F, rfl, H⟩
            have R0 := H.ext
            unfold ref01_det_k2 at F
            obtain ⟨hg1, F⟩ := gd_some F
            refine CW.region ?_
            refine LW.pure rfl rfl (RV.move rfl) ?_
            refine LW.pure rfl rfl (RV.add rfl rfl hg1) ?_
            refine LW.pure rfl rfl (RV.assign rfl) ?_
            refine LW.nil ?_
            subst hrec1
            refine ⟨mk1, Nat.lt_succ_self _, _, ?_, t3_2, (-t4_1), (t5_1 + 1), F, rfl, H⟩
            exact ⟨rfl, rfl, rfl, rfl, rfl, trivial⟩
          ·
            intro K11 hK11 jK583
            refine CW.block ?_
            refine CW.seq fun K12 hK12 => ?_
            refine CW.region ?_
            refine LW.pure rfl rfl (RV.assign rfl) ?_
            refine LW.nil (hK12 _ _ ?_)
            refine CW.seqJ (fun ρ wl4 => (∃ (m1 : List (List Int)) (hsm1 : List (Option Addr × Nat)) (Am1 : Option Addr) (cm1 : Nat), ref01_det_k3 a0 recf t3_3 t4_1 t5_1 rec1 m1 = some res ∧ ρ = [(0, .slice A_a0 a0.length c_a0), (2, .int .i64 0), (3, .int .i64 t3_3), (4, .int .i64 t4_1), (5, .int .i64 t5_1), (6, .slice Am1 m1.length cm1)] ∧ Hp w wl4 [.tab Am1 cm1 39 hsm1 3 1 (encM encN m1)])) ?_ ?_
            ·
              rintro _ wl4 ⟨m1, hsm1, Am1, cm1, F, rfl, H⟩
              have R0 := H.ext
              unfold ref01_det_k3 at F
              refine CW.seq fun K13 hK13 => ?_
              obtain ⟨x1, hbx1, hx1, F⟩ := ix_some F
              obtain ⟨x2, hbx2, hx2, F⟩ := ix_some F
              obtain ⟨hg2, F⟩ := gd_some F
              obtain ⟨r1, hr1, F⟩ := bnd_some F
              obtain ⟨hg3, F⟩ := gd_some F
              obtain ⟨hg4, F⟩ := gd_some F
              refine CW.draw [] (fun _ => True) (.cons 0 1 (.cons 1 1 (.cons 2 1 (.cons 3 1 (.cons 4 1 (.cons 5 1 (.cons 6 1 (.cons 7 1 (.cons 8 1 (.cons 9 1 (.cons 10 0 (.cons 11 1 (.cons 12 1 (.cons 13 1 .nil)))))))))))))) mixed (by kernel_rfl) fun w1 E1 => ?_
              replace H := H.grow E1
              replace R0 := H.ext
              refine DW.fix rfl rfl rfl (fun _ EQ => RV.move rfl) ?_
              refine DW.fix rfl rfl rfl (fun _ EQ => RV.move rfl) ?_
              refine DW.fix rfl rfl rfl (fun _ EQ => RV.move rfl) ?_
              obtain ⟨A1, c1, hC1, hS1⟩ := h_a0.at_ hx1
              refine DW.fix rfl rfl rfl (fun _ EQ => RV.indexAddr Ts36 rfl rfl hbx1 (h_a0.addr hbx1)) ?_
              refine DW.fix rfl rfl rfl (fun _ EQ => RV.load1 Tk39 rfl (hC1.ext (R0.trans EQ)) rfl) ?_
              refine DW.fix rfl rfl rfl (fun _ EQ => RV.move rfl) ?_
              refine DW.fix rfl rfl rfl (fun _ EQ => RV.indexAddr Ts39 rfl rfl hbx2 (hS1.addr_ hx2)) ?_
              refine DW.fix rfl rfl rfl (fun _ EQ => RV.load1 Tk3 rfl ((hS1.at_ hx2).ext (R0.trans EQ)) rfl) ?_
              refine DW.fix rfl rfl rfl (fun _ EQ => RV.mul rfl rfl hg2) ?_
              refine DW.fix rfl rfl rfl (fun _ EQ => RV.move rfl) ?_
              refine DW.sole rfl rfl rfl (OW.call Tc99 rfl (ih (a0 := m1) (H.tab 0 rfl).sl2 hr1) ?_)
              rintro _ w2 ⟨rfl, E2⟩
              refine ⟨_, rfl, fun _ => E2, ModX.ext E2, ?_⟩
              replace H := H.grow E2
              replace R0 := H.ext
              refine DW.fix rfl rfl rfl (fun _ EQ => RV.mul rfl rfl hg3) ?_
              refine DW.fix rfl rfl rfl (fun _ EQ => RV.add rfl rfl hg4) ?_
              refine DW.fix rfl rfl rfl (fun _ EQ => RV.assign rfl) ?_
              refine DW.nil (hK13 _ _ ?_)
              obtain ⟨hg5, F⟩ := gd_some F
              refine CW.region ?_
              refine LW.pure rfl rfl (RV.move rfl) ?_
              refine LW.pure rfl rfl (RV.neg rfl hg5) ?_
              refine LW.pure rfl rfl (RV.assign rfl) ?_
              replace H := H.pick (L' := []) [] (by decide) rfl
              replace R0 := H.ext
              refine LW.nil (jK583 _ _ ⟨_, ?_, ⟨(t3_3 + ((t4_1 * x2) * r1)), F, rfl, H⟩⟩)
              exact ⟨rfl, rfl, rfl, rfl, rfl, trivial⟩
            ·
              intro K14 hK14 jK596
              refine CW.seq fun K15 hK15 => ?_
              refine CW.region ?_
              refine LW.pure rfl rfl (RV.assign rfl) ?_
              refine LW.nil (hK15 _ _ ?_)
              refine CW.block ?_
              replace H := H.nilTab encN 39 3 1
              replace R0 := H.ext
              refine CW.loop (fun meas ρ wl5 => ∃ (t7_1 : Int) (m2 : List (List Int)) (hsm2 : List (Option Addr × Nat)) (Am2 : Option Addr) (cm2 : Nat), ref01_det_L1 a0 recf t3_3 t4_1 t5_1 rec1 meas t7_1 m2 = some res ∧ ρ = [(0, .slice A_a0 a0.length c_a0), (2, .int .i64 0), (3, .int .i64 t3_3), (4, .int .i64 t4_1), (5, .int .i64 t5_1), (6, .slice Am2 m2.length cm2), (7, .int .i64 t7_1)] ∧ Hp w wl5 [.tab Am2 cm2 39 hsm2 3 1 (encM encN m2)]) FU ⟨_, ?_, ((1 : Int)), (([] : List (List Int))), ([]), none, 0, F, rfl, H⟩ ?_
              · exact ⟨rfl, rfl, rfl, rfl, rfl, (look_slice rfl (by first | rfl | (simp; done) | omega | (simp; omega))), rfl, trivial⟩
              rintro mk2 _ wl5 ⟨t7_1, m2, hsm2, Am2, cm2, F, rfl, H⟩
              have R0 := H.ext
              replace F := ref01_det_L1_s F
              obtain ⟨mk2, rfl, F⟩ := F
              generalize hrec2 : ref01_det_L1 a0 recf t3_3 t4_1 t5_1 rec1 mk2 = rec2 at F
              unfold ref01_det_B1 at F
              refine CW.seq fun K16 hK16 => ?_
              refine CW.seq fun K17 hK17 => ?_
              refine CW.region ?_
              refine LW.pure rfl rfl (RV.move rfl) ?_
              refine LW.pure rfl rfl (RV.move rfl) ?_
              refine LW.pure rfl rfl (RV.len Ts36 rfl) ?_
              refine LW.pure rfl rfl (RV.lss rfl rfl) ?_
              refine LW.nil (hK17 _ _ ?_)
              by_cases hp3 : t7_1 < ((a0.length : Int))
              ·
                replace F := ite_y hp3 F
                have hq3 := dec_t hp3
                refine CW.condT rfl hq3 ?_
                refine CW.skip (hK16 _ _ ?_)
                refine CW.seq fun K18 hK18 => ?_
                refine CW.block ?_
                obtain ⟨x3, hbx3, hx3, F⟩ := ix_some F
                obtain ⟨hg6, F⟩ := gd_some F
                obtain ⟨hg7, F⟩ := gd_some F
                obtain ⟨x4, hbx4, hx4, F⟩ := ix_some F
                obtain ⟨hg8, F⟩ := gd_some F
                obtain ⟨hg9, F⟩ := gd_some F
                obtain ⟨hg10, F⟩ := gd_some F
                obtain ⟨hg11, F⟩ := gd_some F
                have H0 := H
                have hz : wl5.heap.size ≤ wl5.heap.size := Nat.le_refl _
                refine CW.draw [8, 16, 18] (XB wl5 [.tab Am2 cm2 39 hsm2 3 1 (encM encN m2)] [0]) (.cons 0 2 (.cons 2 2 (.cons 3 2 (.cons 4 2 (.cons 5 2 (.cons 6 2 (.cons 7 2 (.cons 9 2 (.cons 10 2 (.cons 11 2 (.cons 12 2 (.cons 13 2 (.cons 14 2 (.cons 15 2 (.cons 1 0 (.cons 8 0 (.cons 16 0 (.cons 17 0 (.cons 18 0 (.cons 19 2 .nil)))))))))))))))))))) mixed (by kernel_rfl) fun w3 E3 => ?_
                replace H := H.grow E3
                replace R0 := H.ext
                replace hz := Nat.le_trans hz (Ext.size E3)
                refine DW.thru rfl rfl rfl (fun _ EQ => RV.move rfl) ?_
                refine DW.thru rfl rfl rfl (fun _ EQ => RV.move rfl) ?_
                refine DW.thru rfl rfl rfl (fun _ EQ => RV.move rfl) ?_
                obtain ⟨A2, c2, hC2, hS2⟩ := h_a0.at_ hx3
                refine DW.thru rfl rfl rfl (fun _ EQ => RV.indexAddr Ts36 rfl rfl hbx3 (h_a0.addr hbx3)) ?_
                refine DW.thru rfl rfl rfl (fun _ EQ => RV.load1 Tk39 rfl (H0.old EQ R0 hC2) rfl) ?_
                refine DW.thru rfl rfl rfl (fun _ EQ => RV.move rfl) ?_
                refine DW.thru rfl rfl rfl (fun _ EQ => RV.cutH (l := x3) Ts39 rfl rfl hg6 (hS2.ext R0).le rfl) ?_
                refine DW.thru rfl rfl rfl (fun _ EQ => RV.move rfl) ?_
                refine DW.thru rfl rfl rfl (fun _ EQ => RV.move rfl) ?_
                obtain ⟨A3, c3, hC3, hS3⟩ := h_a0.at_ hx4
                refine DW.thru rfl rfl rfl (fun _ EQ => RV.indexAddr Ts36 rfl rfl hbx4 (h_a0.addr hbx4)) ?_
                refine DW.thru rfl rfl rfl (fun _ EQ => RV.load1 Tk39 rfl (H0.old EQ R0 hC3) rfl) ?_
                refine DW.thru rfl rfl rfl (fun _ EQ => RV.move rfl) ?_
                refine DW.thru rfl rfl rfl (fun _ EQ => RV.add rfl rfl hg8) ?_
                refine DW.thru rfl rfl rfl (fun _ EQ => RV.cutL (l := x4) Ts39 rfl rfl hg9 (hS3.ext R0).le rfl) ?_
                refine DW.sole rfl rfl rfl (OW.buildSlice (e := 3) (vs := []) (cs := []) rfl (fun _ => by kernel_rfl) fun b1 w4 N1 => ?_)
                refine ⟨fun _ => N1.ext, ModX.ext N1.ext, ?_⟩
                have G0_b1 : wl5.heap.size ≤ b1 := by rw [N1.at_]; exact hz
                replace H := H.made' (k := 1) (t := 3) (enc := encN) (l := ([] : List Int)) N1 N1.blk (fun _ => rfl) rfl (by first | decide | omega | (simp; done) | (simp; omega))
                replace R0 := H.ext
                replace hz := Nat.le_trans hz (Ext.size N1.ext)
                refine DW.sole rfl rfl rfl (OW.appendG (enc := encN) (l := ([] : List Int)) (xs := (List.take (Int.toNat t5_1) x3)) Ts39 (look_slice rfl (by first | rfl | (simp; done) | (simp; omega))) rfl (H.own 0 rfl) ((hS2.ext R0).cutH hg6) (fun _ => rfl) rfl rfl hg7 (by decide) fun A4 c4 w5 O1 M1 D1 => ?_)
                have G0_A4 := Fresh.nextZ (Fresh.at_ G0_b1) D1 hz
                refine ⟨fun h => absurd h (by decide), M1.modx (XB.newA (Fresh.at_ G0_b1)), ?_⟩
                replace H : Hp w w5 [.own A4 c4 3 1 (List.map encN ((([] : List Int) ++ (List.take (Int.toNat t5_1) x3)))), .tab Am2 cm2 39 hsm2 3 1 (encM encN m2)] := H.mod 0 rfl M1 O1 D1
                replace R0 := H.ext
                replace hz := Nat.le_trans hz M1.size
                refine DW.sole rfl rfl rfl (OW.appendG (enc := encN) (l := (([] : List Int) ++ (List.take (Int.toNat t5_1) x3))) (xs := (List.drop (Int.toNat (t5_1 + 1)) x4)) Ts39 rfl rfl (H.own 0 rfl) ((hS3.ext R0).cutL hg9) (fun _ => rfl) rfl rfl hg10 (by decide) fun A5 c5 w6 O2 M2 D2 => ?_)
                have G0_A5 := Fresh.nextZ G0_A4 D2 hz
                refine ⟨fun h => absurd h (by decide), M2.modx (XB.newA G0_A4), ?_⟩
                replace H : Hp w w6 [.own A5 c5 3 1 (List.map encN (((([] : List Int) ++ (List.take (Int.toNat t5_1) x3)) ++ (List.drop (Int.toNat (t5_1 + 1)) x4)))), .tab Am2 cm2 39 hsm2 3 1 (encM encN m2)] := H.mod 0 rfl M2 O2 D2
                replace R0 := H.ext
                replace hz := Nat.le_trans hz M2.size
                refine DW.sole rfl rfl rfl (OW.buildSlice (e := 39) (vs := [.slice A5 ((((([] : List Int) ++ (List.take (Int.toNat t5_1) x3)) ++ (List.drop (Int.toNat (t5_1 + 1)) x4))).length) c5]) (cs := [.slice A5 ((((([] : List Int) ++ (List.take (Int.toNat t5_1) x3)) ++ (List.drop (Int.toNat (t5_1 + 1)) x4))).length) c5]) rfl (fun _ => by kernel_rfl) fun b2 w7 N2 => ?_)
                refine ⟨fun _ => N2.ext, ModX.ext N2.ext, ?_⟩
                have G0_b2 : wl5.heap.size ≤ b2 := by rw [N2.at_]; exact hz
                replace H := H.made' (k := 1) (t := 39) (enc := encH) (l := ([((A5, c5), List.map encN (((([] : List Int) ++ (List.take (Int.toNat t5_1) x3)) ++ (List.drop (Int.toNat (t5_1 + 1)) x4))))] : List ((Option Addr × Nat) × List (List Value)))) N2 (by have q := N2.blk; simp only [List.flatMap_cons, List.flatMap_nil, encH, List.length_map, List.append_nil, List.cons_append, List.nil_append]; first | done | exact q) (fun _ => rfl) rfl (by first | decide | omega | (simp; done) | (simp; omega))
                replace R0 := H.ext
                replace hz := Nat.le_trans hz (Ext.size N2.ext)
                refine DW.sole rfl rfl rfl (OW.appendT (enc := encN) (m := m2) (l := ((([] : List Int) ++ (List.take (Int.toNat t5_1) x3)) ++ (List.drop (Int.toNat (t5_1 + 1)) x4))) Ts36 rfl rfl (H.tab 2 rfl) (H.own 0 rfl).sl rfl hg11 (by decide) fun A6 c6 w8 O3 M3 D3 => ?_)
                refine ⟨fun h => absurd h (by decide), M3.modx (XB.tabO 0 (by decide) rfl), ?_⟩
                replace H : Hp w w8 [.own (some ⟨b2, 0, none⟩) ((([((A5, c5), List.map encN (((([] : List Int) ++ (List.take (Int.toNat t5_1) x3)) ++ (List.drop (Int.toNat (t5_1 + 1)) x4))))] : List ((Option Addr × Nat) × List (List Value)))).length) 39 1 (List.map encH (([((A5, c5), List.map encN (((([] : List Int) ++ (List.take (Int.toNat t5_1) x3)) ++ (List.drop (Int.toNat (t5_1 + 1)) x4))))] : List ((Option Addr × Nat) × List (List Value))))), .tab A6 c6 39 ((hsm2 ++ [(A5, c5)])) 3 1 (encM encN ((m2 ++ [((([] : List Int) ++ (List.take (Int.toNat t5_1) x3)) ++ (List.drop (Int.toNat (t5_1 + 1)) x4))])))] := H.tabPush 2 1 (by decide) rfl rfl M3 D3 O3
                replace R0 := H.ext
                replace hz := Nat.le_trans hz M3.size
                refine DW.thru rfl rfl rfl (fun _ EQ => RV.assign rfl) ?_
                refine DW.nil (hK18 _ _ ?_)
                obtain ⟨hg12, F⟩ := gd_some F
                refine CW.region ?_
                refine LW.pure rfl rfl (RV.move rfl) ?_
                refine LW.pure rfl rfl (RV.add rfl rfl hg12) ?_
                refine LW.pure rfl rfl (RV.assign rfl) ?_
                refine LW.nil ?_
                replace H := H.pick (L' := [.tab A6 c6 39 ((hsm2 ++ [(A5, c5)])) 3 1 (encM encN ((m2 ++ [((([] : List Int) ++ (List.take (Int.toNat t5_1) x3)) ++ (List.drop (Int.toNat (t5_1 + 1)) x4))])))]) [1] (by decide) rfl
                replace R0 := H.ext
                subst hrec2
                refine ⟨mk2, Nat.lt_succ_self _, _, ?_, (t7_1 + 1), ((m2 ++ [((([] : List Int) ++ (List.take (Int.toNat t5_1) x3)) ++ (List.drop (Int.toNat (t5_1 + 1)) x4))])), ((hsm2 ++ [(A5, c5)])), A6, c6, F, rfl, H⟩
                exact ⟨rfl, rfl, rfl, rfl, rfl, (look_slice rfl (by first | rfl | (simp; done) | omega | (simp; omega))), rfl, trivial⟩
              ·
                replace F := ite_n hp3 F
                have hq3 := dec_f hp3
                refine CW.condF rfl hq3 ?_
                refine CW.exit (jK596 _ _ ⟨_, ?_, ⟨m2, hsm2, Am2, cm2, F, rfl, H⟩⟩)
                exact ⟨rfl, rfl, rfl, rfl, rfl, (look_slice rfl (by first | rfl | (simp; done) | omega | (simp; omega))), trivial⟩
        ·
          replace F := ite_n hp2 F
          have hq2 := dec_f hp2
          refine CW.condF rfl hq2 ?_
          refine CW.exit (jK458 _ _ ⟨_, ?_, ⟨t3_3, F, rfl, H⟩⟩)
          exact ⟨rfl, rfl, trivial⟩
theorem ref01_det_ok {a0 : List (List Int)} {A_a0 : Option Addr} {c_a0 : Nat} {w : World} {res : Int} (h_a0 : Sl2 w A_a0 c_a0 1 encN a0) (F : ref01_det a0 = some res) : Calls Try.prog 99 #[.slice A_a0 a0.length c_a0] w (Rt w (.int .i64 res)) := ref01_det_F_ok FU h_a0 F
set_option maxRecDepth 20000 in
set_option maxHeartbeats 1000000 in
theorem ref01_Ratio_ok {a0 : Int} {a1 : Int} {w : World} {res : Rat} (F : ref01_Ratio a0 a1 = some res) : Calls Try.prog 33 #[.int .i64 a0, .int .i64 a1] w (Rt w (.agg #[.int .i64 res.num, .int .i64 res.den])) := by
  refine calls_of_cw (args := [.int .i64 a0, .int .i64 a1]) Try.func33 rfl rfl rfl rfl ?_
  have H := Hp.start w
  have R0 := H.ext
  unfold ref01_Ratio at F
  refine CW.seq fun K1 hK1 => ?_
  refine CW.region ?_
  refine LW.go rfl rfl (OW.alloc Tz28 fun b1 w1 N1 => ?_)
  replace H := H.new N1 N1.blk
  replace R0 := H.ext
  refine LW.nil (hK1 _ _ ?_)
  refine CW.seq fun K2 hK2 => ?_
  refine CW.region ?_
  refine LW.pure rfl rfl (RV.move rfl) ?_
  refine LW.pure rfl rfl (RV.move rfl) ?_
  refine LW.pure rfl rfl (RV.assign rfl) ?_
  refine LW.pure rfl rfl (RV.assign rfl) ?_
  refine LW.nil (hK2 _ _ ?_)
  refine CW.seqJ (fun ρ wl1 => (∃ (t5_2 : Int), ref01_Ratio_k2 a0 a1 t5_2 = some res ∧ ρ = [(0, .int .i64 a0), (1, .int .i64 a1), (4, .pointer (some (⟨b1, 0, none⟩))), (5, .int .i64 t5_2)] ∧ Hp w wl1 [.blk b1 28 [.int .i64 0, .int .i64 0]])) ?_ ?_
  ·
    rintro _ wl1 ⟨t5_2, F, rfl, H⟩
    have R0 := H.ext
    unfold ref01_Ratio_k2 at F
    refine CW.seqJ (fun ρ wl2 => (∃ (t5_1 : Int), ref01_Ratio_k1 a0 a1 t5_1 = some res ∧ ρ = [(0, .int .i64 a0), (1, .int .i64 a1), (4, .pointer (some (⟨b1, 0, none⟩))), (5, .int .i64 t5_1)] ∧ Hp w wl2 [.blk b1 28 [.int .i64 0, .int .i64 0]])) ?_ ?_
    ·
      rintro _ wl2 ⟨t5_1, F, rfl, H⟩
      have R0 := H.ext
      unfold ref01_Ratio_k1 at F
      refine CW.seq fun K3 hK3 => ?_
      obtain ⟨hg1, F⟩ := gd_some F
      obtain ⟨hg2, F⟩ := gd_some F
      refine CW.draw [7] (fun _ => True) (.cons 0 1 (.cons 1 1 (.cons 2 1 (.cons 3 1 (.cons 4 1 (.cons 5 1 (.cons 6 1 (.cons 7 0 .nil)))))))) mixed (by kernel_rfl) fun w2 E1 => ?_
      replace H := H.grow E1
      replace R0 := H.ext
      refine DW.fix rfl rfl rfl (fun _ EQ => RV.move rfl) ?_
      refine DW.fix rfl rfl rfl (fun _ EQ => RV.move rfl) ?_
      refine DW.fix rfl rfl rfl (fun _ EQ => RV.quo rfl rfl hg1) ?_
      refine DW.fix rfl rfl rfl (fun _ EQ => RV.move rfl) ?_
      refine DW.fix rfl rfl rfl (fun _ EQ => RV.move rfl) ?_
      refine DW.fix rfl rfl rfl (fun _ EQ => RV.quo rfl rfl hg2) ?_
      refine DW.fix rfl rfl rfl (fun _ EQ => RV.build (vs := [.int .i64 (Int.tdiv a0 t5_1), .int .i64 (Int.tdiv a1 t5_1)]) (cs := [.int .i64 (Int.tdiv a0 t5_1), .int .i64 (Int.tdiv a1 t5_1)]) rfl (fun _ => by kernel_rfl)) ?_
      refine DW.sole rfl rfl rfl (OW.store Tk28 rfl rfl (H.blk 0 rfl) (off := 0) (vs := [.int .i64 (Int.tdiv a0 t5_1), .int .i64 (Int.tdiv a1 t5_1)]) rfl rfl rfl rfl rfl fun w3 S1 => ?_)
      refine ⟨fun h => absurd h (by decide), S1.modx trivial, ?_⟩
      replace H : Hp w w3 [.blk b1 28 [.int .i64 (Int.tdiv a0 t5_1), .int .i64 (Int.tdiv a1 t5_1)]] := H.stored 0 rfl S1
      replace R0 := H.ext
      refine DW.nil (hK3 _ _ ?_)
      refine CW.ret ?_
      obtain rfl := Option.some.inj F
      refine ⟨_, (ResOK.cell1 ⟨_, rfl, run_loadVar_agg Tk28 (H.blk 0 rfl).cells (us := [.int .i64 (Int.tdiv a0 t5_1), .int .i64 (Int.tdiv a1 t5_1)]) rfl rfl⟩), ?_⟩
      refine ⟨(by first | rfl | simp), R0⟩
    ·
      intro K4 hK4 jK30
      refine CW.seq fun K5 hK5 => ?_
      refine CW.region ?_
      refine LW.pure rfl rfl (RV.move rfl) ?_
      refine LW.pure rfl rfl (RV.lss rfl rfl) ?_
      refine LW.pure rfl rfl (RV.move rfl) ?_
      refine LW.pure rfl rfl (RV.lss rfl rfl) ?_
      refine LW.pure rfl rfl (RV.neb Tb4 rfl rfl) ?_
      refine LW.nil (hK5 _ _ ?_)
      by_cases hp1 : ((decide (t5_2 < 0)) == (decide (a1 < 0))) = true
      ·
        replace F := ite_y hp1 F
        have hq1 : ((decide (t5_2 < 0)) == (decide (a1 < 0))) = true := hp1
        refine CW.condF rfl (not_f hq1) ?_
        refine CW.skip (jK30 _ _ ⟨_, ?_, ⟨t5_2, F, rfl, H⟩⟩)
        exact ⟨rfl, rfl, rfl, rfl, trivial⟩
      ·
        replace F := ite_n hp1 F
        have hq1 : ((decide (t5_2 < 0)) == (decide (a1 < 0))) = false := raw_f hp1
        refine CW.condT rfl (not_t hq1) ?_
        obtain ⟨hg3, F⟩ := gd_some F
        refine CW.region ?_
        refine LW.pure rfl rfl (RV.move rfl) ?_
        refine LW.pure rfl rfl (RV.neg rfl hg3) ?_
        refine LW.pure rfl rfl (RV.assign rfl) ?_
        refine LW.nil (jK30 _ _ ⟨_, ?_, ⟨(-t5_2), F, rfl, H⟩⟩)
        exact ⟨rfl, rfl, rfl, rfl, trivial⟩
  ·
    intro K6 hK6 jK32
    refine CW.block ?_
    refine CW.loop (fun meas ρ wl3 => ∃ (t5_3 : Int) (t6_1 : Int), ref01_Ratio_L1 a0 a1 meas t5_3 t6_1 = some res ∧ ρ = [(0, .int .i64 a0), (1, .int .i64 a1), (4, .pointer (some (⟨b1, 0, none⟩))), (5, .int .i64 t5_3), (6, .int .i64 t6_1)] ∧ Hp w wl3 [.blk b1 28 [.int .i64 0, .int .i64 0]]) FU ⟨_, ?_, a0, a1, F, rfl, H⟩ ?_
    · exact ⟨rfl, rfl, rfl, rfl, rfl, trivial⟩
    rintro mk1 _ wl3 ⟨t5_3, t6_1, F, rfl, H⟩
    have R0 := H.ext
    replace F := ref01_Ratio_L1_s F
    obtain ⟨mk1, rfl, F⟩ := F
    generalize hrec1 : ref01_Ratio_L1 a0 a1 mk1 = rec1 at F
    unfold ref01_Ratio_B1 at F
    refine CW.seq fun K7 hK7 => ?_
    refine CW.seq fun K8 hK8 => ?_
    refine CW.region ?_
    refine LW.pure rfl rfl (RV.move rfl) ?_
    refine LW.pure rfl rfl (RV.nei rfl rfl) ?_
    refine LW.nil (hK8 _ _ ?_)
    by_cases hp2 : t6_1 = 0
    ·
      replace F := ite_y hp2 F
      have hq2 := dec_t hp2
      refine CW.condF rfl (not_f hq2) ?_
      refine CW.exit (jK32 _ _ ⟨_, ?_, ⟨t5_3, F, rfl, H⟩⟩)
      exact ⟨rfl, rfl, rfl, rfl, trivial⟩
    ·
      replace F := ite_n hp2 F
      have hq2 := dec_f hp2
      refine CW.condT rfl (not_t hq2) ?_
      refine CW.skip (hK7 _ _ ?_)
      refine CW.block ?_
      obtain ⟨hg4, F⟩ := gd_some F
      refine CW.draw [] (fun _ => True) (.cons 0 1 (.cons 1 1 (.cons 2 1 (.cons 3 1 (.cons 4 1 (.cons 5 1 .nil)))))) mixed (by kernel_rfl) fun w4 E2 => ?_
      replace H := H.grow E2
      replace R0 := H.ext
      refine DW.fix rfl rfl rfl (fun _ EQ => RV.move rfl) ?_
      refine DW.fix rfl rfl rfl (fun _ EQ => RV.move rfl) ?_
      refine DW.fix rfl rfl rfl (fun _ EQ => RV.move rfl) ?_
      refine DW.fix rfl rfl rfl (fun _ EQ => RV.rem rfl rfl hg4) ?_
      refine DW.fix rfl rfl rfl (fun _ EQ => RV.assign rfl) ?_
      refine DW.fix rfl rfl rfl (fun _ EQ => RV.assign rfl) ?_
      refine DW.nil ?_
      subst hrec1
      refine ⟨mk1, Nat.lt_succ_self _, _, ?_, t6_1, (Int.tmod t5_3 t6_1), F, rfl, H⟩
      exact ⟨rfl, rfl, rfl, rfl, rfl, trivial⟩
end Go.D1
