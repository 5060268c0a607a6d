/- Lemmas and walks that the proof of this claim uses: D1m6, D1m7, D1m8, D1m14, D1m15, D1m16, D1m17, D1m27, D1s2D. -/
import Derived.Test.YtgnlfgkmkkjkoaaLevelWalks3
set_option linter.unusedVariables false
set_option linter.unusedSimpArgs false
namespace Go.D1
open Go.Tb Go.Proofs Go.RowKit
theorem Tc19 : callable Try.prog 19 = true := by kernel_rfl
theorem Tc34 : callable Try.prog 34 = true := by kernel_rfl
theorem Tc69 : callable Try.prog 69 = true := by kernel_rfl
theorem Tc74 : callable Try.prog 74 = true := by kernel_rfl
theorem Te28g : Try.prog.eqGuardType Try.prog.depth 28 = false := by kernel_rfl
theorem Te28 (a0 : Int) (a1 : Int) (b0 : Int) (b1 : Int) (w : World) : (Op.equalIn 10000 28 (.agg #[.int .i64 a0, .int .i64 a1]) (.agg #[.int .i64 b0, .int .i64 b1])).run Try.prog w = .ok ((a0 == b0) && (a1 == b1)) w := by
  rw [run_equalIn_agg w 9999 28 _ _ (by kernel_rfl) (by kernel_rfl)]
  simp [Program.fieldsOf, Try.underlying28, Op.eqFields, go_sem]
  by_cases h0 : a0 = b0 <;> by_cases h1 : a1 = b1 <;> simp [h0, h1]
theorem Tz24 : tyZ Try.prog 24 = some (.agg #[.int .i64 0, .slice none 0 0]) := by kernel_rfl
set_option maxRecDepth 20000 in
set_option maxHeartbeats 1000000 in
theorem level_Best_ok {a0 : Survey} {A_a0_readings : Option Addr} {c_a0_readings : Nat} {w : World} {res : (List Rat) × Int} (h_a0_readings : Sl w A_a0_readings c_a0_readings 4 (a0.readings.map encReading)) (F : level_Best a0 = some res) : Calls Try.prog 34 #[.agg #[.int .i64 a0.points, .slice A_a0_readings a0.readings.length c_a0_readings]] w (fun e w' => ∃ (A0 : Option Addr) (c0 : Nat), e = .returned (.tuple #[.slice A0 res.1.length c0, .int .i64 res.2]) ∧ Hp w w' [.own A0 c0 28 2 (List.map encRat res.1)]) := by
  refine calls_of_cw (args := [.agg #[.int .i64 a0.points, .slice A_a0_readings a0.readings.length c_a0_readings]]) Try.func34 rfl rfl rfl rfl ?_
  have H := Hp.start w
  have R0 := H.ext
  unfold level_Best at F
  refine CW.seq fun K1 hK1 => ?_
  refine CW.region ?_
  refine LW.go rfl rfl (OW.box rfl fun b1 w1 N1 => ?_)
  replace H := H.new N1 N1.blk
  replace R0 := H.ext
  refine LW.pure rfl rfl (RV.assign rfl) ?_
  refine LW.pure rfl rfl (RV.assign rfl) ?_
  refine LW.nil (hK1 _ _ ?_)
  refine CW.seq fun K2 hK2 => ?_
  refine CW.seq fun K3 hK3 => ?_
  obtain ⟨r1, hr1, F⟩ := bnd_some F
  refine CW.region ?_
  refine LW.pure rfl rfl (RV.loadA [.int .i64 a0.points, .slice A_a0_readings a0.readings.length c_a0_readings] Tk24 rfl (H.blk 0 rfl).cells rfl rfl) ?_
  refine LW.go rfl rfl (OW.call Tc25 rfl (level_Validate_ok (a0 := a0) (h_a0_readings.ext R0) hr1) ?_)
  rintro _ w2 ⟨rfl, E1⟩
  refine ⟨_, rfl, ?_⟩
  replace H := H.grow E1
  replace R0 := H.ext
  refine LW.pure rfl rfl (RV.assign rfl) ?_
  refine LW.nil (hK3 _ _ ?_)
  refine CW.seq fun K4 hK4 => ?_
  refine CW.region ?_
  refine LW.pure rfl rfl (RV.move rfl) ?_
  refine LW.pure rfl rfl (RV.nei rfl rfl) ?_
  refine LW.nil (hK4 _ _ ?_)
  by_cases hp1 : r1 = 0
  ·
    replace F := ite_y hp1 F
    have hq1 := dec_t hp1
    refine CW.condF rfl (not_f hq1) ?_
    refine CW.skip (hK2 _ _ ?_)
    refine CW.seq fun K5 hK5 => ?_
    obtain ⟨r2, hr2, F⟩ := bnd_some F
    refine CW.region ?_
    refine LW.pure rfl rfl (RV.loadA [.int .i64 a0.points, .slice A_a0_readings a0.readings.length c_a0_readings] Tk24 rfl (H.blk 0 rfl).cells rfl rfl) ?_
    refine LW.go rfl rfl (OW.call Tc74 rfl (level_best_ok (a0 := a0) (h_a0_readings.ext R0) hr2) ?_)
    rintro _ w3 ⟨A6_0, c6_0, rfl, E2⟩
    refine ⟨_, rfl, ?_⟩
    replace H : Hp w w3 [.own A6_0 c6_0 28 2 (List.map encRat r2), .blk b1 24 [.int .i64 a0.points, .slice A_a0_readings a0.readings.length c_a0_readings]] := H.append E2
    replace R0 := H.ext
    refine LW.pure rfl rfl (RV.assign rfl) ?_
    refine LW.pure rfl rfl (RV.assign rfl) ?_
    refine LW.nil (hK5 _ _ ?_)
    refine CW.ret ?_
    obtain rfl := Option.some.inj F
    refine ⟨_, (ResOK.two rfl rfl), ?_⟩
    replace H := H.pick (L' := [.own A6_0 c6_0 28 2 (List.map encRat r2)]) [0] (by decide) rfl
    replace R0 := H.ext
    exact ⟨A6_0, c6_0, (by first | rfl | (simp; done) | (simp; omega)), H⟩
  ·
    replace F := ite_n hp1 F
    have hq1 := dec_f hp1
    refine CW.condT rfl (not_t hq1) ?_
    refine CW.seq fun K6 hK6 => ?_
    refine CW.region ?_
    refine LW.pure rfl rfl (RV.move rfl) ?_
    refine LW.pure rfl rfl (RV.assign rfl) ?_
    refine LW.pure rfl rfl (RV.assign rfl) ?_
    refine LW.nil (hK6 _ _ ?_)
    refine CW.ret ?_
    obtain rfl := Option.some.inj F
    refine ⟨_, (ResOK.two rfl rfl), ?_⟩
    replace H := H.nilOwn 28 2
    replace R0 := H.ext
    replace H := H.pick (L' := [.own none 0 28 2 (List.map encRat (([] : List Rat)))]) [0] (by decide) rfl
    replace R0 := H.ext
    exact ⟨none, 0, (by first | rfl | (simp; done) | (simp; omega)), H⟩
set_option maxRecDepth 20000 in
set_option maxHeartbeats 1000000 in
theorem law01_known_ok {w : World} {res : Bool} (F : law01_known = some res) : Calls Try.prog 18 #[] w (Rt w (.bool res)) := by
  refine calls_of_cw (args := []) Try.func18 rfl rfl rfl rfl ?_
  have H := Hp.start w
  have R0 := H.ext
  unfold law01_known at F
  refine CW.seq fun K1 hK1 => ?_
  refine CW.region ?_
  refine LW.pure rfl rfl (RV.assign rfl) ?_
  refine LW.nil (hK1 _ _ ?_)
  refine CW.seq fun K2 hK2 => ?_
  refine CW.region ?_
  refine LW.pure rfl rfl (RV.build (vs := [.int .i64 0, .int .i64 1, .int .i64 10, .int .i64 1]) (cs := [.int .i64 0, .int .i64 1, .int .i64 10, .int .i64 1]) rfl (fun _ => by kernel_rfl)) ?_
  refine LW.pure rfl rfl (RV.build (vs := [.int .i64 0, .int .i64 1, .int .i64 13, .int .i64 2]) (cs := [.int .i64 0, .int .i64 1, .int .i64 13, .int .i64 2]) rfl (fun _ => by kernel_rfl)) ?_
  refine LW.go rfl rfl (OW.buildSlice (e := 46) (vs := [.agg #[.int .i64 0, .int .i64 1, .int .i64 10, .int .i64 1], .agg #[.int .i64 0, .int .i64 1, .int .i64 13, .int .i64 2]]) (cs := [.int .i64 0, .int .i64 1, .int .i64 10, .int .i64 1, .int .i64 0, .int .i64 1, .int .i64 13, .int .i64 2]) rfl (fun _ => by kernel_rfl) fun b1 w1 N1 => ?_)
  replace H := H.made' (k := 4) (t := 46) (enc := encReading) (l := ([(⟨0, 1, 10, 1⟩ : Reading), (⟨0, 1, 13, 2⟩ : Reading)] : List Reading)) N1 N1.blk (fun _ => rfl) rfl (by first | decide | omega | (simp; done) | (simp; omega))
  replace R0 := H.ext
  refine LW.pure rfl rfl (RV.build (vs := [.int .i64 2, .slice (some ⟨b1, 0, none⟩) 2 ((([(⟨0, 1, 10, 1⟩ : Reading), (⟨0, 1, 13, 2⟩ : Reading)] : List Reading)).length)]) (cs := [.int .i64 2, .slice (some ⟨b1, 0, none⟩) 2 ((([(⟨0, 1, 10, 1⟩ : Reading), (⟨0, 1, 13, 2⟩ : Reading)] : List Reading)).length)]) rfl (fun _ => by kernel_rfl)) ?_
  refine LW.go rfl rfl (OW.alloc Tz24 fun b2 w2 N2 => ?_)
  replace H := H.new N2 N2.blk
  replace R0 := H.ext
  refine LW.go rfl rfl (OW.store Tk24 rfl rfl (H.blk 0 rfl) (off := 0) (vs := [.int .i64 2, .slice (some ⟨b1, 0, none⟩) 2 ((([(⟨0, 1, 10, 1⟩ : Reading), (⟨0, 1, 13, 2⟩ : Reading)] : List Reading)).length)]) rfl rfl rfl rfl rfl fun w3 S1 => ?_)
  replace H : Hp w w3 [.blk b2 24 [.int .i64 2, .slice (some ⟨b1, 0, none⟩) 2 ((([(⟨0, 1, 10, 1⟩ : Reading), (⟨0, 1, 13, 2⟩ : Reading)] : List Reading)).length)], .own (some ⟨b1, 0, none⟩) ((([(⟨0, 1, 10, 1⟩ : Reading), (⟨0, 1, 13, 2⟩ : Reading)] : List Reading)).length) 46 4 (List.map encReading (([(⟨0, 1, 10, 1⟩ : Reading), (⟨0, 1, 13, 2⟩ : Reading)] : List Reading)))] := H.stored 0 rfl S1
  replace R0 := H.ext
  refine LW.nil (hK2 _ _ ?_)
  refine CW.seq fun K3 hK3 => ?_
  obtain ⟨r1, hr1, F⟩ := bnd_some F
  refine CW.region ?_
  refine LW.pure rfl rfl (RV.loadA [.int .i64 2, .slice (some ⟨b1, 0, none⟩) 2 ((([(⟨0, 1, 10, 1⟩ : Reading), (⟨0, 1, 13, 2⟩ : Reading)] : List Reading)).length)] Tk24 rfl (H.blk 0 rfl).cells rfl rfl) ?_
  refine LW.go rfl rfl (OW.call Tc34 (evs_cast rfl (by first | rfl | (simp; done) | (simp; omega))) (level_Best_ok (a0 := (⟨2, ([(⟨0, 1, 10, 1⟩ : Reading), (⟨0, 1, 13, 2⟩ : Reading)] : List Reading)⟩ : Survey)) (H.own 1 rfl).sl hr1) ?_)
  rintro _ w4 ⟨A4_0, c4_0, rfl, E1⟩
  refine ⟨_, rfl, ?_⟩
  replace H : Hp w w4 [.own A4_0 c4_0 28 2 (List.map encRat r1.1), .blk b2 24 [.int .i64 2, .slice (some ⟨b1, 0, none⟩) 2 ((([(⟨0, 1, 10, 1⟩ : Reading), (⟨0, 1, 13, 2⟩ : Reading)] : List Reading)).length)], .own (some ⟨b1, 0, none⟩) ((([(⟨0, 1, 10, 1⟩ : Reading), (⟨0, 1, 13, 2⟩ : Reading)] : List Reading)).length) 46 4 (List.map encReading (([(⟨0, 1, 10, 1⟩ : Reading), (⟨0, 1, 13, 2⟩ : Reading)] : List Reading)))] := H.append E1
  replace R0 := H.ext
  refine LW.pure rfl rfl (RV.move rfl) ?_
  refine LW.pure rfl rfl (RV.extract rfl rfl) ?_
  refine LW.pure rfl rfl (RV.extract rfl rfl) ?_
  refine LW.pure rfl rfl (RV.assign rfl) ?_
  refine LW.pure rfl rfl (RV.assign rfl) ?_
  refine LW.nil (hK3 _ _ ?_)
  refine CW.seq fun K4 hK4 => ?_
  obtain ⟨r2, hr2, F⟩ := bnd_some F
  refine CW.region ?_
  refine LW.pure rfl rfl (RV.loadA [.int .i64 2, .slice (some ⟨b1, 0, none⟩) 2 ((([(⟨0, 1, 10, 1⟩ : Reading), (⟨0, 1, 13, 2⟩ : Reading)] : List Reading)).length)] Tk24 rfl (H.blk 1 rfl).cells rfl rfl) ?_
  refine LW.go rfl rfl (OW.call Tc19 (evs_cast rfl (by first | rfl | (simp; done) | (simp; omega))) (level_Error_ok (a0 := (⟨2, ([(⟨0, 1, 10, 1⟩ : Reading), (⟨0, 1, 13, 2⟩ : Reading)] : List Reading)⟩ : Survey)) (a1 := (0 : Int)) (a2 := (1 : Int)) (H.own 2 rfl).sl hr2) ?_)
  rintro _ w5 ⟨rfl, E2⟩
  refine ⟨_, rfl, ?_⟩
  replace H := H.grow E2
  replace R0 := H.ext
  refine LW.pure rfl rfl (RV.move rfl) ?_
  refine LW.pure rfl rfl (RV.extract rfl rfl) ?_
  refine LW.pure rfl rfl (RV.extract rfl rfl) ?_
  refine LW.go rfl rfl (OW.alloc Tz28 fun b3 w6 N3 => ?_)
  replace H := H.new N3 N3.blk
  replace R0 := H.ext
  refine LW.go rfl rfl (OW.store Tk28 rfl rfl (H.blk 0 rfl) (off := 0) (vs := [.int .i64 r2.1.num, .int .i64 r2.1.den]) rfl rfl rfl rfl rfl fun w7 S2 => ?_)
  replace H : Hp w w7 [.blk b3 28 [.int .i64 r2.1.num, .int .i64 r2.1.den], .own A4_0 c4_0 28 2 (List.map encRat r1.1), .blk b2 24 [.int .i64 2, .slice (some ⟨b1, 0, none⟩) 2 ((([(⟨0, 1, 10, 1⟩ : Reading), (⟨0, 1, 13, 2⟩ : Reading)] : List Reading)).length)], .own (some ⟨b1, 0, none⟩) ((([(⟨0, 1, 10, 1⟩ : Reading), (⟨0, 1, 13, 2⟩ : Reading)] : List Reading)).length) 46 4 (List.map encReading (([(⟨0, 1, 10, 1⟩ : Reading), (⟨0, 1, 13, 2⟩ : Reading)] : List Reading)))] := H.stored 0 rfl S2
  replace R0 := H.ext
  refine LW.pure rfl rfl (RV.assign rfl) ?_
  refine LW.nil (hK4 _ _ ?_)
  refine CW.seq fun K5 hK5 => ?_
  by_cases hp1 : r1.2 = 0
  ·
    replace F := ite_y hp1 F
    have hq1 := dec_t hp1
    by_cases hp2 : ((r1.1.length : Int)) = 2
    ·
      replace F := ite_y hp2 F
      have hq2 := dec_t hp2
      obtain ⟨x1, hbx1, hx1, F⟩ := ix_some F
      by_cases hp3 : ((x1.num == 12) && (x1.den == 1)) = true
      ·
        replace F := ite_y hp3 F
        have hq3 : ((x1.num == 12) && (x1.den == 1)) = true := hp3
        by_cases hp4 : r2.2 = 0
        ·
          replace F := ite_y hp4 F
          have hq4 := dec_t hp4
          refine CW.region ?_
          refine LW.pure rfl rfl (RV.move rfl) ?_
          refine LW.pure rfl rfl (RV.eqi rfl rfl) ?_
          refine LW.pure rfl rfl (RV.move rfl) ?_
          refine LW.pureYB rfl rfl rfl rfl hq1 (RV.move rfl) ?_
          refine LW.pureYB rfl rfl rfl rfl hq1 (RV.len Ts53 rfl) ?_
          refine LW.pureYB rfl rfl rfl rfl hq1 (RV.eqi rfl rfl) ?_
          refine LW.pure rfl rfl (RV.pickTB rfl hq1 rfl) ?_
          refine LW.pure rfl rfl (RV.move rfl) ?_
          refine LW.pureYB rfl rfl rfl rfl hq2 (RV.move rfl) ?_
          refine LW.pureYB rfl rfl rfl rfl hq2 (RV.indexAddr Ts53 rfl rfl hbx1 ((H.own 1 rfl).sl.addr_ hx1)) ?_
          refine LW.pureYB rfl rfl rfl rfl hq2 (RV.loadA [.int .i64 x1.num, .int .i64 x1.den] Tk28 rfl ((H.own 1 rfl).sl.at_ hx1) rfl rfl) ?_
          refine LW.pureYB rfl rfl rfl rfl hq2 (RV.build (vs := [.int .i64 12, .int .i64 1]) (cs := [.int .i64 12, .int .i64 1]) rfl (fun _ => by kernel_rfl)) ?_
          refine LW.pureYB rfl rfl rfl rfl hq2 (RV.eqA Te28g (Te28 _ _ _ _ ) rfl rfl) ?_
          refine LW.pure rfl rfl (RV.pickTB rfl hq2 rfl) ?_
          refine LW.pure rfl rfl (RV.move rfl) ?_
          refine LW.pureYB rfl rfl rfl rfl hq3 (RV.move rfl) ?_
          refine LW.pureYB rfl rfl rfl rfl hq3 (RV.eqi rfl rfl) ?_
          refine LW.pure rfl rfl (RV.pickTB rfl hq3 rfl) ?_
          refine LW.pure rfl rfl (RV.move rfl) ?_
          refine LW.pureYB rfl rfl rfl rfl hq4 (RV.loadA [.int .i64 r2.1.num, .int .i64 r2.1.den] Tk28 rfl (H.blk 0 rfl).cells rfl rfl) ?_
          refine LW.pureYB rfl rfl rfl rfl hq4 (RV.build (vs := [.int .i64 1, .int .i64 3]) (cs := [.int .i64 1, .int .i64 3]) rfl (fun _ => by kernel_rfl)) ?_
          refine LW.pureYB rfl rfl rfl rfl hq4 (RV.eqA Te28g (Te28 _ _ _ _ ) rfl rfl) ?_
          refine LW.pure rfl rfl (RV.pickTB rfl hq4 rfl) ?_
          refine LW.pure rfl rfl (RV.assign rfl) ?_
          refine LW.nil (hK5 _ _ ?_)
          refine CW.ret ?_
          obtain rfl := Option.some.inj F
          refine ⟨_, (ResOK.one rfl), ?_⟩
          refine ⟨(by first | rfl | simp), R0⟩
        ·
          replace F := ite_n hp4 F
          have hq4 := dec_f hp4
          refine CW.region ?_
          refine LW.pure rfl rfl (RV.move rfl) ?_
          refine LW.pure rfl rfl (RV.eqi rfl rfl) ?_
          refine LW.pure rfl rfl (RV.move rfl) ?_
          refine LW.pureYB rfl rfl rfl rfl hq1 (RV.move rfl) ?_
          refine LW.pureYB rfl rfl rfl rfl hq1 (RV.len Ts53 rfl) ?_
          refine LW.pureYB rfl rfl rfl rfl hq1 (RV.eqi rfl rfl) ?_
          refine LW.pure rfl rfl (RV.pickTB rfl hq1 rfl) ?_
          refine LW.pure rfl rfl (RV.move rfl) ?_
          refine LW.pureYB rfl rfl rfl rfl hq2 (RV.move rfl) ?_
          refine LW.pureYB rfl rfl rfl rfl hq2 (RV.indexAddr Ts53 rfl rfl hbx1 ((H.own 1 rfl).sl.addr_ hx1)) ?_
          refine LW.pureYB rfl rfl rfl rfl hq2 (RV.loadA [.int .i64 x1.num, .int .i64 x1.den] Tk28 rfl ((H.own 1 rfl).sl.at_ hx1) rfl rfl) ?_
          refine LW.pureYB rfl rfl rfl rfl hq2 (RV.build (vs := [.int .i64 12, .int .i64 1]) (cs := [.int .i64 12, .int .i64 1]) rfl (fun _ => by kernel_rfl)) ?_
          refine LW.pureYB rfl rfl rfl rfl hq2 (RV.eqA Te28g (Te28 _ _ _ _ ) rfl rfl) ?_
          refine LW.pure rfl rfl (RV.pickTB rfl hq2 rfl) ?_
          refine LW.pure rfl rfl (RV.move rfl) ?_
          refine LW.pureYB rfl rfl rfl rfl hq3 (RV.move rfl) ?_
          refine LW.pureYB rfl rfl rfl rfl hq3 (RV.eqi rfl rfl) ?_
          refine LW.pure rfl rfl (RV.pickTB rfl hq3 rfl) ?_
          refine LW.pure rfl rfl (RV.move rfl) ?_
          refine LW.noB rfl rfl rfl rfl (ne_beq (v := false) hq4 rfl) ?_
          refine LW.noB rfl rfl rfl rfl (ne_beq (v := false) hq4 rfl) ?_
          refine LW.noB rfl rfl rfl rfl (ne_beq (v := false) hq4 rfl) ?_
          refine LW.pure rfl rfl (RV.pickFB rfl hq4 rfl) ?_
          refine LW.pure rfl rfl (RV.assign rfl) ?_
          refine LW.nil (hK5 _ _ ?_)
          refine CW.ret ?_
          obtain rfl := Option.some.inj F
          refine ⟨_, (ResOK.one rfl), ?_⟩
          refine ⟨(by first | rfl | simp), R0⟩
      ·
        replace F := ite_n hp3 F
        have hq3 : ((x1.num == 12) && (x1.den == 1)) = false := raw_f hp3
        refine CW.region ?_
        refine LW.pure rfl rfl (RV.move rfl) ?_
        refine LW.pure rfl rfl (RV.eqi rfl rfl) ?_
        refine LW.pure rfl rfl (RV.move rfl) ?_
        refine LW.pureYB rfl rfl rfl rfl hq1 (RV.move rfl) ?_
        refine LW.pureYB rfl rfl rfl rfl hq1 (RV.len Ts53 rfl) ?_
        refine LW.pureYB rfl rfl rfl rfl hq1 (RV.eqi rfl rfl) ?_
        refine LW.pure rfl rfl (RV.pickTB rfl hq1 rfl) ?_
        refine LW.pure rfl rfl (RV.move rfl) ?_
        refine LW.pureYB rfl rfl rfl rfl hq2 (RV.move rfl) ?_
        refine LW.pureYB rfl rfl rfl rfl hq2 (RV.indexAddr Ts53 rfl rfl hbx1 ((H.own 1 rfl).sl.addr_ hx1)) ?_
        refine LW.pureYB rfl rfl rfl rfl hq2 (RV.loadA [.int .i64 x1.num, .int .i64 x1.den] Tk28 rfl ((H.own 1 rfl).sl.at_ hx1) rfl rfl) ?_
        refine LW.pureYB rfl rfl rfl rfl hq2 (RV.build (vs := [.int .i64 12, .int .i64 1]) (cs := [.int .i64 12, .int .i64 1]) rfl (fun _ => by kernel_rfl)) ?_
        refine LW.pureYB rfl rfl rfl rfl hq2 (RV.eqA Te28g (Te28 _ _ _ _ ) rfl rfl) ?_
        refine LW.pure rfl rfl (RV.pickTB rfl hq2 rfl) ?_
        refine LW.pure rfl rfl (RV.move rfl) ?_
        refine LW.noB rfl rfl rfl rfl (ne_beq (v := false) hq3 rfl) ?_
        refine LW.noB rfl rfl rfl rfl (ne_beq (v := false) hq3 rfl) ?_
        refine LW.pure rfl rfl (RV.pickFB rfl hq3 rfl) ?_
        refine LW.pure rfl rfl (RV.move rfl) ?_
        refine LW.noB rfl rfl rfl rfl (ne_beq (v := false) rfl rfl) ?_
        refine LW.noB rfl rfl rfl rfl (ne_beq (v := false) rfl rfl) ?_
        refine LW.noB rfl rfl rfl rfl (ne_beq (v := false) rfl rfl) ?_
        refine LW.pure rfl rfl (RV.pickFB rfl rfl rfl) ?_
        refine LW.pure rfl rfl (RV.assign rfl) ?_
        refine LW.nil (hK5 _ _ ?_)
        refine CW.ret ?_
        obtain rfl := Option.some.inj F
        refine ⟨_, (ResOK.one rfl), ?_⟩
        refine ⟨(by first | rfl | simp), R0⟩
    ·
      replace F := ite_n hp2 F
      have hq2 := dec_f hp2
      refine CW.region ?_
      refine LW.pure rfl rfl (RV.move rfl) ?_
      refine LW.pure rfl rfl (RV.eqi rfl rfl) ?_
      refine LW.pure rfl rfl (RV.move rfl) ?_
      refine LW.pureYB rfl rfl rfl rfl hq1 (RV.move rfl) ?_
      refine LW.pureYB rfl rfl rfl rfl hq1 (RV.len Ts53 rfl) ?_
      refine LW.pureYB rfl rfl rfl rfl hq1 (RV.eqi rfl rfl) ?_
      refine LW.pure rfl rfl (RV.pickTB rfl hq1 rfl) ?_
      refine LW.pure rfl rfl (RV.move rfl) ?_
      refine LW.noB rfl rfl rfl rfl (ne_beq (v := false) hq2 rfl) ?_
      refine LW.noB rfl rfl rfl rfl (ne_beq (v := false) hq2 rfl) ?_
      refine LW.noB rfl rfl rfl rfl (ne_beq (v := false) hq2 rfl) ?_
      refine LW.noB rfl rfl rfl rfl (ne_beq (v := false) hq2 rfl) ?_
      refine LW.noB rfl rfl rfl rfl (ne_beq (v := false) hq2 rfl) ?_
      refine LW.pure rfl rfl (RV.pickFB rfl hq2 rfl) ?_
      refine LW.pure rfl rfl (RV.move rfl) ?_
      refine LW.noB rfl rfl rfl rfl (ne_beq (v := false) rfl rfl) ?_
      refine LW.noB rfl rfl rfl rfl (ne_beq (v := false) rfl rfl) ?_
      refine LW.pure rfl rfl (RV.pickFB rfl rfl rfl) ?_
      refine LW.pure rfl rfl (RV.move rfl) ?_
      refine LW.noB rfl rfl rfl rfl (ne_beq (v := false) rfl rfl) ?_
      refine LW.noB rfl rfl rfl rfl (ne_beq (v := false) rfl rfl) ?_
      refine LW.noB rfl rfl rfl rfl (ne_beq (v := false) rfl rfl) ?_
      refine LW.pure rfl rfl (RV.pickFB rfl rfl rfl) ?_
      refine LW.pure rfl rfl (RV.assign rfl) ?_
      refine LW.nil (hK5 _ _ ?_)
      refine CW.ret ?_
      obtain rfl := Option.some.inj F
      refine ⟨_, (ResOK.one rfl), ?_⟩
      refine ⟨(by first | rfl | simp), R0⟩
  ·
    replace F := ite_n hp1 F
    have hq1 := dec_f hp1
    refine CW.region ?_
    refine LW.pure rfl rfl (RV.move rfl) ?_
    refine LW.pure rfl rfl (RV.eqi rfl rfl) ?_
    refine LW.pure rfl rfl (RV.move rfl) ?_
    refine LW.noB rfl rfl rfl rfl (ne_beq (v := false) hq1 rfl) ?_
    refine LW.noB rfl rfl rfl rfl (ne_beq (v := false) hq1 rfl) ?_
    refine LW.noB rfl rfl rfl rfl (ne_beq (v := false) hq1 rfl) ?_
    refine LW.pure rfl rfl (RV.pickFB rfl hq1 rfl) ?_
    refine LW.pure rfl rfl (RV.move rfl) ?_
    refine LW.noB rfl rfl rfl rfl (ne_beq (v := false) rfl rfl) ?_
    refine LW.noB rfl rfl rfl rfl (ne_beq (v := false) rfl rfl) ?_
    refine LW.noB rfl rfl rfl rfl (ne_beq (v := false) rfl rfl) ?_
    refine LW.noB rfl rfl rfl rfl (ne_beq (v := false) rfl rfl) ?_
    refine LW.noB rfl rfl rfl rfl (ne_beq (v := false) rfl rfl) ?_
    refine LW.pure rfl rfl (RV.pickFB rfl rfl rfl) ?_
    refine LW.pure rfl rfl (RV.move rfl) ?_
    refine LW.noB rfl rfl rfl rfl (ne_beq (v := false) rfl rfl) ?_
    refine LW.noB rfl rfl rfl rfl (ne_beq (v := false) rfl rfl) ?_
    refine LW.pure rfl rfl (RV.pickFB rfl rfl rfl) ?_
    refine LW.pure rfl rfl (RV.move rfl) ?_
    refine LW.noB rfl rfl rfl rfl (ne_beq (v := false) rfl rfl) ?_
    refine LW.noB rfl rfl rfl rfl (ne_beq (v := false) rfl rfl) ?_
    refine LW.noB rfl rfl rfl rfl (ne_beq (v := false) rfl rfl) ?_
    refine LW.pure rfl rfl (RV.pickFB rfl rfl rfl) ?_
    refine LW.pure rfl rfl (RV.assign rfl) ?_
    refine LW.nil (hK5 _ _ ?_)
    refine CW.ret ?_
    obtain rfl := Option.some.inj F
    refine ⟨_, (ResOK.one rfl), ?_⟩
    refine ⟨(by first | rfl | simp), R0⟩
set_option maxRecDepth 20000 in
set_option maxHeartbeats 1000000 in
theorem law01_Long_ok {a0 : Survey} {A_a0_readings : Option Addr} {c_a0_readings : Nat} {w : World} {res : Bool} (h_a0_readings : Sl w A_a0_readings c_a0_readings 4 (a0.readings.map encReading)) (F : law01_Long a0 = some res) : Calls Try.prog 17 #[.agg #[.int .i64 a0.points, .slice A_a0_readings a0.readings.length c_a0_readings]] w (Rt w (.bool res)) := by
  refine calls_of_cw (args := [.agg #[.int .i64 a0.points, .slice A_a0_readings a0.readings.length c_a0_readings]]) Try.func17 rfl rfl rfl rfl ?_
  have H := Hp.start w
  have R0 := H.ext
  unfold law01_Long at F
  refine CW.seq fun K1 hK1 => ?_
  refine CW.region ?_
  refine LW.go rfl rfl (OW.box rfl fun b1 w1 N1 => ?_)
  replace H := H.new N1 N1.blk
  replace R0 := H.ext
  refine LW.pure rfl rfl (RV.assign rfl) ?_
  refine LW.nil (hK1 _ _ ?_)
  refine CW.seq fun K2 hK2 => ?_
  refine CW.region ?_
  refine LW.pure rfl rfl (RV.fieldAddr Tf24_1 rfl) ?_
  refine LW.pure rfl rfl (RV.load1 Tk22 rfl ((H.blk 0 rfl).cells.off 1) rfl) ?_
  refine LW.pure rfl rfl (RV.len Ts22 rfl) ?_
  refine LW.pure rfl rfl (RV.gtr rfl rfl) ?_
  refine LW.pure rfl rfl (RV.assign rfl) ?_
  refine LW.nil (hK2 _ _ ?_)
  refine CW.ret ?_
  obtain rfl := Option.some.inj F
  refine ⟨_, (ResOK.one rfl), ?_⟩
  refine ⟨(by first | rfl | simp), R0⟩
set_option maxRecDepth 20000 in
set_option maxHeartbeats 1000000 in
theorem ref01_within_ok {a0 : Int} {a1 : Int} {a2 : Int} {w : World} {res : Bool} (F : ref01_within a0 a1 a2 = some res) : Calls Try.prog 69 #[.int .i64 a0, .int .i64 a1, .int .i64 a2] w (Rt w (.bool res)) := by
  refine calls_of_cw (args := [.int .i64 a0, .int .i64 a1, .int .i64 a2]) Try.func69 rfl rfl rfl rfl ?_
  have H := Hp.start w
  have R0 := H.ext
  unfold ref01_within at F
  refine CW.seq fun K1 hK1 => ?_
  refine CW.region ?_
  refine LW.pure rfl rfl (RV.assign rfl) ?_
  refine LW.nil (hK1 _ _ ?_)
  refine CW.seq fun K2 hK2 => ?_
  by_cases hp1 : a1 ≤ a0
  ·
    replace F := ite_y hp1 F
    have hq1 := dec_t hp1
    refine CW.region ?_
    refine LW.pure rfl rfl (RV.move rfl) ?_
    refine LW.pure rfl rfl (RV.move rfl) ?_
    refine LW.pure rfl rfl (RV.geq rfl rfl) ?_
    refine LW.pure rfl rfl (RV.move rfl) ?_
    refine LW.pureYB rfl rfl rfl rfl hq1 (RV.move rfl) ?_
    refine LW.pureYB rfl rfl rfl rfl hq1 (RV.move rfl) ?_
    refine LW.pureYB rfl rfl rfl rfl hq1 (RV.leq rfl rfl) ?_
    refine LW.pure rfl rfl (RV.pickTB rfl hq1 rfl) ?_
    refine LW.pure rfl rfl (RV.assign rfl) ?_
    refine LW.nil (hK2 _ _ ?_)
    refine CW.ret ?_
    obtain rfl := Option.some.inj F
    refine ⟨_, (ResOK.one rfl), ?_⟩
    refine ⟨(by first | rfl | simp), R0⟩
  ·
    replace F := ite_n hp1 F
    have hq1 := dec_f hp1
    refine CW.region ?_
    refine LW.pure rfl rfl (RV.move rfl) ?_
    refine LW.pure rfl rfl (RV.move rfl) ?_
    refine LW.pure rfl rfl (RV.geq rfl rfl) ?_
    refine LW.pure rfl rfl (RV.move rfl) ?_
    refine LW.noB rfl rfl rfl rfl (ne_beq (v := false) hq1 rfl) ?_
    refine LW.noB rfl rfl rfl rfl (ne_beq (v := false) hq1 rfl) ?_
    refine LW.noB rfl rfl rfl rfl (ne_beq (v := false) hq1 rfl) ?_
    refine LW.pure rfl rfl (RV.pickFB rfl hq1 rfl) ?_
    refine LW.pure rfl rfl (RV.assign rfl) ?_
    refine LW.nil (hK2 _ _ ?_)
    refine CW.ret ?_
    obtain rfl := Option.some.inj F
    refine ⟨_, (ResOK.one rfl), ?_⟩
    refine ⟨(by first | rfl | simp), R0⟩
set_option maxRecDepth 20000 in
set_option maxHeartbeats 1000000 in
theorem ref01_Validate_ok {a0 : Survey} {A_a0_readings : Option Addr} {c_a0_readings : Nat} {w : World} {res : Int} (h_a0_readings : Sl w A_a0_readings c_a0_readings 4 (a0.readings.map encReading)) (F : ref01_Validate a0 = some res) : Calls Try.prog 26 #[.agg #[.int .i64 a0.points, .slice A_a0_readings a0.readings.length c_a0_readings]] w (Rt w (.int .i64 res)) := by
  refine calls_of_cw (args := [.agg #[.int .i64 a0.points, .slice A_a0_readings a0.readings.length c_a0_readings]]) Try.func26 rfl rfl rfl rfl ?_
  have H := Hp.start w
  have R0 := H.ext
  unfold ref01_Validate at F
  refine CW.seq fun K1 hK1 => ?_
  refine CW.region ?_
  refine LW.go rfl rfl (OW.box rfl fun b1 w1 N1 => ?_)
  replace H := H.new N1 N1.blk
  replace R0 := H.ext
  refine LW.pure rfl rfl (RV.assign rfl) ?_
  refine LW.nil (hK1 _ _ ?_)
  refine CW.seq fun K2 hK2 => ?_
  refine CW.seq fun K3 hK3 => ?_
  obtain ⟨r5, hr5, F⟩ := bnd_some F
  refine CW.region ?_
  refine LW.pure rfl rfl (RV.fieldAddr Tf24_0 rfl) ?_
  refine LW.pure rfl rfl (RV.load1 Tk3 rfl ((H.blk 0 rfl).cells.off 0) rfl) ?_
  refine LW.go rfl rfl (OW.call Tc69 rfl (ref01_within_ok (a0 := a0.points) (a1 := (1 : Int)) (a2 := (5 : Int)) hr5) ?_)
  rintro _ w2 ⟨rfl, E1⟩
  refine ⟨_, rfl, ?_⟩
  replace H := H.grow E1
  replace R0 := H.ext
  refine LW.pure rfl rfl (RV.not rfl) ?_
  refine LW.nil (hK3 _ _ ?_)
  by_cases hp1 : r5 = true
  ·
    replace F := ite_y hp1 F
    have hq1 : r5 = true := hp1
    refine CW.condF rfl (not_f hq1) ?_
    refine CW.skip (hK2 _ _ ?_)
    refine CW.seq fun K4 hK4 => ?_
    refine CW.seq fun K5 hK5 => ?_
    refine CW.region ?_
    refine LW.pure rfl rfl (RV.fieldAddr Tf24_1 rfl) ?_
    refine LW.pure rfl rfl (RV.load1 Tk22 rfl ((H.blk 0 rfl).cells.off 1) rfl) ?_
    refine LW.pure rfl rfl (RV.len Ts22 rfl) ?_
    refine LW.pure rfl rfl (RV.gtr rfl rfl) ?_
    refine LW.nil (hK5 _ _ ?_)
    by_cases hp2 : (8 : Int) < ((a0.readings.length : Int))
    ·
      replace F := ite_y hp2 F
      have hq2 := dec_t hp2
      refine CW.condT rfl hq2 ?_
      refine CW.seq fun K6 hK6 => ?_
      refine CW.region ?_
      refine LW.pure rfl rfl (RV.assign rfl) ?_
      refine LW.nil (hK6 _ _ ?_)
      refine CW.ret ?_
      obtain rfl := Option.some.inj F
      refine ⟨_, (ResOK.one rfl), ?_⟩
      refine ⟨(by first | rfl | simp), R0⟩
    ·
      replace F := ite_n hp2 F
      have hq2 := dec_f hp2
      refine CW.condF rfl hq2 ?_
      refine CW.skip (hK4 _ _ ?_)
      refine CW.seqJ (fun ρ wl1 => (ref01_Validate_k1 = some res ∧ ρ = [(2, .int .i64 0)] ∧ Hp w wl1 [])) ?_ ?_
      ·
        rintro _ wl1 ⟨F, rfl, H⟩
        have R0 := H.ext
        unfold ref01_Validate_k1 at F
        refine CW.seq fun K7 hK7 => ?_
        refine CW.region ?_
        refine LW.pure rfl rfl (RV.assign rfl) ?_
        refine LW.nil (hK7 _ _ ?_)
        refine CW.ret ?_
        obtain rfl := Option.some.inj F
        refine ⟨_, (ResOK.one rfl), ?_⟩
        refine ⟨(by first | rfl | simp), R0⟩
      ·
        intro K8 hK8 jK74
        refine CW.seq fun K9 hK9 => ?_
        refine CW.region ?_
        refine LW.pure rfl rfl (RV.assign rfl) ?_
        refine LW.nil (hK9 _ _ ?_)
        refine CW.block ?_
        refine CW.loop (fun meas ρ wl2 => ∃ (t3_1 : Int), ref01_Validate_L1 a0 meas t3_1 = some res ∧ ρ = [(1, .pointer (some (⟨b1, 0, none⟩))), (2, .int .i64 0), (3, .int .i64 t3_1)] ∧ Hp w wl2 [.blk b1 24 [.int .i64 a0.points, .slice A_a0_readings a0.readings.length c_a0_readings]]) FU ⟨_, ?_, ((0 : Int)), F, rfl, H⟩ ?_
        · exact ⟨rfl, rfl, rfl, trivial⟩
        rintro mk1 _ wl2 ⟨t3_1, F, rfl, H⟩
        have R0 := H.ext
        replace F := ref01_Validate_L1_s F
        obtain ⟨mk1, rfl, F⟩ := F
        generalize hrec1 : ref01_Validate_L1 a0 mk1 = rec1 at F
        unfold ref01_Validate_B1 at F
        refine CW.seq fun K10 hK10 => ?_
        refine CW.seq fun K11 hK11 => ?_
        refine CW.region ?_
        refine LW.pure rfl rfl (RV.move rfl) ?_
        refine LW.pure rfl rfl (RV.fieldAddr Tf24_1 rfl) ?_
        refine LW.pure rfl rfl (RV.load1 Tk22 rfl ((H.blk 0 rfl).cells.off 1) rfl) ?_
        refine LW.pure rfl rfl (RV.len Ts22 rfl) ?_
        refine LW.pure rfl rfl (RV.lss rfl rfl) ?_
        refine LW.nil (hK11 _ _ ?_)
        by_cases hp3 : t3_1 < ((a0.readings.length : Int))
        ·
          replace F := ite_y hp3 F
          have hq3 := dec_t hp3
          refine CW.condT rfl hq3 ?_
          refine CW.skip (hK10 _ _ ?_)
          refine CW.seq fun K12 hK12 => ?_
          refine CW.block ?_
          refine CW.seq fun K13 hK13 => ?_
          obtain ⟨x1, hbx1, hx1, F⟩ := ix_some F
          refine CW.region ?_
          refine LW.pure rfl rfl (RV.fieldAddr Tf24_1 rfl) ?_
          refine LW.pure rfl rfl (RV.load1 Tk22 rfl ((H.blk 0 rfl).cells.off 1) rfl) ?_
          refine LW.pure rfl rfl (RV.move rfl) ?_
          refine LW.pure rfl rfl (RV.indexAddr Ts22 rfl rfl hbx1 (h_a0_readings.addr_ hx1)) ?_
          refine LW.pure rfl rfl (RV.loadA [.int .i64 x1.from_, .int .i64 x1.to_, .int .i64 x1.rise, .int .i64 x1.weight] Tk46 rfl ((h_a0_readings.at_ hx1).ext R0) rfl rfl) ?_
          refine LW.go rfl rfl (OW.alloc Tz46 fun b2 w3 N2 => ?_)
          replace H := H.new N2 N2.blk
          replace R0 := H.ext
          refine LW.go rfl rfl (OW.store Tk46 rfl rfl (H.blk 0 rfl) (off := 0) (vs := [.int .i64 x1.from_, .int .i64 x1.to_, .int .i64 x1.rise, .int .i64 x1.weight]) rfl rfl rfl rfl rfl fun w4 S1 => ?_)
          replace H : Hp w w4 [.blk b2 46 [.int .i64 x1.from_, .int .i64 x1.to_, .int .i64 x1.rise, .int .i64 x1.weight], .blk b1 24 [.int .i64 a0.points, .slice A_a0_readings a0.readings.length c_a0_readings]] := H.stored 0 rfl S1
          replace R0 := H.ext
          refine LW.nil (hK13 _ _ ?_)
          refine CW.seqJ (fun ρ wl3 => (∃ (t59_1 : Bool), ref01_Validate_k2 t3_1 rec1 t59_1 = some res ∧ ρ = [(1, .pointer (some (⟨b1, 0, none⟩))), (2, .int .i64 0), (3, .int .i64 t3_1), (59, .bool t59_1)] ∧ Hp w wl3 [.blk b1 24 [.int .i64 a0.points, .slice A_a0_readings a0.readings.length c_a0_readings]])) ?_ ?_
          ·
            rintro _ wl3 ⟨t59_1, F, rfl, H⟩
            have R0 := H.ext
            unfold ref01_Validate_k2 at F
            by_cases hp4 : t59_1 = true
            ·
              replace F := ite_y hp4 F
              have hq4 : t59_1 = true := hp4
              refine CW.condT rfl hq4 ?_
              refine CW.seq fun K14 hK14 => ?_
              refine CW.region ?_
              refine LW.pure rfl rfl (RV.assign rfl) ?_
              refine LW.nil (hK14 _ _ ?_)
              refine CW.ret ?_
              obtain rfl := Option.some.inj F
              refine ⟨_, (ResOK.one rfl), ?_⟩
              refine ⟨(by first | rfl | simp), R0⟩
            ·
              replace F := ite_n hp4 F
              have hq4 : t59_1 = false := raw_f hp4
              refine CW.condF rfl hq4 ?_
              refine CW.skip (hK12 _ _ ?_)
              obtain ⟨hg1, F⟩ := gd_some F
              refine CW.region ?_
              refine LW.pure rfl rfl (RV.move rfl) ?_
              refine LW.pure rfl rfl (RV.add rfl rfl hg1) ?_
              refine LW.pure rfl rfl (RV.assign rfl) ?_
              refine LW.nil ?_
              subst hrec1
              refine ⟨mk1, Nat.lt_succ_self _, _, ?_, (t3_1 + 1), F, rfl, H⟩
              exact ⟨rfl, rfl, rfl, trivial⟩
          ·
            intro K15 hK15 jK93
            obtain ⟨hg2, F⟩ := gd_some F
            obtain ⟨r1, hr1, F⟩ := bnd_some F
            by_cases hp5 : r1 = true
            ·
              replace F := ite_y hp5 F
              have hq5 : r1 = true := hp5
              obtain ⟨hg3, F⟩ := gd_some F
              obtain ⟨r2, hr2, F⟩ := bnd_some F
              by_cases hp6 : r2 = true
              ·
                replace F := ite_y hp6 F
                have hq6 : r2 = true := hp6
                by_cases hp7 : x1.from_ = x1.to_
                ·
                  replace F := ite_y hp7 F
                  have hq7 := dec_t hp7
                  refine CW.region ?_
                  refine LW.pure rfl rfl (RV.fieldAddr Tf46_0 rfl) ?_
                  refine LW.pure rfl rfl (RV.load1 Tk3 rfl ((H.blk 0 rfl).cells.off 0) rfl) ?_
                  refine LW.pure rfl rfl (RV.fieldAddr Tf24_0 rfl) ?_
                  refine LW.pure rfl rfl (RV.load1 Tk3 rfl ((H.blk 1 rfl).cells.off 0) rfl) ?_
                  refine LW.pure rfl rfl (RV.sub rfl rfl hg2) ?_
                  refine LW.go rfl rfl (OW.call Tc69 rfl (ref01_within_ok (a0 := x1.from_) (a1 := (0 : Int)) (a2 := a0.points - 1) hr1) ?_)
                  rintro _ w5 ⟨rfl, E2⟩
                  refine ⟨_, rfl, ?_⟩
                  replace H := H.grow E2
                  replace R0 := H.ext
                  refine LW.pure rfl rfl (RV.not rfl) ?_
                  refine LW.pure rfl rfl (RV.move rfl) ?_
                  refine LW.pureYB rfl rfl rfl rfl (not_f hq5) (RV.fieldAddr Tf46_1 rfl) ?_
                  refine LW.pureYB rfl rfl rfl rfl (not_f hq5) (RV.load1 Tk3 rfl ((H.blk 0 rfl).cells.off 1) rfl) ?_
                  refine LW.pureYB rfl rfl rfl rfl (not_f hq5) (RV.fieldAddr Tf24_0 rfl) ?_
                  refine LW.pureYB rfl rfl rfl rfl (not_f hq5) (RV.load1 Tk3 rfl ((H.blk 1 rfl).cells.off 0) rfl) ?_
                  refine LW.pureYB rfl rfl rfl rfl (not_f hq5) (RV.sub rfl rfl hg3) ?_
                  refine LW.yesB rfl rfl rfl rfl (not_f hq5) (OW.call Tc69 rfl (ref01_within_ok (a0 := x1.to_) (a1 := (0 : Int)) (a2 := a0.points - 1) hr2) ?_)
                  rintro _ w6 ⟨rfl, E3⟩
                  refine ⟨_, rfl, ?_⟩
                  replace H := H.grow E3
                  replace R0 := H.ext
                  refine LW.pureYB rfl rfl rfl rfl (not_f hq5) (RV.not rfl) ?_
                  refine LW.pure rfl rfl (RV.pickFB rfl (not_f hq5) rfl) ?_
                  refine LW.pure rfl rfl (RV.move rfl) ?_
                  refine LW.pureYB rfl rfl rfl rfl (not_f hq6) (RV.fieldAddr Tf46_0 rfl) ?_
                  refine LW.pureYB rfl rfl rfl rfl (not_f hq6) (RV.load1 Tk3 rfl ((H.blk 0 rfl).cells.off 0) rfl) ?_
                  refine LW.pureYB rfl rfl rfl rfl (not_f hq6) (RV.fieldAddr Tf46_1 rfl) ?_
                  refine LW.pureYB rfl rfl rfl rfl (not_f hq6) (RV.load1 Tk3 rfl ((H.blk 0 rfl).cells.off 1) rfl) ?_
                  refine LW.pureYB rfl rfl rfl rfl (not_f hq6) (RV.eqi rfl rfl) ?_
                  refine LW.pure rfl rfl (RV.pickFB rfl (not_f hq6) rfl) ?_
                  refine LW.pure rfl rfl (RV.move rfl) ?_
                  refine LW.noB rfl rfl rfl rfl (ne_beq (v := true) hq7 rfl) ?_
                  refine LW.noB rfl rfl rfl rfl (ne_beq (v := true) hq7 rfl) ?_
                  refine LW.noB rfl rfl rfl rfl (ne_beq (v := true) hq7 rfl) ?_
                  refine LW.noB rfl rfl rfl rfl (ne_beq (v := true) hq7 rfl) ?_
                  refine LW.pure rfl rfl (RV.pickTB rfl hq7 rfl) ?_
                  refine LW.pure rfl rfl (RV.move rfl) ?_
                  refine LW.noB rfl rfl rfl rfl (ne_beq (v := true) rfl rfl) ?_
                  refine LW.noB rfl rfl rfl rfl (ne_beq (v := true) rfl rfl) ?_
                  refine LW.noB rfl rfl rfl rfl (ne_beq (v := true) rfl rfl) ?_
                  refine LW.noB rfl rfl rfl rfl (ne_beq (v := true) rfl rfl) ?_
                  refine LW.pure rfl rfl (RV.pickTB rfl rfl rfl) ?_
                  replace H := H.pick (L' := [.blk b1 24 [.int .i64 a0.points, .slice A_a0_readings a0.readings.length c_a0_readings]]) [1] (by decide) rfl
                  replace R0 := H.ext
                  refine LW.nil (jK93 _ _ ⟨_, ?_, ⟨true, F, rfl, H⟩⟩)
                  exact ⟨rfl, rfl, rfl, rfl, trivial⟩
                ·
                  replace F := ite_n hp7 F
                  have hq7 := dec_f hp7
                  obtain ⟨r3, hr3, F⟩ := bnd_some F
                  by_cases hp8 : r3 = true
                  ·
                    replace F := ite_y hp8 F
                    have hq8 : r3 = true := hp8
                    obtain ⟨r4, hr4, F⟩ := bnd_some F
                    refine CW.region ?_
                    refine LW.pure rfl rfl (RV.fieldAddr Tf46_0 rfl) ?_
                    refine LW.pure rfl rfl (RV.load1 Tk3 rfl ((H.blk 0 rfl).cells.off 0) rfl) ?_
                    refine LW.pure rfl rfl (RV.fieldAddr Tf24_0 rfl) ?_
                    refine LW.pure rfl rfl (RV.load1 Tk3 rfl ((H.blk 1 rfl).cells.off 0) rfl) ?_
                    refine LW.pure rfl rfl (RV.sub rfl rfl hg2) ?_
                    refine LW.go rfl rfl (OW.call Tc69 rfl (ref01_within_ok (a0 := x1.from_) (a1 := (0 : Int)) (a2 := a0.points - 1) hr1) ?_)
                    rintro _ w7 ⟨rfl, E4⟩
                    refine ⟨_, rfl, ?_⟩
                    replace H := H.grow E4
                    replace R0 := H.ext
                    refine LW.pure rfl rfl (RV.not rfl) ?_
                    refine LW.pure rfl rfl (RV.move rfl) ?_
                    refine LW.pureYB rfl rfl rfl rfl (not_f hq5) (RV.fieldAddr Tf46_1 rfl) ?_
                    refine LW.pureYB rfl rfl rfl rfl (not_f hq5) (RV.load1 Tk3 rfl ((H.blk 0 rfl).cells.off 1) rfl) ?_
                    refine LW.pureYB rfl rfl rfl rfl (not_f hq5) (RV.fieldAddr Tf24_0 rfl) ?_
                    refine LW.pureYB rfl rfl rfl rfl (not_f hq5) (RV.load1 Tk3 rfl ((H.blk 1 rfl).cells.off 0) rfl) ?_
                    refine LW.pureYB rfl rfl rfl rfl (not_f hq5) (RV.sub rfl rfl hg3) ?_
                    refine LW.yesB rfl rfl rfl rfl (not_f hq5) (OW.call Tc69 rfl (ref01_within_ok (a0 := x1.to_) (a1 := (0 : Int)) (a2 := a0.points - 1) hr2) ?_)
                    rintro _ w8 ⟨rfl, E5⟩
                    refine ⟨_, rfl, ?_⟩
                    replace H := H.grow E5
                    replace R0 := H.ext
                    refine LW.pureYB rfl rfl rfl rfl (not_f hq5) (RV.not rfl) ?_
                    refine LW.pure rfl rfl (RV.pickFB rfl (not_f hq5) rfl) ?_
                    refine LW.pure rfl rfl (RV.move rfl) ?_
                    refine LW.pureYB rfl rfl rfl rfl (not_f hq6) (RV.fieldAddr Tf46_0 rfl) ?_
                    refine LW.pureYB rfl rfl rfl rfl (not_f hq6) (RV.load1 Tk3 rfl ((H.blk 0 rfl).cells.off 0) rfl) ?_
                    refine LW.pureYB rfl rfl rfl rfl (not_f hq6) (RV.fieldAddr Tf46_1 rfl) ?_
                    refine LW.pureYB rfl rfl rfl rfl (not_f hq6) (RV.load1 Tk3 rfl ((H.blk 0 rfl).cells.off 1) rfl) ?_
                    refine LW.pureYB rfl rfl rfl rfl (not_f hq6) (RV.eqi rfl rfl) ?_
                    refine LW.pure rfl rfl (RV.pickFB rfl (not_f hq6) rfl) ?_
                    refine LW.pure rfl rfl (RV.move rfl) ?_
                    refine LW.pureYB rfl rfl rfl rfl hq7 (RV.fieldAddr Tf46_2 rfl) ?_
                    refine LW.pureYB rfl rfl rfl rfl hq7 (RV.load1 Tk3 rfl ((H.blk 0 rfl).cells.off 2) rfl) ?_
                    refine LW.yesB rfl rfl rfl rfl hq7 (OW.call Tc69 rfl (ref01_within_ok (a0 := x1.rise) (a1 := (-1000 : Int)) (a2 := (1000 : Int)) hr3) ?_)
                    rintro _ w9 ⟨rfl, E6⟩
                    refine ⟨_, rfl, ?_⟩
                    replace H := H.grow E6
                    replace R0 := H.ext
                    refine LW.pureYB rfl rfl rfl rfl hq7 (RV.not rfl) ?_
                    refine LW.pure rfl rfl (RV.pickFB rfl hq7 rfl) ?_
                    refine LW.pure rfl rfl (RV.move rfl) ?_
                    refine LW.pureYB rfl rfl rfl rfl (not_f hq8) (RV.fieldAddr Tf46_3 rfl) ?_
                    refine LW.pureYB rfl rfl rfl rfl (not_f hq8) (RV.load1 Tk3 rfl ((H.blk 0 rfl).cells.off 3) rfl) ?_
                    refine LW.yesB rfl rfl rfl rfl (not_f hq8) (OW.call Tc69 rfl (ref01_within_ok (a0 := x1.weight) (a1 := (1 : Int)) (a2 := (3 : Int)) hr4) ?_)
                    rintro _ w10 ⟨rfl, E7⟩
                    refine ⟨_, rfl, ?_⟩
                    replace H := H.grow E7
                    replace R0 := H.ext
                    refine LW.pureYB rfl rfl rfl rfl (not_f hq8) (RV.not rfl) ?_
                    refine LW.pure rfl rfl (RV.pickFB rfl (not_f hq8) rfl) ?_
                    replace H := H.pick (L' := [.blk b1 24 [.int .i64 a0.points, .slice A_a0_readings a0.readings.length c_a0_readings]]) [1] (by decide) rfl
                    replace R0 := H.ext
                    refine LW.nil (jK93 _ _ ⟨_, ?_, ⟨(!r4), F, rfl, H⟩⟩)
                    exact ⟨rfl, rfl, rfl, rfl, trivial⟩
                  ·
                    replace F := ite_n hp8 F
                    have hq8 : r3 = false := raw_f hp8
                    refine CW.region ?_
                    refine LW.pure rfl rfl (RV.fieldAddr Tf46_0 rfl) ?_
                    refine LW.pure rfl rfl (RV.load1 Tk3 rfl ((H.blk 0 rfl).cells.off 0) rfl) ?_
                    refine LW.pure rfl rfl (RV.fieldAddr Tf24_0 rfl) ?_
                    refine LW.pure rfl rfl (RV.load1 Tk3 rfl ((H.blk 1 rfl).cells.off 0) rfl) ?_
                    refine LW.pure rfl rfl (RV.sub rfl rfl hg2) ?_
                    refine LW.go rfl rfl (OW.call Tc69 rfl (ref01_within_ok (a0 := x1.from_) (a1 := (0 : Int)) (a2 := a0.points - 1) hr1) ?_)
                    rintro _ w11 ⟨rfl, E8⟩
                    refine ⟨_, rfl, ?_⟩
                    replace H := H.grow E8
                    replace R0 := H.ext
                    refine LW.pure rfl rfl (RV.not rfl) ?_
                    refine LW.pure rfl rfl (RV.move rfl) ?_
                    refine LW.pureYB rfl rfl rfl rfl (not_f hq5) (RV.fieldAddr Tf46_1 rfl) ?_
                    refine LW.pureYB rfl rfl rfl rfl (not_f hq5) (RV.load1 Tk3 rfl ((H.blk 0 rfl).cells.off 1) rfl) ?_
                    refine LW.pureYB rfl rfl rfl rfl (not_f hq5) (RV.fieldAddr Tf24_0 rfl) ?_
                    refine LW.pureYB rfl rfl rfl rfl (not_f hq5) (RV.load1 Tk3 rfl ((H.blk 1 rfl).cells.off 0) rfl) ?_
                    refine LW.pureYB rfl rfl rfl rfl (not_f hq5) (RV.sub rfl rfl hg3) ?_
                    refine LW.yesB rfl rfl rfl rfl (not_f hq5) (OW.call Tc69 rfl (ref01_within_ok (a0 := x1.to_) (a1 := (0 : Int)) (a2 := a0.points - 1) hr2) ?_)
                    rintro _ w12 ⟨rfl, E9⟩
                    refine ⟨_, rfl, ?_⟩
                    replace H := H.grow E9
                    replace R0 := H.ext
                    refine LW.pureYB rfl rfl rfl rfl (not_f hq5) (RV.not rfl) ?_
                    refine LW.pure rfl rfl (RV.pickFB rfl (not_f hq5) rfl) ?_
                    refine LW.pure rfl rfl (RV.move rfl) ?_
                    refine LW.pureYB rfl rfl rfl rfl (not_f hq6) (RV.fieldAddr Tf46_0 rfl) ?_
                    refine LW.pureYB rfl rfl rfl rfl (not_f hq6) (RV.load1 Tk3 rfl ((H.blk 0 rfl).cells.off 0) rfl) ?_
                    refine LW.pureYB rfl rfl rfl rfl (not_f hq6) (RV.fieldAddr Tf46_1 rfl) ?_
                    refine LW.pureYB rfl rfl rfl rfl (not_f hq6) (RV.load1 Tk3 rfl ((H.blk 0 rfl).cells.off 1) rfl) ?_
                    refine LW.pureYB rfl rfl rfl rfl (not_f hq6) (RV.eqi rfl rfl) ?_
                    refine LW.pure rfl rfl (RV.pickFB rfl (not_f hq6) rfl) ?_
                    refine LW.pure rfl rfl (RV.move rfl) ?_
                    refine LW.pureYB rfl rfl rfl rfl hq7 (RV.fieldAddr Tf46_2 rfl) ?_
                    refine LW.pureYB rfl rfl rfl rfl hq7 (RV.load1 Tk3 rfl ((H.blk 0 rfl).cells.off 2) rfl) ?_
                    refine LW.yesB rfl rfl rfl rfl hq7 (OW.call Tc69 rfl (ref01_within_ok (a0 := x1.rise) (a1 := (-1000 : Int)) (a2 := (1000 : Int)) hr3) ?_)
                    rintro _ w13 ⟨rfl, E10⟩
                    refine ⟨_, rfl, ?_⟩
                    replace H := H.grow E10
                    replace R0 := H.ext
                    refine LW.pureYB rfl rfl rfl rfl hq7 (RV.not rfl) ?_
                    refine LW.pure rfl rfl (RV.pickFB rfl hq7 rfl) ?_
                    refine LW.pure rfl rfl (RV.move rfl) ?_
                    refine LW.noB rfl rfl rfl rfl (ne_beq (v := true) (not_t hq8) rfl) ?_
                    refine LW.noB rfl rfl rfl rfl (ne_beq (v := true) (not_t hq8) rfl) ?_
                    refine LW.noB rfl rfl rfl rfl (ne_beq (v := true) (not_t hq8) rfl) ?_
                    refine LW.noB rfl rfl rfl rfl (ne_beq (v := true) (not_t hq8) rfl) ?_
                    refine LW.pure rfl rfl (RV.pickTB rfl (not_t hq8) rfl) ?_
                    replace H := H.pick (L' := [.blk b1 24 [.int .i64 a0.points, .slice A_a0_readings a0.readings.length c_a0_readings]]) [1] (by decide) rfl
                    replace R0 := H.ext
                    refine LW.nil (jK93 _ _ ⟨_, ?_, ⟨true, F, rfl, H⟩⟩)
                    exact ⟨rfl, rfl, rfl, rfl, trivial⟩
              ·
                replace F := ite_n hp6 F
                have hq6 : r2 = false := raw_f hp6
                refine CW.region ?_
                refine LW.pure rfl rfl (RV.fieldAddr Tf46_0 rfl) ?_
                refine LW.pure rfl rfl (RV.load1 Tk3 rfl ((H.blk 0 rfl).cells.off 0) rfl) ?_
                refine LW.pure rfl rfl (RV.fieldAddr Tf24_0 rfl) ?_
                refine LW.pure rfl rfl (RV.load1 Tk3 rfl ((H.blk 1 rfl).cells.off 0) rfl) ?_
                refine LW.pure rfl rfl (RV.sub rfl rfl hg2) ?_
                refine LW.go rfl rfl (OW.call Tc69 rfl (ref01_within_ok (a0 := x1.from_) (a1 := (0 : Int)) (a2 := a0.points - 1) hr1) ?_)
                rintro _ w14 ⟨rfl, E11⟩
                refine ⟨_, rfl, ?_⟩
                replace H := H.grow E11
                replace R0 := H.ext
                refine LW.pure rfl rfl (RV.not rfl) ?_
                refine LW.pure rfl rfl (RV.move rfl) ?_
                refine LW.pureYB rfl rfl rfl rfl (not_f hq5) (RV.fieldAddr Tf46_1 rfl) ?_
                refine LW.pureYB rfl rfl rfl rfl (not_f hq5) (RV.load1 Tk3 rfl ((H.blk 0 rfl).cells.off 1) rfl) ?_
                refine LW.pureYB rfl rfl rfl rfl (not_f hq5) (RV.fieldAddr Tf24_0 rfl) ?_
                refine LW.pureYB rfl rfl rfl rfl (not_f hq5) (RV.load1 Tk3 rfl ((H.blk 1 rfl).cells.off 0) rfl) ?_
                refine LW.pureYB rfl rfl rfl rfl (not_f hq5) (RV.sub rfl rfl hg3) ?_
                refine LW.yesB rfl rfl rfl rfl (not_f hq5) (OW.call Tc69 rfl (ref01_within_ok (a0 := x1.to_) (a1 := (0 : Int)) (a2 := a0.points - 1) hr2) ?_)
                rintro _ w15 ⟨rfl, E12⟩
                refine ⟨_, rfl, ?_⟩
                replace H := H.grow E12
                replace R0 := H.ext
                refine LW.pureYB rfl rfl rfl rfl (not_f hq5) (RV.not rfl) ?_
                refine LW.pure rfl rfl (RV.pickFB rfl (not_f hq5) rfl) ?_
                refine LW.pure rfl rfl (RV.move rfl) ?_
                refine LW.noB rfl rfl rfl rfl (ne_beq (v := true) (not_t hq6) rfl) ?_
                refine LW.noB rfl rfl rfl rfl (ne_beq (v := true) (not_t hq6) rfl) ?_
                refine LW.noB rfl rfl rfl rfl (ne_beq (v := true) (not_t hq6) rfl) ?_
                refine LW.noB rfl rfl rfl rfl (ne_beq (v := true) (not_t hq6) rfl) ?_
                refine LW.noB rfl rfl rfl rfl (ne_beq (v := true) (not_t hq6) rfl) ?_
                refine LW.pure rfl rfl (RV.pickTB rfl (not_t hq6) rfl) ?_
                refine LW.pure rfl rfl (RV.move rfl) ?_
                refine LW.noB rfl rfl rfl rfl (ne_beq (v := true) rfl rfl) ?_
                refine LW.noB rfl rfl rfl rfl (ne_beq (v := true) rfl rfl) ?_
                refine LW.noB rfl rfl rfl rfl (ne_beq (v := true) rfl rfl) ?_
                refine LW.noB rfl rfl rfl rfl (ne_beq (v := true) rfl rfl) ?_
                refine LW.pure rfl rfl (RV.pickTB rfl rfl rfl) ?_
                refine LW.pure rfl rfl (RV.move rfl) ?_
                refine LW.noB rfl rfl rfl rfl (ne_beq (v := true) rfl rfl) ?_
                refine LW.noB rfl rfl rfl rfl (ne_beq (v := true) rfl rfl) ?_
                refine LW.noB rfl rfl rfl rfl (ne_beq (v := true) rfl rfl) ?_
                refine LW.noB rfl rfl rfl rfl (ne_beq (v := true) rfl rfl) ?_
                refine LW.pure rfl rfl (RV.pickTB rfl rfl rfl) ?_
                replace H := H.pick (L' := [.blk b1 24 [.int .i64 a0.points, .slice A_a0_readings a0.readings.length c_a0_readings]]) [1] (by decide) rfl
                replace R0 := H.ext
                refine LW.nil (jK93 _ _ ⟨_, ?_, ⟨true, F, rfl, H⟩⟩)
                exact ⟨rfl, rfl, rfl, rfl, trivial⟩
            ·
              replace F := ite_n hp5 F
              have hq5 : r1 = false := raw_f hp5
              refine CW.region ?_
              refine LW.pure rfl rfl (RV.fieldAddr Tf46_0 rfl) ?_
              refine LW.pure rfl rfl (RV.load1 Tk3 rfl ((H.blk 0 rfl).cells.off 0) rfl) ?_
              refine LW.pure rfl rfl (RV.fieldAddr Tf24_0 rfl) ?_
              refine LW.pure rfl rfl (RV.load1 Tk3 rfl ((H.blk 1 rfl).cells.off 0) rfl) ?_
              refine LW.pure rfl rfl (RV.sub rfl rfl hg2) ?_
              refine LW.go rfl rfl (OW.call Tc69 rfl (ref01_within_ok (a0 := x1.from_) (a1 := (0 : Int)) (a2 := a0.points - 1) hr1) ?_)
              rintro _ w16 ⟨rfl, E13⟩
              refine ⟨_, rfl, ?_⟩
              replace H := H.grow E13
              replace R0 := H.ext
              refine LW.pure rfl rfl (RV.not rfl) ?_
              refine LW.pure rfl rfl (RV.move rfl) ?_
              refine LW.noB rfl rfl rfl rfl (ne_beq (v := true) (not_t hq5) rfl) ?_
              refine LW.noB rfl rfl rfl rfl (ne_beq (v := true) (not_t hq5) rfl) ?_
              refine LW.noB rfl rfl rfl rfl (ne_beq (v := true) (not_t hq5) rfl) ?_
              refine LW.noB rfl rfl rfl rfl (ne_beq (v := true) (not_t hq5) rfl) ?_
              refine LW.noB rfl rfl rfl rfl (ne_beq (v := true) (not_t hq5) rfl) ?_
              refine LW.noB rfl rfl rfl rfl (ne_beq (v := true) (not_t hq5) rfl) ?_
              refine LW.noB rfl rfl rfl rfl (ne_beq (v := true) (not_t hq5) rfl) ?_
              refine LW.pure rfl rfl (RV.pickTB rfl (not_t hq5) rfl) ?_
              refine LW.pure rfl rfl (RV.move rfl) ?_
              refine LW.noB rfl rfl rfl rfl (ne_beq (v := true) rfl rfl) ?_
              refine LW.noB rfl rfl rfl rfl (ne_beq (v := true) rfl rfl) ?_
              refine LW.noB rfl rfl rfl rfl (ne_beq (v := true) rfl rfl) ?_
              refine LW.noB rfl rfl rfl rfl (ne_beq (v := true) rfl rfl) ?_
              refine LW.noB rfl rfl rfl rfl (ne_beq (v := true) rfl rfl) ?_
              refine LW.pure rfl rfl (RV.pickTB rfl rfl rfl) ?_
              refine LW.pure rfl rfl (RV.move rfl) ?_
              refine LW.noB rfl rfl rfl rfl (ne_beq (v := true) rfl rfl) ?_
              refine LW.noB rfl rfl rfl rfl (ne_beq (v := true) rfl rfl) ?_
              refine LW.noB rfl rfl rfl rfl (ne_beq (v := true) rfl rfl) ?_
              refine LW.noB rfl rfl rfl rfl (ne_beq (v := true) rfl rfl) ?_
              refine LW.pure rfl rfl (RV.pickTB rfl rfl rfl) ?_
              refine LW.pure rfl rfl (RV.move rfl) ?_
              refine LW.noB rfl rfl rfl rfl (ne_beq (v := true) rfl rfl) ?_
              refine LW.noB rfl rfl rfl rfl (ne_beq (v := true) rfl rfl) ?_
              refine LW.noB rfl rfl rfl rfl (ne_beq (v := true) rfl rfl) ?_
              refine LW.noB rfl rfl rfl rfl (ne_beq (v := true) rfl rfl) ?_
              refine LW.pure rfl rfl (RV.pickTB rfl rfl rfl) ?_
              replace H := H.pick (L' := [.blk b1 24 [.int .i64 a0.points, .slice A_a0_readings a0.readings.length c_a0_readings]]) [1] (by decide) rfl
              replace R0 := H.ext
              refine LW.nil (jK93 _ _ ⟨_, ?_, ⟨true, F, rfl, H⟩⟩)
              exact ⟨rfl, rfl, rfl, rfl, trivial⟩
        ·
          replace F := ite_n hp3 F
          have hq3 := dec_f hp3
          refine CW.condF rfl hq3 ?_
          replace H := H.pick (L' := []) [] (by decide) rfl
          replace R0 := H.ext
          refine CW.exit (jK74 _ _ ⟨_, ?_, ⟨F, rfl, H⟩⟩)
          exact ⟨rfl, trivial⟩
  ·
    replace F := ite_n hp1 F
    have hq1 : r5 = false := raw_f hp1
    refine CW.condT rfl (not_t hq1) ?_
    refine CW.seq fun K16 hK16 => ?_
    refine CW.region ?_
    refine LW.pure rfl rfl (RV.assign rfl) ?_
    refine LW.nil (hK16 _ _ ?_)
    refine CW.ret ?_
    obtain rfl := Option.some.inj F
    refine ⟨_, (ResOK.one rfl), ?_⟩
    refine ⟨(by first | rfl | simp), R0⟩
end Go.D1

set_option linter.unusedVariables false
set_option linter.unusedSimpArgs false
namespace Go.D1
open Go.Tb Go.Proofs Go.RowKit
theorem Tc26 : callable Try.prog 26 = true := by kernel_rfl
end Go.D1

set_option linter.unusedVariables false
set_option linter.unusedSimpArgs false
namespace Go.D1
open Go.Tb Go.Proofs Go.RowKit
theorem Tc17 : callable Try.prog 17 = true := by kernel_rfl
theorem Tc18 : callable Try.prog 18 = true := by kernel_rfl
end Go.D1

set_option linter.unusedVariables false
set_option linter.unusedSimpArgs false
namespace Go.D1
open Go.Tb Go.Proofs Go.RowKit
theorem Tk4 : tyK Try.prog 4 = some (false, 1) := by kernel_rfl
theorem Ts110 : tyS Try.prog 110 = some (4, 1, 1, [.bool false]) := by kernel_rfl
set_option maxRecDepth 20000 in
set_option maxHeartbeats 1000000 in
theorem level_byTree_ok {a0 : Survey} {A_a0_readings : Option Addr} {c_a0_readings : Nat} {w : World} {res : (List Int)} (h_a0_readings : Sl w A_a0_readings c_a0_readings 4 (a0.readings.map encReading)) (F : level_byTree a0 = some res) : Calls Try.prog 87 #[.agg #[.int .i64 a0.points, .slice A_a0_readings a0.readings.length c_a0_readings]] w (fun e w' => ∃ (A0 : Option Addr) (c0 : Nat), e = .returned (.slice A0 res.length c0) ∧ Hp w w' [.own A0 c0 3 1 (List.map encN res)]) := by
  refine calls_of_cw (args := [.agg #[.int .i64 a0.points, .slice A_a0_readings a0.readings.length c_a0_readings]]) Try.func87 rfl rfl rfl rfl ?_
  have H := Hp.start w
  have R0 := H.ext
  unfold level_byTree at F
  refine CW.seq fun K1 hK1 => ?_
  refine CW.region ?_
  refine LW.go rfl rfl (OW.box rfl fun b1 w1 N1 => ?_)
  replace H := H.new N1 N1.blk
  replace R0 := H.ext
  refine LW.pure rfl rfl (RV.assign rfl) ?_
  refine LW.nil (hK1 _ _ ?_)
  refine CW.seq fun K2 hK2 => ?_
  obtain ⟨r1, hr1, F⟩ := bnd_some F
  refine CW.region ?_
  refine LW.pure rfl rfl (RV.loadA [.int .i64 a0.points, .slice A_a0_readings a0.readings.length c_a0_readings] Tk24 rfl (H.blk 0 rfl).cells rfl rfl) ?_
  refine LW.go rfl rfl (OW.call Tc62 rfl (level_forest_ok (a0 := a0) (h_a0_readings.ext R0) hr1) ?_)
  rintro _ w2 ⟨A3_0, c3_0, A3_1, c3_1, rfl, E1⟩
  refine ⟨_, rfl, ?_⟩
  replace H : Hp w w2 [.own A3_0 c3_0 3 1 (List.map encN r1.1), .own A3_1 c3_1 3 1 (List.map encN r1.2), .blk b1 24 [.int .i64 a0.points, .slice A_a0_readings a0.readings.length c_a0_readings]] := H.append E1
  replace R0 := H.ext
  refine LW.pure rfl rfl (RV.move rfl) ?_
  refine LW.pure rfl rfl (RV.extract rfl rfl) ?_
  refine LW.pure rfl rfl (RV.extract rfl rfl) ?_
  refine LW.pure rfl rfl (RV.assign rfl) ?_
  refine LW.pure rfl rfl (RV.assign rfl) ?_
  refine LW.nil (hK2 _ _ ?_)
  refine CW.seqJ (fun ρ wl1 => (∃ (l10 : List Int) (l13 : List Bool) (Al10 : Option Addr) (cl10 : Nat) (Al13 : Option Addr) (cl13 : Nat), level_byTree_k7 a0 r1 l10 l13 = some res ∧ ρ = [(1, .pointer (some (⟨b1, 0, none⟩))), (2, .slice none 0 0), (3, .slice A3_0 r1.1.length c3_0), (4, .slice A3_1 r1.2.length c3_1), (5, .slice Al10 l10.length cl10), (6, .slice Al13 l13.length cl13)] ∧ Hp w wl1 [.own A3_0 c3_0 3 1 (List.map encN r1.1), .own A3_1 c3_1 3 1 (List.map encN r1.2), .own Al10 cl10 3 1 (List.map encN l10), .own Al13 cl13 4 1 (List.map encBl l13), .blk b1 24 [.int .i64 a0.points, .slice A_a0_readings a0.readings.length c_a0_readings]])) ?_ ?_
  ·
    rintro _ wl1 ⟨l10, l13, Al10, cl10, Al13, cl13, F, rfl, H⟩
    have R0 := H.ext
    unfold level_byTree_k7 at F
    refine CW.seqJ (fun ρ wl2 => (∃ (l11 : List Bool), level_byTree_k6 a0 r1 l10 l11 = some res ∧ ρ = [(1, .pointer (some (⟨b1, 0, none⟩))), (2, .slice none 0 0), (4, .slice A3_1 r1.2.length c3_1), (5, .slice Al10 l10.length cl10), (6, .slice Al13 l11.length cl13)] ∧ Hp w wl2 [.own A3_1 c3_1 3 1 (List.map encN r1.2), .own Al10 cl10 3 1 (List.map encN l10), .own Al13 cl13 4 1 (List.map encBl l11), .blk b1 24 [.int .i64 a0.points, .slice A_a0_readings a0.readings.length c_a0_readings]])) ?_ ?_
    ·
      rintro _ wl2 ⟨l11, F, rfl, H⟩
      have R0 := H.ext
      unfold level_byTree_k6 at F
      refine CW.seqJ (fun ρ wl3 => (∃ (l1 : List Int), level_byTree_k1 l1 = some res ∧ ρ = [(2, .slice none 0 0), (5, .slice Al10 l1.length cl10)] ∧ Hp w wl3 [.own Al10 cl10 3 1 (List.map encN l1)])) ?_ ?_
      ·
        rintro _ wl3 ⟨l1, F, rfl, H⟩
        have R0 := H.ext
        unfold level_byTree_k1 at F
        refine CW.seq fun K3 hK3 => ?_
        refine CW.region ?_
        refine LW.pure rfl rfl (RV.move rfl) ?_
        refine LW.pure rfl rfl (RV.assign rfl) ?_
        refine LW.nil (hK3 _ _ ?_)
        refine CW.ret ?_
        obtain rfl := Option.some.inj F
        refine ⟨_, (ResOK.one rfl), ?_⟩
        exact ⟨Al10, cl10, (by first | rfl | (simp; done) | (simp; omega)), H⟩
      ·
        intro K4 hK4 jK691
        refine CW.seq fun K5 hK5 => ?_
        refine CW.region ?_
        refine LW.pure rfl rfl (RV.move rfl) ?_
        refine LW.pure rfl rfl (RV.len Ts39 rfl) ?_
        refine LW.pure rfl rfl (RV.move rfl) ?_
        refine LW.nil (hK5 _ _ ?_)
        refine CW.block ?_
        refine CW.loop (fun meas ρ wl4 => ∃ (t39_1 : Int) (l8 : List Int) (l9 : List Bool), level_byTree_L2 a0 r1 meas t39_1 l8 l9 = some res ∧ ρ = [(1, .pointer (some (⟨b1, 0, none⟩))), (2, .slice none 0 0), (4, .slice A3_1 r1.2.length c3_1), (5, .slice Al10 l8.length cl10), (6, .slice Al13 l9.length cl13), (38, .int .i64 ((r1.2.length : Int))), (39, .int .i64 t39_1)] ∧ Hp w wl4 [.own A3_1 c3_1 3 1 (List.map encN r1.2), .own Al10 cl10 3 1 (List.map encN l8), .own Al13 cl13 4 1 (List.map encBl l9), .blk b1 24 [.int .i64 a0.points, .slice A_a0_readings a0.readings.length c_a0_readings]]) FU ⟨_, ?_, ((0 : Int)), l10, l11, F, rfl, H⟩ ?_
        · exact ⟨rfl, rfl, (look_slice rfl (by first | rfl | (simp; done) | omega | (simp; omega))), (look_slice rfl (by first | rfl | (simp; done) | omega | (simp; omega))), (look_slice rfl (by first | rfl | (simp; done) | omega | (simp; omega))), rfl, rfl, trivial⟩
        rintro mk1 _ wl4 ⟨t39_1, l8, l9, F, rfl, H⟩
        have R0 := H.ext
        replace F := level_byTree_L2_s F
        obtain ⟨mk1, rfl, F⟩ := F
        generalize hrec1 : level_byTree_L2 a0 r1 mk1 = rec1 at F
        unfold level_byTree_B2 at F
        refine CW.seq fun K6 hK6 => ?_
        refine CW.region ?_
        refine LW.pure rfl rfl (RV.lss rfl rfl) ?_
        refine LW.nil (hK6 _ _ ?_)
        refine CW.seq fun K7 hK7 => ?_
        by_cases hp1 : t39_1 < ((r1.2.length : Int))
        ·
          replace F := ite_y hp1 F
          have hq1 := dec_t hp1
          refine CW.condT rfl hq1 ?_
          refine CW.skip (hK7 _ _ ?_)
          refine CW.seqJ (fun ρ wl5 => (∃ (l2 : List Int) (l3 : List Bool), level_byTree_k2 t39_1 rec1 l2 l3 = some res ∧ ρ = [(1, .pointer (some (⟨b1, 0, none⟩))), (2, .slice none 0 0), (4, .slice A3_1 r1.2.length c3_1), (5, .slice Al10 l2.length cl10), (6, .slice Al13 l3.length cl13), (38, .int .i64 ((r1.2.length : Int))), (39, .int .i64 t39_1)] ∧ Hp w wl5 [.own A3_1 c3_1 3 1 (List.map encN r1.2), .own Al10 cl10 3 1 (List.map encN l2), .own Al13 cl13 4 1 (List.map encBl l3), .blk b1 24 [.int .i64 a0.points, .slice A_a0_readings a0.readings.length c_a0_readings]])) ?_ ?_
          ·
            rintro _ wl5 ⟨l2, l3, F, rfl, H⟩
            have R0 := H.ext
            unfold level_byTree_k2 at F
            obtain ⟨hg1, F⟩ := gd_some F
            refine CW.region ?_
            refine LW.pure rfl rfl (RV.add rfl rfl hg1) ?_
            refine LW.pure rfl rfl (RV.move rfl) ?_
            refine LW.nil ?_
            subst hrec1
            refine ⟨mk1, Nat.lt_succ_self _, _, ?_, (t39_1 + 1), l2, l3, F, rfl, H⟩
            exact ⟨rfl, rfl, (look_slice rfl (by first | rfl | (simp; done) | omega | (simp; omega))), (look_slice rfl (by first | rfl | (simp; done) | omega | (simp; omega))), (look_slice rfl (by first | rfl | (simp; done) | omega | (simp; omega))), rfl, rfl, trivial⟩
          ·
            intro K8 hK8 jK871
            refine CW.block ?_
            refine CW.seq fun K9 hK9 => ?_
            refine CW.region ?_
            refine LW.pure rfl rfl (RV.move rfl) ?_
            refine LW.pure rfl rfl (RV.len Ts39 rfl) ?_
            refine LW.pure rfl rfl (RV.move rfl) ?_
            refine LW.nil (hK9 _ _ ?_)
            refine CW.block ?_
            refine CW.loop (fun meas ρ wl6 => ∃ (t43_1 : Int) (l6 : List Int) (l7 : List Bool), level_byTree_L1 a0 r1 t39_1 rec1 meas t43_1 l6 l7 = some res ∧ ρ = [(1, .pointer (some (⟨b1, 0, none⟩))), (2, .slice none 0 0), (4, .slice A3_1 r1.2.length c3_1), (5, .slice Al10 l6.length cl10), (6, .slice Al13 l7.length cl13), (38, .int .i64 ((r1.2.length : Int))), (39, .int .i64 t39_1), (41, .slice A3_1 r1.2.length c3_1), (42, .int .i64 ((r1.2.length : Int))), (43, .int .i64 t43_1)] ∧ Hp w wl6 [.own A3_1 c3_1 3 1 (List.map encN r1.2), .own Al10 cl10 3 1 (List.map encN l6), .own Al13 cl13 4 1 (List.map encBl l7), .blk b1 24 [.int .i64 a0.points, .slice A_a0_readings a0.readings.length c_a0_readings]]) FU ⟨_, ?_, ((0 : Int)), l8, l9, F, rfl, H⟩ ?_
            · exact ⟨rfl, rfl, (look_slice rfl (by first | rfl | (simp; done) | omega | (simp; omega))), (look_slice rfl (by first | rfl | (simp; done) | omega | (simp; omega))), (look_slice rfl (by first | rfl | (simp; done) | omega | (simp; omega))), rfl, rfl, (look_slice rfl (by first | rfl | (simp; done) | omega | (simp; omega))), rfl, rfl, trivial⟩
            rintro mk2 _ wl6 ⟨t43_1, l6, l7, F, rfl, H⟩
            have R0 := H.ext
            replace F := level_byTree_L1_s F
            obtain ⟨mk2, rfl, F⟩ := F
            generalize hrec2 : level_byTree_L1 a0 r1 t39_1 rec1 mk2 = rec2 at F
            unfold level_byTree_B1 at F
            refine CW.seq fun K10 hK10 => ?_
            refine CW.region ?_
            refine LW.pure rfl rfl (RV.lss rfl rfl) ?_
            refine LW.nil (hK10 _ _ ?_)
            refine CW.seq fun K11 hK11 => ?_
            by_cases hp2 : t43_1 < ((r1.2.length : Int))
            ·
              replace F := ite_y hp2 F
              have hq2 := dec_t hp2
              refine CW.condT rfl hq2 ?_
              refine CW.skip (hK11 _ _ ?_)
              refine CW.seqJ (fun ρ wl7 => (∃ (l4 : List Int) (l5 : List Bool), level_byTree_k3 t43_1 rec2 l4 l5 = some res ∧ ρ = [(1, .pointer (some (⟨b1, 0, none⟩))), (2, .slice none 0 0), (4, .slice A3_1 r1.2.length c3_1), (5, .slice Al10 l4.length cl10), (6, .slice Al13 l5.length cl13), (38, .int .i64 ((r1.2.length : Int))), (39, .int .i64 t39_1), (41, .slice A3_1 r1.2.length c3_1), (42, .int .i64 ((r1.2.length : Int))), (43, .int .i64 t43_1)] ∧ Hp w wl7 [.own A3_1 c3_1 3 1 (List.map encN r1.2), .own Al10 cl10 3 1 (List.map encN l4), .own Al13 cl13 4 1 (List.map encBl l5), .blk b1 24 [.int .i64 a0.points, .slice A_a0_readings a0.readings.length c_a0_readings]])) ?_ ?_
              ·
                rintro _ wl7 ⟨l4, l5, F, rfl, H⟩
                have R0 := H.ext
                unfold level_byTree_k3 at F
                obtain ⟨hg2, F⟩ := gd_some F
                refine CW.region ?_
                refine LW.pure rfl rfl (RV.add rfl rfl hg2) ?_
                refine LW.pure rfl rfl (RV.move rfl) ?_
                refine LW.nil ?_
                subst hrec2
                refine ⟨mk2, Nat.lt_succ_self _, _, ?_, (t43_1 + 1), l4, l5, F, rfl, H⟩
                exact ⟨rfl, rfl, (look_slice rfl (by first | rfl | (simp; done) | omega | (simp; omega))), (look_slice rfl (by first | rfl | (simp; done) | omega | (simp; omega))), (look_slice rfl (by first | rfl | (simp; done) | omega | (simp; omega))), rfl, rfl, (look_slice rfl (by first | rfl | (simp; done) | omega | (simp; omega))), rfl, rfl, trivial⟩
              ·
                intro K12 hK12 jK901
                refine CW.block ?_
                refine CW.seq fun K13 hK13 => ?_
                obtain ⟨x10, hbx10, hx10, F⟩ := ix_some F
                refine CW.region ?_
                refine LW.pure rfl rfl (RV.indexAddr Ts39 rfl rfl hbx10 ((H.own 0 rfl).sl.addr_ hx10)) ?_
                refine LW.pure rfl rfl (RV.load1 Tk3 rfl ((H.own 0 rfl).sl.at_ hx10) rfl) ?_
                refine LW.pure rfl rfl (RV.assign rfl) ?_
                refine LW.nil (hK13 _ _ ?_)
                refine CW.seq fun K14 hK14 => ?_
                obtain ⟨x1, hbx1, hx1, F⟩ := ix_some F
                refine CW.region ?_
                refine LW.pure rfl rfl (RV.fieldAddr Tf24_1 rfl) ?_
                refine LW.pure rfl rfl (RV.load1 Tk22 rfl ((H.blk 3 rfl).cells.off 1) rfl) ?_
                refine LW.pure rfl rfl (RV.move rfl) ?_
                refine LW.pure rfl rfl (RV.indexAddr Ts22 rfl rfl hbx1 (h_a0_readings.addr_ hx1)) ?_
                refine LW.pure rfl rfl (RV.loadA [.int .i64 x1.from_, .int .i64 x1.to_, .int .i64 x1.rise, .int .i64 x1.weight] Tk46 rfl ((h_a0_readings.at_ hx1).ext R0) rfl rfl) ?_
                refine LW.go rfl rfl (OW.alloc Tz46 fun b2 w3 N2 => ?_)
                replace H := H.new N2 N2.blk
                replace R0 := H.ext
                refine LW.go rfl rfl (OW.store Tk46 rfl rfl (H.blk 0 rfl) (off := 0) (vs := [.int .i64 x1.from_, .int .i64 x1.to_, .int .i64 x1.rise, .int .i64 x1.weight]) rfl rfl rfl rfl rfl fun w4 S1 => ?_)
                replace H : Hp w w4 [.blk b2 46 [.int .i64 x1.from_, .int .i64 x1.to_, .int .i64 x1.rise, .int .i64 x1.weight], .own A3_1 c3_1 3 1 (List.map encN r1.2), .own Al10 cl10 3 1 (List.map encN l6), .own Al13 cl13 4 1 (List.map encBl l7), .blk b1 24 [.int .i64 a0.points, .slice A_a0_readings a0.readings.length c_a0_readings]] := H.stored 0 rfl S1
                replace R0 := H.ext
                refine LW.nil (hK14 _ _ ?_)
                refine CW.block ?_
                refine CW.seqJ (fun ρ wl8 => (∃ (t52_1 : Bool), level_byTree_k5 t43_1 l6 l7 rec2 x1 t52_1 = some res ∧ ρ = [(1, .pointer (some (⟨b1, 0, none⟩))), (2, .slice none 0 0), (4, .slice A3_1 r1.2.length c3_1), (5, .slice Al10 l6.length cl10), (6, .slice Al13 l7.length cl13), (10, .pointer (some (⟨b2, 0, none⟩))), (38, .int .i64 ((r1.2.length : Int))), (39, .int .i64 t39_1), (41, .slice A3_1 r1.2.length c3_1), (42, .int .i64 ((r1.2.length : Int))), (43, .int .i64 t43_1), (52, .bool t52_1)] ∧ Hp w wl8 [.own A3_1 c3_1 3 1 (List.map encN r1.2), .own Al10 cl10 3 1 (List.map encN l6), .own Al13 cl13 4 1 (List.map encBl l7), .blk b1 24 [.int .i64 a0.points, .slice A_a0_readings a0.readings.length c_a0_readings], .blk b2 46 [.int .i64 x1.from_, .int .i64 x1.to_, .int .i64 x1.rise, .int .i64 x1.weight]])) ?_ ?_
                ·
                  rintro _ wl8 ⟨t52_1, F, rfl, H⟩
                  have R0 := H.ext
                  unfold level_byTree_k5 at F
                  by_cases hp3 : t52_1 = true
                  ·
                    replace F := ite_y hp3 F
                    have hq3 : t52_1 = true := hp3
                    refine CW.condT rfl hq3 ?_
                    obtain ⟨x5, hbx5, hx5, F⟩ := ix_some F
                    obtain ⟨hg3, F⟩ := gd_some F
                    obtain ⟨x6, hbx6, hx6, F⟩ := ix_some F
                    obtain ⟨x7, hbx7, hx7, F⟩ := ix_some F
                    have H0 := H
                    have hz : wl8.heap.size ≤ wl8.heap.size := Nat.le_refl _
                    refine CW.draw [15, 17] (XB wl8 [.own A3_1 c3_1 3 1 (List.map encN r1.2), .own Al10 cl10 3 1 (List.map encN l6), .own Al13 cl13 4 1 (List.map encBl l7), .blk b1 24 [.int .i64 a0.points, .slice A_a0_readings a0.readings.length c_a0_readings], .blk b2 46 [.int .i64 x1.from_, .int .i64 x1.to_, .int .i64 x1.rise, .int .i64 x1.weight]] [1, 2]) (.cons 0 1 (.cons 1 1 (.cons 2 1 (.cons 6 1 (.cons 7 1 (.cons 8 1 (.cons 9 1 (.cons 10 1 (.cons 11 1 (.cons 12 1 (.cons 13 1 (.cons 14 1 (.cons 3 2 (.cons 4 2 (.cons 5 2 (.cons 15 0 (.cons 16 2 (.cons 17 0 .nil)))))))))))))))))) mixed (by kernel_rfl) fun w5 E2 => ?_
                    replace H := H.grow E2
                    replace R0 := H.ext
                    replace hz := Nat.le_trans hz (Ext.size E2)
                    refine DW.fix rfl rfl rfl (fun _ EQ => RV.move rfl) ?_
                    refine DW.fix rfl rfl rfl (fun _ EQ => RV.fieldAddr Tf46_1 rfl) ?_
                    refine DW.fix rfl rfl rfl (fun _ EQ => RV.load1 Tk3 rfl (((H.grow EQ).blk 4 rfl).cells.off 1) rfl) ?_
                    refine DW.fix rfl rfl rfl (fun _ EQ => RV.move rfl) ?_
                    refine DW.fix rfl rfl rfl (fun _ EQ => RV.fieldAddr Tf46_0 rfl) ?_
                    refine DW.fix rfl rfl rfl (fun _ EQ => RV.load1 Tk3 rfl (((H.grow EQ).blk 4 rfl).cells.off 0) rfl) ?_
                    refine DW.fix rfl rfl rfl (fun _ EQ => RV.indexAddr Ts39 rfl rfl hbx5 ((H.own 1 rfl).sl.addr_ hx5)) ?_
                    refine DW.fix rfl rfl rfl (fun _ EQ => RV.load1 Tk3 rfl (((H.grow EQ).own 1 rfl).sl.at_ hx5) rfl) ?_
                    refine DW.fix rfl rfl rfl (fun _ EQ => RV.fieldAddr Tf46_2 rfl) ?_
                    refine DW.fix rfl rfl rfl (fun _ EQ => RV.load1 Tk3 rfl (((H.grow EQ).blk 4 rfl).cells.off 2) rfl) ?_
                    refine DW.fix rfl rfl rfl (fun _ EQ => RV.add rfl rfl hg3) ?_
                    refine DW.fix rfl rfl rfl (fun _ EQ => RV.indexAddr Ts39 rfl rfl hbx6 ((H.own 1 rfl).sl.addr_ hx6)) ?_
                    refine DW.thru rfl rfl rfl (fun _ EQ => RV.move rfl) ?_
                    refine DW.thru rfl rfl rfl (fun _ EQ => RV.fieldAddr Tf46_1 rfl) ?_
                    refine DW.thru rfl rfl rfl (fun _ EQ => RV.load1 Tk3 rfl ((H.thruB 4 rfl EQ (H0.notX [1, 2] 4 rfl (by decide))).cells.off 1) rfl) ?_
                    refine DW.sole rfl rfl rfl (OW.storeO (enc := encN) (vs := [.int .i64 (x5 + x1.rise)]) 0 (x5 + x1.rise) Tk3 rfl rfl (H.own 1 rfl) (fun _ => rfl) rfl hx6 rfl rfl (by decide) rfl rfl fun w6 M1 O1 => ?_)
                    refine ⟨fun h => absurd h (by decide), M1.modx (XB.own_ 1 (by decide) rfl), ?_⟩
                    replace H : Hp w w6 [.own A3_1 c3_1 3 1 (List.map encN r1.2), .own Al10 cl10 3 1 (List.map encN ((l6.set (Int.toNat x1.to_) (x5 + x1.rise)))), .own Al13 cl13 4 1 (List.map encBl l7), .blk b1 24 [.int .i64 a0.points, .slice A_a0_readings a0.readings.length c_a0_readings], .blk b2 46 [.int .i64 x1.from_, .int .i64 x1.to_, .int .i64 x1.rise, .int .i64 x1.weight]] := H.mod 1 rfl M1 O1 (.inl rfl)
                    replace R0 := H.ext
                    replace hz := Nat.le_trans hz M1.size
                    refine DW.thru rfl rfl rfl (fun _ EQ => RV.indexAddr Ts110 rfl rfl hbx7 ((H.own 2 rfl).sl.addr_ hx7)) ?_
                    refine DW.sole rfl rfl rfl (OW.storeO (enc := encBl) (vs := [.bool true]) 0 (true) Tk4 rfl rfl (H.own 2 rfl) (fun _ => rfl) rfl hx7 rfl rfl (by decide) rfl rfl fun w7 M2 O2 => ?_)
                    refine ⟨fun h => absurd h (by decide), M2.modx (XB.own_ 2 (by decide) rfl), ?_⟩
                    replace H : Hp w w7 [.own A3_1 c3_1 3 1 (List.map encN r1.2), .own Al10 cl10 3 1 (List.map encN ((l6.set (Int.toNat x1.to_) (x5 + x1.rise)))), .own Al13 cl13 4 1 (List.map encBl ((l7.set (Int.toNat x1.to_) true))), .blk b1 24 [.int .i64 a0.points, .slice A_a0_readings a0.readings.length c_a0_readings], .blk b2 46 [.int .i64 x1.from_, .int .i64 x1.to_, .int .i64 x1.rise, .int .i64 x1.weight]] := H.mod 2 rfl M2 O2 (.inl rfl)
                    replace R0 := H.ext
                    replace hz := Nat.le_trans hz M2.size
                    replace H := H.pick (L' := [.own A3_1 c3_1 3 1 (List.map encN r1.2), .own Al10 cl10 3 1 (List.map encN ((l6.set (Int.toNat x1.to_) (x5 + x1.rise)))), .own Al13 cl13 4 1 (List.map encBl ((l7.set (Int.toNat x1.to_) true))), .blk b1 24 [.int .i64 a0.points, .slice A_a0_readings a0.readings.length c_a0_readings]]) [0, 1, 2, 3] (by decide) rfl
                    replace R0 := H.ext
                    refine DW.nil (jK901 _ _ ⟨_, ?_, ⟨((l6.set (Int.toNat x1.to_) (x5 + x1.rise))), ((l7.set (Int.toNat x1.to_) true)), F, rfl, H⟩⟩)
                    exact ⟨rfl, rfl, (look_slice rfl (by first | rfl | (simp; done) | omega | (simp; omega))), (look_slice rfl (by first | rfl | (simp; done) | omega | (simp; omega))), (look_slice rfl (by first | rfl | (simp; done) | omega | (simp; omega))), rfl, rfl, (look_slice rfl (by first | rfl | (simp; done) | omega | (simp; omega))), rfl, rfl, trivial⟩
                  ·
                    replace F := ite_n hp3 F
                    have hq3 : t52_1 = false := raw_f hp3
                    refine CW.condF rfl hq3 ?_
                    refine CW.seqJ (fun ρ wl9 => (∃ (t82_1 : Bool), level_byTree_k4 t43_1 l6 l7 rec2 x1 t82_1 = some res ∧ ρ = [(1, .pointer (some (⟨b1, 0, none⟩))), (2, .slice none 0 0), (4, .slice A3_1 r1.2.length c3_1), (5, .slice Al10 l6.length cl10), (6, .slice Al13 l7.length cl13), (10, .pointer (some (⟨b2, 0, none⟩))), (38, .int .i64 ((r1.2.length : Int))), (39, .int .i64 t39_1), (41, .slice A3_1 r1.2.length c3_1), (42, .int .i64 ((r1.2.length : Int))), (43, .int .i64 t43_1), (82, .bool t82_1)] ∧ Hp w wl9 [.own A3_1 c3_1 3 1 (List.map encN r1.2), .own Al10 cl10 3 1 (List.map encN l6), .own Al13 cl13 4 1 (List.map encBl l7), .blk b1 24 [.int .i64 a0.points, .slice A_a0_readings a0.readings.length c_a0_readings], .blk b2 46 [.int .i64 x1.from_, .int .i64 x1.to_, .int .i64 x1.rise, .int .i64 x1.weight]])) ?_ ?_
                    ·
                      rintro _ wl9 ⟨t82_1, F, rfl, H⟩
                      have R0 := H.ext
                      unfold level_byTree_k4 at F
                      by_cases hp4 : t82_1 = true
                      ·
                        replace F := ite_y hp4 F
                        have hq4 : t82_1 = true := hp4
                        refine CW.condT rfl hq4 ?_
                        obtain ⟨x2, hbx2, hx2, F⟩ := ix_some F
                        obtain ⟨hg4, F⟩ := gd_some F
                        obtain ⟨x3, hbx3, hx3, F⟩ := ix_some F
                        obtain ⟨x4, hbx4, hx4, F⟩ := ix_some F
                        have H0 := H
                        have hz : wl9.heap.size ≤ wl9.heap.size := Nat.le_refl _
                        refine CW.draw [15, 17] (XB wl9 [.own A3_1 c3_1 3 1 (List.map encN r1.2), .own Al10 cl10 3 1 (List.map encN l6), .own Al13 cl13 4 1 (List.map encBl l7), .blk b1 24 [.int .i64 a0.points, .slice A_a0_readings a0.readings.length c_a0_readings], .blk b2 46 [.int .i64 x1.from_, .int .i64 x1.to_, .int .i64 x1.rise, .int .i64 x1.weight]] [1, 2]) (.cons 0 1 (.cons 1 1 (.cons 2 1 (.cons 6 1 (.cons 7 1 (.cons 8 1 (.cons 9 1 (.cons 10 1 (.cons 11 1 (.cons 12 1 (.cons 13 1 (.cons 14 1 (.cons 3 2 (.cons 4 2 (.cons 5 2 (.cons 15 0 (.cons 16 2 (.cons 17 0 .nil)))))))))))))))))) mixed (by kernel_rfl) fun w8 E3 => ?_
                        replace H := H.grow E3
                        replace R0 := H.ext
                        replace hz := Nat.le_trans hz (Ext.size E3)
                        refine DW.fix rfl rfl rfl (fun _ EQ => RV.move rfl) ?_
                        refine DW.fix rfl rfl rfl (fun _ EQ => RV.fieldAddr Tf46_0 rfl) ?_
                        refine DW.fix rfl rfl rfl (fun _ EQ => RV.load1 Tk3 rfl (((H.grow EQ).blk 4 rfl).cells.off 0) rfl) ?_
                        refine DW.fix rfl rfl rfl (fun _ EQ => RV.move rfl) ?_
                        refine DW.fix rfl rfl rfl (fun _ EQ => RV.fieldAddr Tf46_1 rfl) ?_
                        refine DW.fix rfl rfl rfl (fun _ EQ => RV.load1 Tk3 rfl (((H.grow EQ).blk 4 rfl).cells.off 1) rfl) ?_
                        refine DW.fix rfl rfl rfl (fun _ EQ => RV.indexAddr Ts39 rfl rfl hbx2 ((H.own 1 rfl).sl.addr_ hx2)) ?_
                        refine DW.fix rfl rfl rfl (fun _ EQ => RV.load1 Tk3 rfl (((H.grow EQ).own 1 rfl).sl.at_ hx2) rfl) ?_
                        refine DW.fix rfl rfl rfl (fun _ EQ => RV.fieldAddr Tf46_2 rfl) ?_
                        refine DW.fix rfl rfl rfl (fun _ EQ => RV.load1 Tk3 rfl (((H.grow EQ).blk 4 rfl).cells.off 2) rfl) ?_
                        refine DW.fix rfl rfl rfl (fun _ EQ => RV.sub rfl rfl hg4) ?_
                        refine DW.fix rfl rfl rfl (fun _ EQ => RV.indexAddr Ts39 rfl rfl hbx3 ((H.own 1 rfl).sl.addr_ hx3)) ?_
                        refine DW.thru rfl rfl rfl (fun _ EQ => RV.move rfl) ?_
                        refine DW.thru rfl rfl rfl (fun _ EQ => RV.fieldAddr Tf46_0 rfl) ?_
                        refine DW.thru rfl rfl rfl (fun _ EQ => RV.load1 Tk3 rfl ((H.thruB 4 rfl EQ (H0.notX [1, 2] 4 rfl (by decide))).cells.off 0) rfl) ?_
                        refine DW.sole rfl rfl rfl (OW.storeO (enc := encN) (vs := [.int .i64 (x2 - x1.rise)]) 0 (x2 - x1.rise) Tk3 rfl rfl (H.own 1 rfl) (fun _ => rfl) rfl hx3 rfl rfl (by decide) rfl rfl fun w9 M3 O3 => ?_)
                        refine ⟨fun h => absurd h (by decide), M3.modx (XB.own_ 1 (by decide) rfl), ?_⟩
                        replace H : Hp w w9 [.own A3_1 c3_1 3 1 (List.map encN r1.2), .own Al10 cl10 3 1 (List.map encN ((l6.set (Int.toNat x1.from_) (x2 - x1.rise)))), .own Al13 cl13 4 1 (List.map encBl l7), .blk b1 24 [.int .i64 a0.points, .slice A_a0_readings a0.readings.length c_a0_readings], .blk b2 46 [.int .i64 x1.from_, .int .i64 x1.to_, .int .i64 x1.rise, .int .i64 x1.weight]] := H.mod 1 rfl M3 O3 (.inl rfl)
                        replace R0 := H.ext
                        replace hz := Nat.le_trans hz M3.size
                        refine DW.thru rfl rfl rfl (fun _ EQ => RV.indexAddr Ts110 rfl rfl hbx4 ((H.own 2 rfl).sl.addr_ hx4)) ?_
                        refine DW.sole rfl rfl rfl (OW.storeO (enc := encBl) (vs := [.bool true]) 0 (true) Tk4 rfl rfl (H.own 2 rfl) (fun _ => rfl) rfl hx4 rfl rfl (by decide) rfl rfl fun w10 M4 O4 => ?_)
                        refine ⟨fun h => absurd h (by decide), M4.modx (XB.own_ 2 (by decide) rfl), ?_⟩
                        replace H : Hp w w10 [.own A3_1 c3_1 3 1 (List.map encN r1.2), .own Al10 cl10 3 1 (List.map encN ((l6.set (Int.toNat x1.from_) (x2 - x1.rise)))), .own Al13 cl13 4 1 (List.map encBl ((l7.set (Int.toNat x1.from_) true))), .blk b1 24 [.int .i64 a0.points, .slice A_a0_readings a0.readings.length c_a0_readings], .blk b2 46 [.int .i64 x1.from_, .int .i64 x1.to_, .int .i64 x1.rise, .int .i64 x1.weight]] := H.mod 2 rfl M4 O4 (.inl rfl)
                        replace R0 := H.ext
                        replace hz := Nat.le_trans hz M4.size
                        replace H := H.pick (L' := [.own A3_1 c3_1 3 1 (List.map encN r1.2), .own Al10 cl10 3 1 (List.map encN ((l6.set (Int.toNat x1.from_) (x2 - x1.rise)))), .own Al13 cl13 4 1 (List.map encBl ((l7.set (Int.toNat x1.from_) true))), .blk b1 24 [.int .i64 a0.points, .slice A_a0_readings a0.readings.length c_a0_readings]]) [0, 1, 2, 3] (by decide) rfl
                        replace R0 := H.ext
                        refine DW.nil (jK901 _ _ ⟨_, ?_, ⟨((l6.set (Int.toNat x1.from_) (x2 - x1.rise))), ((l7.set (Int.toNat x1.from_) true)), F, rfl, H⟩⟩)
                        exact ⟨rfl, rfl, (look_slice rfl (by first | rfl | (simp; done) | omega | (simp; omega))), (look_slice rfl (by first | rfl | (simp; done) | omega | (simp; omega))), (look_slice rfl (by first | rfl | (simp; done) | omega | (simp; omega))), rfl, rfl, (look_slice rfl (by first | rfl | (simp; done) | omega | (simp; omega))), rfl, rfl, trivial⟩
                      ·
                        replace F := ite_n hp4 F
                        have hq4 : t82_1 = false := raw_f hp4
                        refine CW.condF rfl hq4 ?_
                        replace H := H.pick (L' := [.own A3_1 c3_1 3 1 (List.map encN r1.2), .own Al10 cl10 3 1 (List.map encN l6), .own Al13 cl13 4 1 (List.map encBl l7), .blk b1 24 [.int .i64 a0.points, .slice A_a0_readings a0.readings.length c_a0_readings]]) [0, 1, 2, 3] (by decide) rfl
                        replace R0 := H.ext
                        refine CW.skip (jK901 _ _ ⟨_, ?_, ⟨l6, l7, F, rfl, H⟩⟩)
                        exact ⟨rfl, rfl, (look_slice rfl (by first | rfl | (simp; done) | omega | (simp; omega))), (look_slice rfl (by first | rfl | (simp; done) | omega | (simp; omega))), (look_slice rfl (by first | rfl | (simp; done) | omega | (simp; omega))), rfl, rfl, (look_slice rfl (by first | rfl | (simp; done) | omega | (simp; omega))), rfl, rfl, trivial⟩
                    ·
                      intro K15 hK15 jK904
                      obtain ⟨x8, hbx8, hx8, F⟩ := ix_some F
                      by_cases hp5 : x8 = true
                      ·
                        replace F := ite_y hp5 F
                        have hq5 : x8 = true := hp5
                        obtain ⟨x9, hbx9, hx9, F⟩ := ix_some F
                        refine CW.region ?_
                        refine LW.pure rfl rfl (RV.move rfl) ?_
                        refine LW.pure rfl rfl (RV.fieldAddr Tf46_1 rfl) ?_
                        refine LW.pure rfl rfl (RV.load1 Tk3 rfl ((H.blk 4 rfl).cells.off 1) rfl) ?_
                        refine LW.pure rfl rfl (RV.indexAddr Ts110 rfl rfl hbx8 ((H.own 2 rfl).sl.addr_ hx8)) ?_
                        refine LW.pure rfl rfl (RV.load1 Tk4 rfl ((H.own 2 rfl).sl.at_ hx8) rfl) ?_
                        refine LW.pure rfl rfl (RV.move rfl) ?_
                        refine LW.pureYB rfl rfl rfl rfl hq5 (RV.move rfl) ?_
                        refine LW.pureYB rfl rfl rfl rfl hq5 (RV.fieldAddr Tf46_0 rfl) ?_
                        refine LW.pureYB rfl rfl rfl rfl hq5 (RV.load1 Tk3 rfl ((H.blk 4 rfl).cells.off 0) rfl) ?_
                        refine LW.pureYB rfl rfl rfl rfl hq5 (RV.indexAddr Ts110 rfl rfl hbx9 ((H.own 2 rfl).sl.addr_ hx9)) ?_
                        refine LW.pureYB rfl rfl rfl rfl hq5 (RV.load1 Tk4 rfl ((H.own 2 rfl).sl.at_ hx9) rfl) ?_
                        refine LW.pureYB rfl rfl rfl rfl hq5 (RV.not rfl) ?_
                        refine LW.pure rfl rfl (RV.pickTB rfl hq5 rfl) ?_
                        refine LW.pure rfl rfl (RV.assign rfl) ?_
                        refine LW.nil (jK904 _ _ ⟨_, ?_, ⟨(!x9), F, rfl, H⟩⟩)
                        exact ⟨rfl, rfl, (look_slice rfl (by first | rfl | (simp; done) | omega | (simp; omega))), (look_slice rfl (by first | rfl | (simp; done) | omega | (simp; omega))), (look_slice rfl (by first | rfl | (simp; done) | omega | (simp; omega))), rfl, rfl, rfl, (look_slice rfl (by first | rfl | (simp; done) | omega | (simp; omega))), rfl, rfl, rfl, trivial⟩
                      ·
                        replace F := ite_n hp5 F
                        have hq5 : x8 = false := raw_f hp5
                        refine CW.region ?_
                        refine LW.pure rfl rfl (RV.move rfl) ?_
                        refine LW.pure rfl rfl (RV.fieldAddr Tf46_1 rfl) ?_
                        refine LW.pure rfl rfl (RV.load1 Tk3 rfl ((H.blk 4 rfl).cells.off 1) rfl) ?_
                        refine LW.pure rfl rfl (RV.indexAddr Ts110 rfl rfl hbx8 ((H.own 2 rfl).sl.addr_ hx8)) ?_
                        refine LW.pure rfl rfl (RV.load1 Tk4 rfl ((H.own 2 rfl).sl.at_ hx8) rfl) ?_
                        refine LW.pure rfl rfl (RV.move rfl) ?_
                        refine LW.noB rfl rfl rfl rfl (ne_beq (v := false) hq5 rfl) ?_
                        refine LW.noB rfl rfl rfl rfl (ne_beq (v := false) hq5 rfl) ?_
                        refine LW.noB rfl rfl rfl rfl (ne_beq (v := false) hq5 rfl) ?_
                        refine LW.noB rfl rfl rfl rfl (ne_beq (v := false) hq5 rfl) ?_
                        refine LW.noB rfl rfl rfl rfl (ne_beq (v := false) hq5 rfl) ?_
                        refine LW.noB rfl rfl rfl rfl (ne_beq (v := false) hq5 rfl) ?_
                        refine LW.pure rfl rfl (RV.pickFB rfl hq5 rfl) ?_
                        refine LW.pure rfl rfl (RV.assign rfl) ?_
                        refine LW.nil (jK904 _ _ ⟨_, ?_, ⟨false, F, rfl, H⟩⟩)
                        exact ⟨rfl, rfl, (look_slice rfl (by first | rfl | (simp; done) | omega | (simp; omega))), (look_slice rfl (by first | rfl | (simp; done) | omega | (simp; omega))), (look_slice rfl (by first | rfl | (simp; done) | omega | (simp; omega))), rfl, rfl, rfl, (look_slice rfl (by first | rfl | (simp; done) | omega | (simp; omega))), rfl, rfl, rfl, trivial⟩
                ·
                  intro K16 hK16 jK905
                  obtain ⟨x11, hbx11, hx11, F⟩ := ix_some F
                  by_cases hp6 : x11 = true
                  ·
                    replace F := ite_y hp6 F
                    have hq6 : x11 = true := hp6
                    obtain ⟨x12, hbx12, hx12, F⟩ := ix_some F
                    refine CW.region ?_
                    refine LW.pure rfl rfl (RV.move rfl) ?_
                    refine LW.pure rfl rfl (RV.fieldAddr Tf46_0 rfl) ?_
                    refine LW.pure rfl rfl (RV.load1 Tk3 rfl ((H.blk 0 rfl).cells.off 0) rfl) ?_
                    refine LW.pure rfl rfl (RV.indexAddr Ts110 rfl rfl hbx11 ((H.own 3 rfl).sl.addr_ hx11)) ?_
                    refine LW.pure rfl rfl (RV.load1 Tk4 rfl ((H.own 3 rfl).sl.at_ hx11) rfl) ?_
                    refine LW.pure rfl rfl (RV.move rfl) ?_
                    refine LW.pureYB rfl rfl rfl rfl hq6 (RV.move rfl) ?_
                    refine LW.pureYB rfl rfl rfl rfl hq6 (RV.fieldAddr Tf46_1 rfl) ?_
                    refine LW.pureYB rfl rfl rfl rfl hq6 (RV.load1 Tk3 rfl ((H.blk 0 rfl).cells.off 1) rfl) ?_
                    refine LW.pureYB rfl rfl rfl rfl hq6 (RV.indexAddr Ts110 rfl rfl hbx12 ((H.own 3 rfl).sl.addr_ hx12)) ?_
                    refine LW.pureYB rfl rfl rfl rfl hq6 (RV.load1 Tk4 rfl ((H.own 3 rfl).sl.at_ hx12) rfl) ?_
                    refine LW.pureYB rfl rfl rfl rfl hq6 (RV.not rfl) ?_
                    refine LW.pure rfl rfl (RV.pickTB rfl hq6 rfl) ?_
                    refine LW.pure rfl rfl (RV.assign rfl) ?_
                    replace H := H.pick (L' := [.own A3_1 c3_1 3 1 (List.map encN r1.2), .own Al10 cl10 3 1 (List.map encN l6), .own Al13 cl13 4 1 (List.map encBl l7), .blk b1 24 [.int .i64 a0.points, .slice A_a0_readings a0.readings.length c_a0_readings], .blk b2 46 [.int .i64 x1.from_, .int .i64 x1.to_, .int .i64 x1.rise, .int .i64 x1.weight]]) [1, 2, 3, 4, 0] (by decide) rfl
                    replace R0 := H.ext
                    refine LW.nil (jK905 _ _ ⟨_, ?_, ⟨(!x12), F, rfl, H⟩⟩)
                    exact ⟨rfl, rfl, (look_slice rfl (by first | rfl | (simp; done) | omega | (simp; omega))), (look_slice rfl (by first | rfl | (simp; done) | omega | (simp; omega))), (look_slice rfl (by first | rfl | (simp; done) | omega | (simp; omega))), rfl, rfl, rfl, (look_slice rfl (by first | rfl | (simp; done) | omega | (simp; omega))), rfl, rfl, rfl, trivial⟩
                  ·
                    replace F := ite_n hp6 F
                    have hq6 : x11 = false := raw_f hp6
                    refine CW.region ?_
                    refine LW.pure rfl rfl (RV.move rfl) ?_
                    refine LW.pure rfl rfl (RV.fieldAddr Tf46_0 rfl) ?_
                    refine LW.pure rfl rfl (RV.load1 Tk3 rfl ((H.blk 0 rfl).cells.off 0) rfl) ?_
                    refine LW.pure rfl rfl (RV.indexAddr Ts110 rfl rfl hbx11 ((H.own 3 rfl).sl.addr_ hx11)) ?_
                    refine LW.pure rfl rfl (RV.load1 Tk4 rfl ((H.own 3 rfl).sl.at_ hx11) rfl) ?_
                    refine LW.pure rfl rfl (RV.move rfl) ?_
                    refine LW.noB rfl rfl rfl rfl (ne_beq (v := false) hq6 rfl) ?_
                    refine LW.noB rfl rfl rfl rfl (ne_beq (v := false) hq6 rfl) ?_
                    refine LW.noB rfl rfl rfl rfl (ne_beq (v := false) hq6 rfl) ?_
                    refine LW.noB rfl rfl rfl rfl (ne_beq (v := false) hq6 rfl) ?_
                    refine LW.noB rfl rfl rfl rfl (ne_beq (v := false) hq6 rfl) ?_
                    refine LW.noB rfl rfl rfl rfl (ne_beq (v := false) hq6 rfl) ?_
                    refine LW.pure rfl rfl (RV.pickFB rfl hq6 rfl) ?_
                    refine LW.pure rfl rfl (RV.assign rfl) ?_
                    replace H := H.pick (L' := [.own A3_1 c3_1 3 1 (List.map encN r1.2), .own Al10 cl10 3 1 (List.map encN l6), .own Al13 cl13 4 1 (List.map encBl l7), .blk b1 24 [.int .i64 a0.points, .slice A_a0_readings a0.readings.length c_a0_readings], .blk b2 46 [.int .i64 x1.from_, .int .i64 x1.to_, .int .i64 x1.rise, .int .i64 x1.weight]]) [1, 2, 3, 4, 0] (by decide) rfl
                    replace R0 := H.ext
                    refine LW.nil (jK905 _ _ ⟨_, ?_, ⟨false, F, rfl, H⟩⟩)
                    exact ⟨rfl, rfl, (look_slice rfl (by first | rfl | (simp; done) | omega | (simp; omega))), (look_slice rfl (by first | rfl | (simp; done) | omega | (simp; omega))), (look_slice rfl (by first | rfl | (simp; done) | omega | (simp; omega))), rfl, rfl, rfl, (look_slice rfl (by first | rfl | (simp; done) | omega | (simp; omega))), rfl, rfl, rfl, trivial⟩
            ·
              replace F := ite_n hp2 F
              have hq2 := dec_f hp2
              refine CW.condF rfl hq2 ?_
              refine CW.exit (jK871 _ _ ⟨_, ?_, ⟨l6, l7, F, rfl, H⟩⟩)
              exact ⟨rfl, rfl, (look_slice rfl (by first | rfl | (simp; done) | omega | (simp; omega))), (look_slice rfl (by first | rfl | (simp; done) | omega | (simp; omega))), (look_slice rfl (by first | rfl | (simp; done) | omega | (simp; omega))), rfl, rfl, trivial⟩
        ·
          replace F := ite_n hp1 F
          have hq1 := dec_f hp1
          refine CW.condF rfl hq1 ?_
          replace H := H.pick (L' := [.own Al10 cl10 3 1 (List.map encN l8)]) [1] (by decide) rfl
          replace R0 := H.ext
          refine CW.exit (jK691 _ _ ⟨_, ?_, ⟨l8, F, rfl, H⟩⟩)
          exact ⟨rfl, (look_slice rfl (by first | rfl | (simp; done) | omega | (simp; omega))), trivial⟩
    ·
      intro K17 hK17 jK906
      refine CW.seq fun K18 hK18 => ?_
      refine CW.region ?_
      refine LW.pure rfl rfl (RV.move rfl) ?_
      refine LW.pure rfl rfl (RV.len Ts39 rfl) ?_
      refine LW.pure rfl rfl (RV.move rfl) ?_
      refine LW.nil (hK18 _ _ ?_)
      refine CW.block ?_
      refine CW.loop (fun meas ρ wl10 => ∃ (t24_1 : Int) (l12 : List Bool), level_byTree_L3 a0 r1 l10 meas t24_1 l12 = some res ∧ ρ = [(1, .pointer (some (⟨b1, 0, none⟩))), (2, .slice none 0 0), (3, .slice A3_0 r1.1.length c3_0), (4, .slice A3_1 r1.2.length c3_1), (5, .slice Al10 l10.length cl10), (6, .slice Al13 l12.length cl13), (23, .int .i64 ((r1.1.length : Int))), (24, .int .i64 t24_1)] ∧ Hp w wl10 [.own A3_0 c3_0 3 1 (List.map encN r1.1), .own A3_1 c3_1 3 1 (List.map encN r1.2), .own Al10 cl10 3 1 (List.map encN l10), .own Al13 cl13 4 1 (List.map encBl l12), .blk b1 24 [.int .i64 a0.points, .slice A_a0_readings a0.readings.length c_a0_readings]]) FU ⟨_, ?_, ((0 : Int)), l13, F, rfl, H⟩ ?_
      · exact ⟨rfl, rfl, (look_slice rfl (by first | rfl | (simp; done) | omega | (simp; omega))), (look_slice rfl (by first | rfl | (simp; done) | omega | (simp; omega))), (look_slice rfl (by first | rfl | (simp; done) | omega | (simp; omega))), (look_slice rfl (by first | rfl | (simp; done) | omega | (simp; omega))), rfl, rfl, trivial⟩
      rintro mk3 _ wl10 ⟨t24_1, l12, F, rfl, H⟩
      have R0 := H.ext
      replace F := level_byTree_L3_s F
      obtain ⟨mk3, rfl, F⟩ := F
      generalize hrec3 : level_byTree_L3 a0 r1 l10 mk3 = rec3 at F
      unfold level_byTree_B3 at F
      refine CW.seq fun K19 hK19 => ?_
      refine CW.region ?_
      refine LW.pure rfl rfl (RV.lss rfl rfl) ?_
      refine LW.nil (hK19 _ _ ?_)
      refine CW.seq fun K20 hK20 => ?_
      by_cases hp7 : t24_1 < ((r1.1.length : Int))
      ·
        replace F := ite_y hp7 F
        have hq7 := dec_t hp7
        refine CW.condT rfl hq7 ?_
        refine CW.skip (hK20 _ _ ?_)
        refine CW.seq fun K21 hK21 => ?_
        refine CW.block ?_
        refine CW.seq fun K22 hK22 => ?_
        refine CW.region ?_
        refine LW.pure rfl rfl (RV.move rfl) ?_
        refine LW.pure rfl rfl (RV.assign rfl) ?_
        refine LW.nil (hK22 _ _ ?_)
        obtain ⟨x13, hbx13, hx13, F⟩ := ix_some F
        obtain ⟨x14, hbx14, hx14, F⟩ := ix_some F
        refine CW.region ?_
        refine LW.pure rfl rfl (RV.move rfl) ?_
        refine LW.pure rfl rfl (RV.move rfl) ?_
        refine LW.pure rfl rfl (RV.move rfl) ?_
        refine LW.pure rfl rfl (RV.move rfl) ?_
        refine LW.pure rfl rfl (RV.indexAddr Ts39 rfl rfl hbx13 ((H.own 0 rfl).sl.addr_ hx13)) ?_
        refine LW.pure rfl rfl (RV.load1 Tk3 rfl ((H.own 0 rfl).sl.at_ hx13) rfl) ?_
        refine LW.pure rfl rfl (RV.move rfl) ?_
        refine LW.pure rfl rfl (RV.eqi rfl rfl) ?_
        refine LW.pure rfl rfl (RV.indexAddr Ts110 rfl rfl hbx14 ((H.own 3 rfl).sl.addr_ hx14)) ?_
        refine LW.go rfl rfl (OW.storeO (enc := encBl) (vs := [.bool (decide (x13 = t24_1))]) 0 (decide (x13 = t24_1)) Tk4 rfl rfl (H.own 3 rfl) (fun _ => rfl) rfl hx14 rfl rfl (by decide) rfl rfl fun w11 M5 O5 => ?_)
        replace H : Hp w w11 [.own A3_0 c3_0 3 1 (List.map encN r1.1), .own A3_1 c3_1 3 1 (List.map encN r1.2), .own Al10 cl10 3 1 (List.map encN l10), .own Al13 cl13 4 1 (List.map encBl ((l12.set (Int.toNat t24_1) (decide (x13 = t24_1))))), .blk b1 24 [.int .i64 a0.points, .slice A_a0_readings a0.readings.length c_a0_readings]] := H.mod 3 rfl M5 O5 (.inl rfl)
        replace R0 := H.ext
        refine LW.nil (hK21 _ _ ?_)
        obtain ⟨hg5, F⟩ := gd_some F
        refine CW.region ?_
        refine LW.pure rfl rfl (RV.add rfl rfl hg5) ?_
        refine LW.pure rfl rfl (RV.move rfl) ?_
        refine LW.nil ?_
        subst hrec3
        refine ⟨mk3, Nat.lt_succ_self _, _, ?_, (t24_1 + 1), ((l12.set (Int.toNat t24_1) (decide (x13 = t24_1)))), F, rfl, H⟩
        exact ⟨rfl, rfl, (look_slice rfl (by first | rfl | (simp; done) | omega | (simp; omega))), (look_slice rfl (by first | rfl | (simp; done) | omega | (simp; omega))), (look_slice rfl (by first | rfl | (simp; done) | omega | (simp; omega))), (look_slice rfl (by first | rfl | (simp; done) | omega | (simp; omega))), rfl, rfl, trivial⟩
      ·
        replace F := ite_n hp7 F
        have hq7 := dec_f hp7
        refine CW.condF rfl hq7 ?_
        replace H := H.pick (L' := [.own A3_1 c3_1 3 1 (List.map encN r1.2), .own Al10 cl10 3 1 (List.map encN l10), .own Al13 cl13 4 1 (List.map encBl l12), .blk b1 24 [.int .i64 a0.points, .slice A_a0_readings a0.readings.length c_a0_readings]]) [1, 2, 3, 4] (by decide) rfl
        replace R0 := H.ext
        refine CW.exit (jK906 _ _ ⟨_, ?_, ⟨l12, F, rfl, H⟩⟩)
        exact ⟨rfl, rfl, (look_slice rfl (by first | rfl | (simp; done) | omega | (simp; omega))), (look_slice rfl (by first | rfl | (simp; done) | omega | (simp; omega))), (look_slice rfl (by first | rfl | (simp; done) | omega | (simp; omega))), trivial⟩
  ·
    intro K23 hK23 jK920
    obtain ⟨hg6, F⟩ := gd_some F
    obtain ⟨hg7, F⟩ := gd_some F
    refine CW.draw [] (fun _ => True) (.cons 0 1 (.cons 1 1 (.cons 3 1 (.cons 4 1 (.alt 2 (.cons 6 1 (.cons 5 0 (.cons 7 1 .nil))) (.cons 5 0 (.cons 2 0 (.cons 6 1 (.cons 7 1 .nil))))))))) mixed (by kernel_rfl) fun w12 E4 => ?_
    replace H := H.grow E4
    replace R0 := H.ext
    refine DW.fix rfl rfl rfl (fun _ EQ => RV.fieldAddr Tf24_0 rfl) ?_
    refine DW.fix rfl rfl rfl (fun _ EQ => RV.load1 Tk3 rfl (((H.grow EQ).blk 2 rfl).cells.off 0) rfl) ?_
    refine DW.fix rfl rfl rfl (fun _ EQ => RV.fieldAddr Tf24_0 rfl) ?_
    refine DW.fix rfl rfl rfl (fun _ EQ => RV.load1 Tk3 rfl (((H.grow EQ).blk 2 rfl).cells.off 0) rfl) ?_
    refine DW.alt ?_ ?_
    ·
      refine DW.sole rfl rfl rfl (OW.makeR (enc := encN) (0 : Int) Ts39 rfl rfl rfl rfl rfl hg6 (by decide) fun b3 w13 N3 => ?_)
      refine ⟨fun _ => N3.ext, ModX.ext N3.ext, ?_⟩
      replace H := H.made' (k := 1) (t := 3) (enc := encN) (l := (List.replicate (Int.toNat a0.points) (0 : Int))) N3 N3.blk (fun _ => rfl) rfl (by first | decide | omega | (simp; done) | (simp; omega))
      replace R0 := H.ext
      refine DW.fix rfl rfl rfl (fun _ EQ => RV.assign rfl) ?_
      refine DW.sole rfl rfl rfl (OW.makeR (enc := encBl) (false : Bool) Ts110 rfl rfl rfl rfl rfl hg7 (by decide) fun b4 w14 N4 => ?_)
      refine ⟨fun _ => N4.ext, ModX.ext N4.ext, ?_⟩
      replace H := H.made' (k := 1) (t := 4) (enc := encBl) (l := (List.replicate (Int.toNat a0.points) (false : Bool))) N4 N4.blk (fun _ => rfl) rfl (by first | decide | omega | (simp; done) | (simp; omega))
      replace R0 := H.ext
      refine DW.fix rfl rfl rfl (fun _ EQ => RV.assign rfl) ?_
      replace H := H.pick (L' := [.own A3_0 c3_0 3 1 (List.map encN r1.1), .own A3_1 c3_1 3 1 (List.map encN r1.2), .own (some ⟨b3, 0, none⟩) (((List.replicate (Int.toNat a0.points) (0 : Int))).length) 3 1 (List.map encN ((List.replicate (Int.toNat a0.points) (0 : Int)))), .own (some ⟨b4, 0, none⟩) (((List.replicate (Int.toNat a0.points) (false : Bool))).length) 4 1 (List.map encBl ((List.replicate (Int.toNat a0.points) (false : Bool)))), .blk b1 24 [.int .i64 a0.points, .slice A_a0_readings a0.readings.length c_a0_readings]]) [2, 3, 1, 0, 4] (by decide) rfl
      replace R0 := H.ext
      refine DW.nil (jK920 _ _ ⟨_, ?_, ⟨((List.replicate (Int.toNat a0.points) (0 : Int))), ((List.replicate (Int.toNat a0.points) (false : Bool))), (some ⟨b3, 0, none⟩), (((List.replicate (Int.toNat a0.points) (0 : Int))).length), (some ⟨b4, 0, none⟩), (((List.replicate (Int.toNat a0.points) (false : Bool))).length), F, rfl, H⟩⟩)
      exact ⟨rfl, rfl, (look_slice rfl (by first | rfl | (simp; done) | omega | (simp; omega))), (look_slice rfl (by first | rfl | (simp; done) | omega | (simp; omega))), (look_slice rfl (by first | rfl | (simp; done) | omega | (simp; omega))), (look_slice rfl (by first | rfl | (simp; done) | omega | (simp; omega))), trivial⟩
    ·
      refine DW.sole rfl rfl rfl (OW.makeR (enc := encBl) (false : Bool) Ts110 rfl rfl rfl rfl rfl hg7 (by decide) fun b5 w15 N5 => ?_)
      refine ⟨fun _ => N5.ext, ModX.ext N5.ext, ?_⟩
      replace H := H.made' (k := 1) (t := 4) (enc := encBl) (l := (List.replicate (Int.toNat a0.points) (false : Bool))) N5 N5.blk (fun _ => rfl) rfl (by first | decide | omega | (simp; done) | (simp; omega))
      replace R0 := H.ext
      refine DW.sole rfl rfl rfl (OW.makeR (enc := encN) (0 : Int) Ts39 rfl rfl rfl rfl rfl hg6 (by decide) fun b6 w16 N6 => ?_)
      refine ⟨fun _ => N6.ext, ModX.ext N6.ext, ?_⟩
      replace H := H.made' (k := 1) (t := 3) (enc := encN) (l := (List.replicate (Int.toNat a0.points) (0 : Int))) N6 N6.blk (fun _ => rfl) rfl (by first | decide | omega | (simp; done) | (simp; omega))
      replace R0 := H.ext
      refine DW.fix rfl rfl rfl (fun _ EQ => RV.assign rfl) ?_
      refine DW.fix rfl rfl rfl (fun _ EQ => RV.assign rfl) ?_
      replace H := H.pick (L' := [.own A3_0 c3_0 3 1 (List.map encN r1.1), .own A3_1 c3_1 3 1 (List.map encN r1.2), .own (some ⟨b6, 0, none⟩) (((List.replicate (Int.toNat a0.points) (0 : Int))).length) 3 1 (List.map encN ((List.replicate (Int.toNat a0.points) (0 : Int)))), .own (some ⟨b5, 0, none⟩) (((List.replicate (Int.toNat a0.points) (false : Bool))).length) 4 1 (List.map encBl ((List.replicate (Int.toNat a0.points) (false : Bool)))), .blk b1 24 [.int .i64 a0.points, .slice A_a0_readings a0.readings.length c_a0_readings]]) [2, 3, 0, 1, 4] (by decide) rfl
      replace R0 := H.ext
      refine DW.nil (jK920 _ _ ⟨_, ?_, ⟨((List.replicate (Int.toNat a0.points) (0 : Int))), ((List.replicate (Int.toNat a0.points) (false : Bool))), (some ⟨b6, 0, none⟩), (((List.replicate (Int.toNat a0.points) (0 : Int))).length), (some ⟨b5, 0, none⟩), (((List.replicate (Int.toNat a0.points) (false : Bool))).length), F, rfl, H⟩⟩)
      exact ⟨rfl, rfl, (look_slice rfl (by first | rfl | (simp; done) | omega | (simp; omega))), (look_slice rfl (by first | rfl | (simp; done) | omega | (simp; omega))), (look_slice rfl (by first | rfl | (simp; done) | omega | (simp; omega))), (look_slice rfl (by first | rfl | (simp; done) | omega | (simp; omega))), trivial⟩
end Go.D1

set_option linter.unusedVariables false
set_option linter.unusedSimpArgs false
namespace Go.D1
open Go.Tb Go.Proofs Go.RowKit
theorem Tc87 : callable Try.prog 87 = true := by kernel_rfl
end Go.D1

set_option linter.unusedVariables false
set_option linter.unusedSimpArgs false
namespace Go.D1
open Go.Tb Go.Proofs Go.RowKit
theorem Tc106 : callable Try.prog 106 = true := by kernel_rfl
theorem Tc81 : callable Try.prog 81 = true := by kernel_rfl
theorem Tc89 : callable Try.prog 89 = true := by kernel_rfl
theorem Tc90 : callable Try.prog 90 = true := by kernel_rfl
set_option maxRecDepth 20000 in
set_option maxHeartbeats 1000000 in
theorem level_closures_ok {a0 : Survey} {A_a0_readings : Option Addr} {c_a0_readings : Nat} {w : World} {res : (List Int)} (h_a0_readings : Sl w A_a0_readings c_a0_readings 4 (a0.readings.map encReading)) (F : level_closures a0 = some res) : Calls Try.prog 89 #[.agg #[.int .i64 a0.points, .slice A_a0_readings a0.readings.length c_a0_readings]] w (fun e w' => ∃ (A1 : Option Addr) (c1 : Nat), e = .returned (.slice A1 res.length c1) ∧ Hp w w' [.own A1 c1 3 1 (List.map encN res)]) := by
  refine calls_of_cw (args := [.agg #[.int .i64 a0.points, .slice A_a0_readings a0.readings.length c_a0_readings]]) Try.func89 rfl rfl rfl rfl ?_
  have H := Hp.start w
  have R0 := H.ext
  unfold level_closures at F
  refine CW.seq fun K1 hK1 => ?_
  refine CW.region ?_
  refine LW.go rfl rfl (OW.box rfl fun b1 w1 N1 => ?_)
  replace H := H.new N1 N1.blk
  replace R0 := H.ext
  refine LW.pure rfl rfl (RV.assign rfl) ?_
  refine LW.nil (hK1 _ _ ?_)
  refine CW.seq fun K2 hK2 => ?_
  obtain ⟨r1, hr1, F⟩ := bnd_some F
  refine CW.region ?_
  refine LW.pure rfl rfl (RV.loadA [.int .i64 a0.points, .slice A_a0_readings a0.readings.length c_a0_readings] Tk24 rfl (H.blk 0 rfl).cells rfl rfl) ?_
  refine LW.go rfl rfl (OW.call Tc87 rfl (level_byTree_ok (a0 := a0) (h_a0_readings.ext R0) hr1) ?_)
  rintro _ w2 ⟨A3_0, c3_0, rfl, E1⟩
  refine ⟨_, rfl, ?_⟩
  replace H : Hp w w2 [.own A3_0 c3_0 3 1 (List.map encN r1), .blk b1 24 [.int .i64 a0.points, .slice A_a0_readings a0.readings.length c_a0_readings]] := H.append E1
  replace R0 := H.ext
  refine LW.pure rfl rfl (RV.assign rfl) ?_
  refine LW.nil (hK2 _ _ ?_)
  refine CW.seq fun K3 hK3 => ?_
  refine CW.region ?_
  refine LW.pure rfl rfl (RV.assign rfl) ?_
  refine LW.nil (hK3 _ _ ?_)
  refine CW.seqJ (fun ρ wl1 => (∃ (l1 : List Int) (Al1 : Option Addr) (cl1 : Nat), level_closures_k1 l1 = some res ∧ ρ = [(2, .slice none 0 0), (4, .slice Al1 l1.length cl1)] ∧ Hp w wl1 [.own Al1 cl1 3 1 (List.map encN l1)])) ?_ ?_
  ·
    rintro _ wl1 ⟨l1, Al1, cl1, F, rfl, H⟩
    have R0 := H.ext
    unfold level_closures_k1 at F
    refine CW.seq fun K4 hK4 => ?_
    refine CW.region ?_
    refine LW.pure rfl rfl (RV.move rfl) ?_
    refine LW.pure rfl rfl (RV.assign rfl) ?_
    refine LW.nil (hK4 _ _ ?_)
    refine CW.ret ?_
    obtain rfl := Option.some.inj F
    refine ⟨_, (ResOK.one rfl), ?_⟩
    exact ⟨Al1, cl1, (by first | rfl | (simp; done) | (simp; omega)), H⟩
  ·
    intro K5 hK5 jK49
    refine CW.seq fun K6 hK6 => ?_
    refine CW.region ?_
    refine LW.pure rfl rfl (RV.fieldAddr Tf24_1 rfl) ?_
    refine LW.pure rfl rfl (RV.load1 Tk22 rfl ((H.blk 1 rfl).cells.off 1) rfl) ?_
    refine LW.pure rfl rfl (RV.len Ts22 rfl) ?_
    refine LW.pure rfl rfl (RV.move rfl) ?_
    refine LW.nil (hK6 _ _ ?_)
    refine CW.block ?_
    replace H := H.nilOwn 3 1
    replace R0 := H.ext
    replace H := H.pick (L' := [.own A3_0 c3_0 3 1 (List.map encN r1), .own none 0 3 1 (List.map encN (([] : List Int)))]) [1, 0] (by decide) rfl
    replace R0 := H.ext
    refine CW.loop (fun meas ρ wl2 => ∃ (t12_1 : Int) (l2 : List Int) (Al2 : Option Addr) (cl2 : Nat), level_closures_L1 a0 r1 meas t12_1 l2 = some res ∧ ρ = [(2, .slice none 0 0), (3, .slice A3_0 r1.length c3_0), (4, .slice Al2 l2.length cl2), (10, .slice A_a0_readings a0.readings.length c_a0_readings), (11, .int .i64 ((a0.readings.length : Int))), (12, .int .i64 t12_1)] ∧ Hp w wl2 [.own A3_0 c3_0 3 1 (List.map encN r1), .own Al2 cl2 3 1 (List.map encN l2)]) FU ⟨_, ?_, ((0 : Int)), (([] : List Int)), none, 0, F, rfl, H⟩ ?_
    · exact ⟨rfl, (look_slice rfl (by first | rfl | (simp; done) | omega | (simp; omega))), (look_slice rfl (by first | rfl | (simp; done) | omega | (simp; omega))), rfl, rfl, rfl, trivial⟩
    rintro mk1 _ wl2 ⟨t12_1, l2, Al2, cl2, F, rfl, H⟩
    have R0 := H.ext
    replace F := level_closures_L1_s F
    obtain ⟨mk1, rfl, F⟩ := F
    generalize hrec1 : level_closures_L1 a0 r1 mk1 = rec1 at F
    unfold level_closures_B1 at F
    refine CW.seq fun K7 hK7 => ?_
    refine CW.region ?_
    refine LW.pure rfl rfl (RV.lss rfl rfl) ?_
    refine LW.nil (hK7 _ _ ?_)
    refine CW.seq fun K8 hK8 => ?_
    by_cases hp1 : t12_1 < ((a0.readings.length : Int))
    ·
      replace F := ite_y hp1 F
      have hq1 := dec_t hp1
      refine CW.condT rfl hq1 ?_
      refine CW.skip (hK8 _ _ ?_)
      refine CW.seq fun K9 hK9 => ?_
      refine CW.block ?_
      refine CW.seq fun K10 hK10 => ?_
      obtain ⟨x1, hbx1, hx1, F⟩ := ix_some F
      refine CW.region ?_
      refine LW.pure rfl rfl (RV.indexAddr Ts22 rfl rfl hbx1 (h_a0_readings.addr_ hx1)) ?_
      refine LW.pure rfl rfl (RV.loadA [.int .i64 x1.from_, .int .i64 x1.to_, .int .i64 x1.rise, .int .i64 x1.weight] Tk46 rfl ((h_a0_readings.at_ hx1).ext R0) rfl rfl) ?_
      refine LW.go rfl rfl (OW.alloc Tz46 fun b2 w3 N2 => ?_)
      replace H := H.new N2 N2.blk
      replace R0 := H.ext
      refine LW.go rfl rfl (OW.store Tk46 rfl rfl (H.blk 0 rfl) (off := 0) (vs := [.int .i64 x1.from_, .int .i64 x1.to_, .int .i64 x1.rise, .int .i64 x1.weight]) rfl rfl rfl rfl rfl fun w4 S1 => ?_)
      replace H : Hp w w4 [.blk b2 46 [.int .i64 x1.from_, .int .i64 x1.to_, .int .i64 x1.rise, .int .i64 x1.weight], .own A3_0 c3_0 3 1 (List.map encN r1), .own Al2 cl2 3 1 (List.map encN l2)] := H.stored 0 rfl S1
      replace R0 := H.ext
      refine LW.nil (hK10 _ _ ?_)
      obtain ⟨x2, hbx2, hx2, F⟩ := ix_some F
      obtain ⟨hg1, F⟩ := gd_some F
      obtain ⟨x3, hbx3, hx3, F⟩ := ix_some F
      obtain ⟨hg2, F⟩ := gd_some F
      obtain ⟨hg3, F⟩ := gd_some F
      have H0 := H
      have hz : w4.heap.size ≤ w4.heap.size := Nat.le_refl _
      refine CW.draw [16] (XB w4 [.blk b2 46 [.int .i64 x1.from_, .int .i64 x1.to_, .int .i64 x1.rise, .int .i64 x1.weight], .own A3_0 c3_0 3 1 (List.map encN r1), .own Al2 cl2 3 1 (List.map encN l2)] [2]) (.cons 0 1 (.cons 1 2 (.cons 2 2 (.cons 3 2 (.cons 4 2 (.cons 5 2 (.cons 6 2 (.cons 7 2 (.cons 8 2 (.cons 9 2 (.cons 10 2 (.cons 11 2 (.cons 12 2 (.cons 13 2 (.cons 14 2 (.cons 15 0 (.cons 16 0 (.cons 17 2 .nil)))))))))))))))))) mixed (by kernel_rfl) fun w5 E2 => ?_
      replace H := H.grow E2
      replace R0 := H.ext
      replace hz := Nat.le_trans hz (Ext.size E2)
      refine DW.fix rfl rfl rfl (fun _ EQ => RV.move rfl) ?_
      refine DW.thru rfl rfl rfl (fun _ EQ => RV.fieldAddr Tf46_2 rfl) ?_
      refine DW.thru rfl rfl rfl (fun _ EQ => RV.load1 Tk3 rfl ((H.thruB 0 rfl EQ (H0.notX [2] 0 rfl (by decide))).cells.off 2) rfl) ?_
      refine DW.thru rfl rfl rfl (fun _ EQ => RV.move rfl) ?_
      refine DW.thru rfl rfl rfl (fun _ EQ => RV.fieldAddr Tf46_1 rfl) ?_
      refine DW.thru rfl rfl rfl (fun _ EQ => RV.load1 Tk3 rfl ((H.thruB 0 rfl EQ (H0.notX [2] 0 rfl (by decide))).cells.off 1) rfl) ?_
      refine DW.thru rfl rfl rfl (fun _ EQ => RV.indexAddr Ts39 rfl rfl hbx2 ((H.own 1 rfl).sl.addr_ hx2)) ?_
      refine DW.thru rfl rfl rfl (fun _ EQ => RV.load1 Tk3 rfl ((H.thruO 1 rfl EQ (H0.notX [2] 1 rfl (by decide))).sl.at_ hx2) rfl) ?_
      refine DW.thru rfl rfl rfl (fun _ EQ => RV.sub rfl rfl hg1) ?_
      refine DW.thru rfl rfl rfl (fun _ EQ => RV.move rfl) ?_
      refine DW.thru rfl rfl rfl (fun _ EQ => RV.fieldAddr Tf46_0 rfl) ?_
      refine DW.thru rfl rfl rfl (fun _ EQ => RV.load1 Tk3 rfl ((H.thruB 0 rfl EQ (H0.notX [2] 0 rfl (by decide))).cells.off 0) rfl) ?_
      refine DW.thru rfl rfl rfl (fun _ EQ => RV.indexAddr Ts39 rfl rfl hbx3 ((H.own 1 rfl).sl.addr_ hx3)) ?_
      refine DW.thru rfl rfl rfl (fun _ EQ => RV.load1 Tk3 rfl ((H.thruO 1 rfl EQ (H0.notX [2] 1 rfl (by decide))).sl.at_ hx3) rfl) ?_
      refine DW.thru rfl rfl rfl (fun _ EQ => RV.add rfl rfl hg2) ?_
      refine DW.sole rfl rfl rfl (OW.buildSlice (e := 3) (vs := [.int .i64 ((x1.rise - x2) + x3)]) (cs := [.int .i64 ((x1.rise - x2) + x3)]) rfl (fun _ => by kernel_rfl) fun b3 w6 N3 => ?_)
      refine ⟨fun _ => N3.ext, ModX.ext N3.ext, ?_⟩
      have G0_b3 : w4.heap.size ≤ b3 := by rw [N3.at_]; exact hz
      replace H := H.made' (k := 1) (t := 3) (enc := encN) (l := ([(x1.rise - x2) + x3] : List Int)) N3 N3.blk (fun _ => rfl) rfl (by first | decide | omega | (simp; done) | (simp; omega))
      replace R0 := H.ext
      replace hz := Nat.le_trans hz (Ext.size N3.ext)
      refine DW.sole rfl rfl rfl (OW.appendG (enc := encN) (l := l2) (xs := ([(x1.rise - x2) + x3] : List Int)) Ts39 rfl (look_slice rfl (by first | rfl | (simp; done) | (simp; omega))) (H.own 3 rfl) (H.own 0 rfl).sl (fun _ => rfl) rfl rfl hg3 (by decide) fun A2 c2 w7 O1 M1 D1 => ?_)
      refine ⟨fun h => absurd h (by decide), M1.modx (XB.own_ 2 (by decide) rfl), ?_⟩
      replace H : Hp w w7 [.own (some ⟨b3, 0, none⟩) ((([(x1.rise - x2) + x3] : List Int)).length) 3 1 (List.map encN (([(x1.rise - x2) + x3] : List Int))), .blk b2 46 [.int .i64 x1.from_, .int .i64 x1.to_, .int .i64 x1.rise, .int .i64 x1.weight], .own A3_0 c3_0 3 1 (List.map encN r1), .own A2 c2 3 1 (List.map encN ((l2 ++ ([(x1.rise - x2) + x3] : List Int))))] := H.mod 3 rfl M1 O1 D1
      replace R0 := H.ext
      replace hz := Nat.le_trans hz M1.size
      refine DW.thru rfl rfl rfl (fun _ EQ => RV.assign rfl) ?_
      refine DW.nil (hK9 _ _ ?_)
      obtain ⟨hg4, F⟩ := gd_some F
      refine CW.region ?_
      refine LW.pure rfl rfl (RV.add rfl rfl hg4) ?_
      refine LW.pure rfl rfl (RV.move rfl) ?_
      refine LW.nil ?_
      replace H := H.pick (L' := [.own A3_0 c3_0 3 1 (List.map encN r1), .own A2 c2 3 1 (List.map encN ((l2 ++ ([(x1.rise - x2) + x3] : List Int))))]) [2, 3] (by decide) rfl
      replace R0 := H.ext
      subst hrec1
      refine ⟨mk1, Nat.lt_succ_self _, _, ?_, (t12_1 + 1), ((l2 ++ ([(x1.rise - x2) + x3] : List Int))), A2, c2, F, rfl, H⟩
      exact ⟨rfl, (look_slice rfl (by first | rfl | (simp; done) | omega | (simp; omega))), (look_slice rfl (by first | rfl | (simp; done) | omega | (simp; omega))), rfl, rfl, rfl, trivial⟩
    ·
      replace F := ite_n hp1 F
      have hq1 := dec_f hp1
      refine CW.condF rfl hq1 ?_
      replace H := H.pick (L' := [.own Al2 cl2 3 1 (List.map encN l2)]) [1] (by decide) rfl
      replace R0 := H.ext
      refine CW.exit (jK49 _ _ ⟨_, ?_, ⟨l2, Al2, cl2, F, rfl, H⟩⟩)
      exact ⟨rfl, (look_slice rfl (by first | rfl | (simp; done) | omega | (simp; omega))), trivial⟩
set_option maxRecDepth 20000 in
set_option maxHeartbeats 1000000 in
theorem slices_IndexFunc_int_ok {a0 : List Int} {a1 : Int → Option Bool} {A_a0 : Option Addr} {c_a0 : Nat} {f_a1 : Nat} {p_a1 : Array Value} {q_a1 : Array Value} {w : World} {res : Int} (h_a0 : Sl w A_a0 c_a0 1 (a0.map encN)) (h_a1 : ∀ (x2 : Int) (r : Bool), a1 x2 = some r → ∀ w1, Ext w w1 → CallsV Try.prog f_a1 p_a1 q_a1 #[.int .i64 x2] w1 (Rt w1 (.bool r))) (F : slices_IndexFunc_int a0 a1 = some res) : Calls Try.prog 106 #[.slice A_a0 a0.length c_a0, .func (.func f_a1) p_a1 q_a1] w (Rt w (.int .i64 res)) := by
  refine calls_of_cw (args := [.slice A_a0 a0.length c_a0, .func (.func f_a1) p_a1 q_a1]) Try.func106 rfl rfl rfl rfl ?_
  have H := Hp.start w
  have R0 := H.ext
  unfold slices_IndexFunc_int at F
  refine CW.seq fun K1 hK1 => ?_
  refine CW.region ?_
  refine LW.pure rfl rfl (RV.assign rfl) ?_
  refine LW.nil (hK1 _ _ ?_)
  refine CW.seqJ (fun ρ wl1 => (slices_IndexFunc_int_k1 = some res ∧ ρ = [(4, .int .i64 0)] ∧ Hp w wl1 [])) ?_ ?_
  ·
    rintro _ wl1 ⟨F, rfl, H⟩
    have R0 := H.ext
    unfold slices_IndexFunc_int_k1 at F
    refine CW.seq fun K2 hK2 => ?_
    refine CW.region ?_
    refine LW.pure rfl rfl (RV.assign rfl) ?_
    refine LW.nil (hK2 _ _ ?_)
    refine CW.ret ?_
    obtain rfl := Option.some.inj F
    refine ⟨_, (ResOK.one rfl), ?_⟩
    refine ⟨(by first | rfl | simp), R0⟩
  ·
    intro K3 hK3 jK63
    refine CW.seq fun K4 hK4 => ?_
    refine CW.region ?_
    refine LW.pure rfl rfl (RV.move rfl) ?_
    refine LW.pure rfl rfl (RV.len Ts39 rfl) ?_
    refine LW.pure rfl rfl (RV.move rfl) ?_
    refine LW.nil (hK4 _ _ ?_)
    refine CW.block ?_
    refine CW.loop (fun meas ρ wl2 => ∃ (t8_1 : Int), slices_IndexFunc_int_L1 a0 a1 meas t8_1 = some res ∧ ρ = [(0, .slice A_a0 a0.length c_a0), (1, .func (.func f_a1) p_a1 q_a1), (4, .int .i64 0), (7, .int .i64 ((a0.length : Int))), (8, .int .i64 t8_1)] ∧ Hp w wl2 []) FU ⟨_, ?_, ((0 : Int)), F, rfl, H⟩ ?_
    · exact ⟨rfl, rfl, rfl, rfl, rfl, trivial⟩
    rintro mk1 _ wl2 ⟨t8_1, F, rfl, H⟩
    have R0 := H.ext
    replace F := slices_IndexFunc_int_L1_s F
    obtain ⟨mk1, rfl, F⟩ := F
    generalize hrec1 : slices_IndexFunc_int_L1 a0 a1 mk1 = rec1 at F
    unfold slices_IndexFunc_int_B1 at F
    refine CW.seq fun K5 hK5 => ?_
    refine CW.region ?_
    refine LW.pure rfl rfl (RV.lss rfl rfl) ?_
    refine LW.nil (hK5 _ _ ?_)
    refine CW.seq fun K6 hK6 => ?_
    by_cases hp1 : t8_1 < ((a0.length : Int))
    ·
      replace F := ite_y hp1 F
      have hq1 := dec_t hp1
      refine CW.condT rfl hq1 ?_
      refine CW.skip (hK6 _ _ ?_)
      refine CW.seq fun K7 hK7 => ?_
      refine CW.block ?_
      refine CW.seq fun K8 hK8 => ?_
      refine CW.region ?_
      refine LW.pure rfl rfl (RV.move rfl) ?_
      refine LW.pure rfl rfl (RV.assign rfl) ?_
      refine LW.nil (hK8 _ _ ?_)
      refine CW.seq fun K9 hK9 => ?_
      obtain ⟨x1, hbx1, hx1, F⟩ := ix_some F
      obtain ⟨r1, hr1, F⟩ := bnd_some F
      refine CW.region ?_
      refine LW.pure rfl rfl (RV.move rfl) ?_
      refine LW.pure rfl rfl (RV.move rfl) ?_
      refine LW.pure rfl rfl (RV.move rfl) ?_
      refine LW.pure rfl rfl (RV.indexAddr Ts39 rfl rfl hbx1 (h_a0.addr_ hx1)) ?_
      refine LW.pure rfl rfl (RV.load1 Tk3 rfl ((h_a0.at_ hx1).ext R0) rfl) ?_
      refine LW.go rfl rfl (OW.callV2 rfl rfl rfl (h_a1 _ _ hr1 _ R0) ?_)
      rintro _ w2 ⟨rfl, E1⟩
      refine ⟨_, rfl, ?_⟩
      replace H := H.grow E1
      replace R0 := H.ext
      refine LW.nil (hK9 _ _ ?_)
      by_cases hp2 : r1 = true
      ·
        replace F := ite_y hp2 F
        have hq2 : r1 = true := hp2
        refine CW.condT rfl hq2 ?_
        refine CW.seq fun K10 hK10 => ?_
        refine CW.region ?_
        refine LW.pure rfl rfl (RV.move rfl) ?_
        refine LW.pure rfl rfl (RV.assign rfl) ?_
        refine LW.nil (hK10 _ _ ?_)
        refine CW.ret ?_
        obtain rfl := Option.some.inj F
        refine ⟨_, (ResOK.one rfl), ?_⟩
        refine ⟨(by first | rfl | simp), R0⟩
      ·
        replace F := ite_n hp2 F
        have hq2 : r1 = false := raw_f hp2
        refine CW.condF rfl hq2 ?_
        refine CW.skip (hK7 _ _ ?_)
        obtain ⟨hg1, F⟩ := gd_some F
        refine CW.region ?_
        refine LW.pure rfl rfl (RV.add rfl rfl hg1) ?_
        refine LW.pure rfl rfl (RV.move rfl) ?_
        refine LW.nil ?_
        subst hrec1
        refine ⟨mk1, Nat.lt_succ_self _, _, ?_, (t8_1 + 1), F, rfl, H⟩
        exact ⟨rfl, rfl, rfl, rfl, rfl, trivial⟩
    ·
      replace F := ite_n hp1 F
      have hq1 := dec_f hp1
      refine CW.condF rfl hq1 ?_
      refine CW.exit (jK63 _ _ ⟨_, ?_, ⟨F, rfl, H⟩⟩)
      exact ⟨rfl, trivial⟩
set_option maxRecDepth 20000 in
set_option maxHeartbeats 1000000 in
theorem slices_ContainsFunc_int_ok {a0 : List Int} {a1 : Int → Option Bool} {A_a0 : Option Addr} {c_a0 : Nat} {f_a1 : Nat} {p_a1 : Array Value} {q_a1 : Array Value} {w : World} {res : Bool} (h_a0 : Sl w A_a0 c_a0 1 (a0.map encN)) (h_a1 : ∀ (x0 : Int) (r : Bool), a1 x0 = some r → ∀ w1, Ext w w1 → CallsV Try.prog f_a1 p_a1 q_a1 #[.int .i64 x0] w1 (Rt w1 (.bool r))) (F : slices_ContainsFunc_int a0 a1 = some res) : Calls Try.prog 81 #[.slice A_a0 a0.length c_a0, .func (.func f_a1) p_a1 q_a1] w (Rt w (.bool res)) := by
  refine calls_of_cw (args := [.slice A_a0 a0.length c_a0, .func (.func f_a1) p_a1 q_a1]) Try.func81 rfl rfl rfl rfl ?_
  have H := Hp.start w
  have R0 := H.ext
  unfold slices_ContainsFunc_int at F
  refine CW.seq fun K1 hK1 => ?_
  refine CW.region ?_
  refine LW.pure rfl rfl (RV.assign rfl) ?_
  refine LW.nil (hK1 _ _ ?_)
  refine CW.seq fun K2 hK2 => ?_
  obtain ⟨r1, hr1, F⟩ := bnd_some F
  refine CW.region ?_
  refine LW.pure rfl rfl (RV.move rfl) ?_
  refine LW.pure rfl rfl (RV.move rfl) ?_
  refine LW.go rfl rfl (OW.call Tc106 rfl (slices_IndexFunc_int_ok (a0 := a0) (a1 := a1) (h_a0.ext R0) (fun x0 r hF w1 hE => h_a1 x0 r hF w1 (R0.trans hE)) hr1) ?_)
  rintro _ w2 ⟨rfl, E1⟩
  refine ⟨_, rfl, ?_⟩
  replace H := H.grow E1
  replace R0 := H.ext
  refine LW.pure rfl rfl (RV.geq rfl rfl) ?_
  refine LW.pure rfl rfl (RV.assign rfl) ?_
  refine LW.nil (hK2 _ _ ?_)
  refine CW.ret ?_
  obtain rfl := Option.some.inj F
  refine ⟨_, (ResOK.one rfl), ?_⟩
  refine ⟨(by first | rfl | simp), R0⟩
set_option maxRecDepth 20000 in
set_option maxHeartbeats 1000000 in
theorem level_IsTrue_1_ok {a0 : Int} {w : World} {res : Bool} (F : level_IsTrue_1 a0 = some res) : Calls Try.prog 90 #[.int .i64 a0] w (Rt w (.bool res)) := by
  refine calls_of_cw (args := [.int .i64 a0]) Try.func90 rfl rfl rfl rfl ?_
  have H := Hp.start w
  have R0 := H.ext
  unfold level_IsTrue_1 at F
  refine CW.seq fun K1 hK1 => ?_
  refine CW.region ?_
  refine LW.pure rfl rfl (RV.assign rfl) ?_
  refine LW.nil (hK1 _ _ ?_)
  refine CW.seq fun K2 hK2 => ?_
  refine CW.region ?_
  refine LW.pure rfl rfl (RV.move rfl) ?_
  refine LW.pure rfl rfl (RV.nei rfl rfl) ?_
  refine LW.pure rfl rfl (RV.assign rfl) ?_
  refine LW.nil (hK2 _ _ ?_)
  refine CW.ret ?_
  obtain rfl := Option.some.inj F
  refine ⟨_, (ResOK.one rfl), ?_⟩
  refine ⟨(by first | rfl | simp), R0⟩
set_option maxRecDepth 20000 in
set_option maxHeartbeats 1000000 in
theorem level_IsTrue_ok {a0 : Survey} {A_a0_readings : Option Addr} {c_a0_readings : Nat} {w : World} {res : Bool × Int} (h_a0_readings : Sl w A_a0_readings c_a0_readings 4 (a0.readings.map encReading)) (F : level_IsTrue a0 = some res) : Calls Try.prog 55 #[.agg #[.int .i64 a0.points, .slice A_a0_readings a0.readings.length c_a0_readings]] w (Rt w (.tuple #[.bool res.1, .int .i64 res.2])) := by
  refine calls_of_cw (args := [.agg #[.int .i64 a0.points, .slice A_a0_readings a0.readings.length c_a0_readings]]) Try.func55 rfl rfl rfl rfl ?_
  have H := Hp.start w
  have R0 := H.ext
  unfold level_IsTrue at F
  refine CW.seq fun K1 hK1 => ?_
  refine CW.region ?_
  refine LW.go rfl rfl (OW.box rfl fun b1 w1 N1 => ?_)
  replace H := H.new N1 N1.blk
  replace R0 := H.ext
  refine LW.pure rfl rfl (RV.assign rfl) ?_
  refine LW.pure rfl rfl (RV.assign rfl) ?_
  refine LW.nil (hK1 _ _ ?_)
  refine CW.seq fun K2 hK2 => ?_
  refine CW.seq fun K3 hK3 => ?_
  obtain ⟨r1, hr1, F⟩ := bnd_some F
  refine CW.region ?_
  refine LW.pure rfl rfl (RV.loadA [.int .i64 a0.points, .slice A_a0_readings a0.readings.length c_a0_readings] Tk24 rfl (H.blk 0 rfl).cells rfl rfl) ?_
  refine LW.go rfl rfl (OW.call Tc25 rfl (level_Validate_ok (a0 := a0) (h_a0_readings.ext R0) hr1) ?_)
  rintro _ w2 ⟨rfl, E1⟩
  refine ⟨_, rfl, ?_⟩
  replace H := H.grow E1
  replace R0 := H.ext
  refine LW.pure rfl rfl (RV.assign rfl) ?_
  refine LW.nil (hK3 _ _ ?_)
  refine CW.seq fun K4 hK4 => ?_
  refine CW.region ?_
  refine LW.pure rfl rfl (RV.move rfl) ?_
  refine LW.pure rfl rfl (RV.nei rfl rfl) ?_
  refine LW.nil (hK4 _ _ ?_)
  by_cases hp1 : r1 = 0
  ·
    replace F := ite_y hp1 F
    have hq1 := dec_t hp1
    refine CW.condF rfl (not_f hq1) ?_
    refine CW.skip (hK2 _ _ ?_)
    refine CW.seq fun K5 hK5 => ?_
    obtain ⟨r2, hr2, F⟩ := bnd_some F
    obtain ⟨r3, hr3, F⟩ := bnd_some F
    refine CW.region ?_
    refine LW.pure rfl rfl (RV.loadA [.int .i64 a0.points, .slice A_a0_readings a0.readings.length c_a0_readings] Tk24 rfl (H.blk 0 rfl).cells rfl rfl) ?_
    refine LW.go rfl rfl (OW.call Tc89 rfl (level_closures_ok (a0 := a0) (h_a0_readings.ext R0) hr2) ?_)
    rintro _ w3 ⟨A8_0, c8_0, rfl, E2⟩
    refine ⟨_, rfl, ?_⟩
    replace H : Hp w w3 [.own A8_0 c8_0 3 1 (List.map encN r2), .blk b1 24 [.int .i64 a0.points, .slice A_a0_readings a0.readings.length c_a0_readings]] := H.append E2
    replace R0 := H.ext
    refine LW.go rfl rfl (OW.call Tc81 rfl (slices_ContainsFunc_int_ok (a0 := r2) (a1 := level_IsTrue_1) (H.own 0 rfl).sl (fun x0 r hF w4 hE => CallsV.of Tc90 (level_IsTrue_1_ok (a0 := x0) hF)) hr3) ?_)
    rintro _ w5 ⟨rfl, E3⟩
    refine ⟨_, rfl, ?_⟩
    replace H := H.grow E3
    replace R0 := H.ext
    refine LW.pure rfl rfl (RV.not rfl) ?_
    refine LW.pure rfl rfl (RV.assign rfl) ?_
    refine LW.pure rfl rfl (RV.assign rfl) ?_
    refine LW.nil (hK5 _ _ ?_)
    refine CW.ret ?_
    obtain rfl := Option.some.inj F
    refine ⟨_, (ResOK.two rfl rfl), ?_⟩
    refine ⟨(by first | rfl | simp), R0⟩
  ·
    replace F := ite_n hp1 F
    have hq1 := dec_f hp1
    refine CW.condT rfl (not_t hq1) ?_
    refine CW.seq fun K6 hK6 => ?_
    refine CW.region ?_
    refine LW.pure rfl rfl (RV.move rfl) ?_
    refine LW.pure rfl rfl (RV.assign rfl) ?_
    refine LW.pure rfl rfl (RV.assign rfl) ?_
    refine LW.nil (hK6 _ _ ?_)
    refine CW.ret ?_
    obtain rfl := Option.some.inj F
    refine ⟨_, (ResOK.two rfl rfl), ?_⟩
    refine ⟨(by first | rfl | simp), R0⟩
end Go.D1

set_option linter.unusedVariables false
set_option linter.unusedSimpArgs false
namespace Go.D1
open Go.Tb Go.Proofs Go.RowKit
theorem Tc55 : callable Try.prog 55 = true := by kernel_rfl
end Go.D1

set_option linter.unusedVariables false
set_option linter.unusedSimpArgs false
namespace Go.D1
open Go.Tb Go.Proofs Go.RowKit
set_option maxRecDepth 20000 in
set_option maxHeartbeats 1000000 in
theorem ref01_Walk_ok {a0 : Survey} {a1 : Int} {a2 : List Int} {A_a0_readings : Option Addr} {c_a0_readings : Nat} {A_a2 : Option Addr} {c_a2 : Nat} {w : World} {res : Int × Int × Int} (h_a0_readings : Sl w A_a0_readings c_a0_readings 4 (a0.readings.map encReading)) (h_a2 : Sl w A_a2 c_a2 1 (a2.map encN)) (F : ref01_Walk a0 a1 a2 = some res) : Calls Try.prog 60 #[.agg #[.int .i64 a0.points, .slice A_a0_readings a0.readings.length c_a0_readings], .int .i64 a1, .slice A_a2 a2.length c_a2] w (Rt w (.tuple #[.int .i64 res.1, .int .i64 res.2.1, .int .i64 res.2.2])) := by
  refine calls_of_cw (args := [.agg #[.int .i64 a0.points, .slice A_a0_readings a0.readings.length c_a0_readings], .int .i64 a1, .slice A_a2 a2.length c_a2]) Try.func60 rfl rfl rfl rfl ?_
  have H := Hp.start w
  have R0 := H.ext
  unfold ref01_Walk at F
  refine CW.seq fun K1 hK1 => ?_
  refine CW.region ?_
  refine LW.go rfl rfl (OW.box rfl fun b1 w1 N1 => ?_)
  replace H := H.new N1 N1.blk
  replace R0 := H.ext
  refine LW.pure rfl rfl (RV.assign rfl) ?_
  refine LW.pure rfl rfl (RV.assign rfl) ?_
  refine LW.pure rfl rfl (RV.assign rfl) ?_
  refine LW.nil (hK1 _ _ ?_)
  refine CW.seq fun K2 hK2 => ?_
  refine CW.seq fun K3 hK3 => ?_
  obtain ⟨r2, hr2, F⟩ := bnd_some F
  refine CW.region ?_
  refine LW.pure rfl rfl (RV.loadA [.int .i64 a0.points, .slice A_a0_readings a0.readings.length c_a0_readings] Tk24 rfl (H.blk 0 rfl).cells rfl rfl) ?_
  refine LW.go rfl rfl (OW.call Tc26 rfl (ref01_Validate_ok (a0 := a0) (h_a0_readings.ext R0) hr2) ?_)
  rintro _ w2 ⟨rfl, E1⟩
  refine ⟨_, rfl, ?_⟩
  replace H := H.grow E1
  replace R0 := H.ext
  refine LW.pure rfl rfl (RV.assign rfl) ?_
  refine LW.nil (hK3 _ _ ?_)
  refine CW.seq fun K4 hK4 => ?_
  refine CW.region ?_
  refine LW.pure rfl rfl (RV.move rfl) ?_
  refine LW.pure rfl rfl (RV.nei rfl rfl) ?_
  refine LW.nil (hK4 _ _ ?_)
  by_cases hp1 : r2 = 0
  ·
    replace F := ite_y hp1 F
    have hq1 := dec_t hp1
    refine CW.condF rfl (not_f hq1) ?_
    refine CW.skip (hK2 _ _ ?_)
    refine CW.seq fun K5 hK5 => ?_
    refine CW.seq fun K6 hK6 => ?_
    obtain ⟨hg1, F⟩ := gd_some F
    obtain ⟨r3, hr3, F⟩ := bnd_some F
    refine CW.region ?_
    refine LW.pure rfl rfl (RV.move rfl) ?_
    refine LW.pure rfl rfl (RV.fieldAddr Tf24_0 rfl) ?_
    refine LW.pure rfl rfl (RV.load1 Tk3 rfl ((H.blk 0 rfl).cells.off 0) rfl) ?_
    refine LW.pure rfl rfl (RV.sub rfl rfl hg1) ?_
    refine LW.go rfl rfl (OW.call Tc69 rfl (ref01_within_ok (a0 := a1) (a1 := (0 : Int)) (a2 := a0.points - 1) hr3) ?_)
    rintro _ w3 ⟨rfl, E2⟩
    refine ⟨_, rfl, ?_⟩
    replace H := H.grow E2
    replace R0 := H.ext
    refine LW.pure rfl rfl (RV.not rfl) ?_
    refine LW.nil (hK6 _ _ ?_)
    by_cases hp2 : r3 = true
    ·
      replace F := ite_y hp2 F
      have hq2 : r3 = true := hp2
      refine CW.condF rfl (not_f hq2) ?_
      refine CW.skip (hK5 _ _ ?_)
      refine CW.seq fun K7 hK7 => ?_
      refine CW.seq fun K8 hK8 => ?_
      refine CW.region ?_
      refine LW.pure rfl rfl (RV.move rfl) ?_
      refine LW.pure rfl rfl (RV.len Ts39 rfl) ?_
      refine LW.pure rfl rfl (RV.gtr rfl rfl) ?_
      refine LW.nil (hK8 _ _ ?_)
      by_cases hp3 : (20 : Int) < ((a2.length : Int))
      ·
        replace F := ite_y hp3 F
        have hq3 := dec_t hp3
        refine CW.condT rfl hq3 ?_
        refine CW.seq fun K9 hK9 => ?_
        refine CW.region ?_
        refine LW.pure rfl rfl (RV.assign rfl) ?_
        refine LW.pure rfl rfl (RV.assign rfl) ?_
        refine LW.pure rfl rfl (RV.assign rfl) ?_
        refine LW.nil (hK9 _ _ ?_)
        refine CW.ret ?_
        obtain rfl := Option.some.inj F
        refine ⟨_, (ResOK.three rfl rfl rfl), ?_⟩
        refine ⟨(by first | rfl | simp), R0⟩
      ·
        replace F := ite_n hp3 F
        have hq3 := dec_f hp3
        refine CW.condF rfl hq3 ?_
        refine CW.skip (hK7 _ _ ?_)
        refine CW.seqJ (fun ρ wl1 => (ref01_Walk_k3 a0 a1 a2 = some res ∧ ρ = [(1, .int .i64 a1), (2, .slice A_a2 a2.length c_a2), (3, .pointer (some (⟨b1, 0, none⟩))), (6, .int .i64 0), (7, .int .i64 0), (8, .int .i64 0)] ∧ Hp w wl1 [.blk b1 24 [.int .i64 a0.points, .slice A_a0_readings a0.readings.length c_a0_readings]])) ?_ ?_
        ·
          rintro _ wl1 ⟨F, rfl, H⟩
          have R0 := H.ext
          unfold ref01_Walk_k3 at F
          refine CW.seq fun K10 hK10 => ?_
          refine CW.region ?_
          refine LW.pure rfl rfl (RV.move rfl) ?_
          refine LW.pure rfl rfl (RV.assign rfl) ?_
          refine LW.pure rfl rfl (RV.assign rfl) ?_
          refine LW.nil (hK10 _ _ ?_)
          refine CW.seqJ (fun ρ wl2 => (∃ (t11_1 : Int) (t12_1 : Int), ref01_Walk_k1 t11_1 t12_1 = some res ∧ ρ = [(6, .int .i64 0), (7, .int .i64 0), (8, .int .i64 0), (11, .int .i64 t11_1), (12, .int .i64 t12_1)] ∧ Hp w wl2 [])) ?_ ?_
          ·
            rintro _ wl2 ⟨t11_1, t12_1, F, rfl, H⟩
            have R0 := H.ext
            unfold ref01_Walk_k1 at F
            refine CW.seq fun K11 hK11 => ?_
            refine CW.region ?_
            refine LW.pure rfl rfl (RV.move rfl) ?_
            refine LW.pure rfl rfl (RV.move rfl) ?_
            refine LW.pure rfl rfl (RV.assign rfl) ?_
            refine LW.pure rfl rfl (RV.assign rfl) ?_
            refine LW.pure rfl rfl (RV.assign rfl) ?_
            refine LW.nil (hK11 _ _ ?_)
            refine CW.ret ?_
            obtain rfl := Option.some.inj F
            refine ⟨_, (ResOK.three rfl rfl rfl), ?_⟩
            refine ⟨(by first | rfl | simp), R0⟩
          ·
            intro K12 hK12 jK168
            refine CW.seq fun K13 hK13 => ?_
            refine CW.region ?_
            refine LW.pure rfl rfl (RV.assign rfl) ?_
            refine LW.nil (hK13 _ _ ?_)
            refine CW.block ?_
            refine CW.loop (fun meas ρ wl3 => ∃ (t11_2 : Int) (t12_2 : Int) (t13_1 : Int), ref01_Walk_L1 a0 a2 meas t11_2 t12_2 t13_1 = some res ∧ ρ = [(2, .slice A_a2 a2.length c_a2), (3, .pointer (some (⟨b1, 0, none⟩))), (6, .int .i64 0), (7, .int .i64 0), (8, .int .i64 0), (11, .int .i64 t11_2), (12, .int .i64 t12_2), (13, .int .i64 t13_1)] ∧ Hp w wl3 [.blk b1 24 [.int .i64 a0.points, .slice A_a0_readings a0.readings.length c_a0_readings]]) FU ⟨_, ?_, a1, ((0 : Int)), ((0 : Int)), F, rfl, H⟩ ?_
            · exact ⟨rfl, rfl, rfl, rfl, rfl, rfl, rfl, rfl, trivial⟩
            rintro mk1 _ wl3 ⟨t11_2, t12_2, t13_1, F, rfl, H⟩
            have R0 := H.ext
            replace F := ref01_Walk_L1_s F
            obtain ⟨mk1, rfl, F⟩ := F
            generalize hrec1 : ref01_Walk_L1 a0 a2 mk1 = rec1 at F
            unfold ref01_Walk_B1 at F
            refine CW.seq fun K14 hK14 => ?_
            refine CW.seq fun K15 hK15 => ?_
            refine CW.region ?_
            refine LW.pure rfl rfl (RV.move rfl) ?_
            refine LW.pure rfl rfl (RV.move rfl) ?_
            refine LW.pure rfl rfl (RV.len Ts39 rfl) ?_
            refine LW.pure rfl rfl (RV.lss rfl rfl) ?_
            refine LW.nil (hK15 _ _ ?_)
            by_cases hp4 : t13_1 < ((a2.length : Int))
            ·
              replace F := ite_y hp4 F
              have hq4 := dec_t hp4
              refine CW.condT rfl hq4 ?_
              refine CW.skip (hK14 _ _ ?_)
              refine CW.seq fun K16 hK16 => ?_
              refine CW.block ?_
              refine CW.seq fun K17 hK17 => ?_
              obtain ⟨x1, hbx1, hx1, F⟩ := ix_some F
              obtain ⟨x2, hbx2, hx2, F⟩ := ix_some F
              obtain ⟨hg2, F⟩ := gd_some F
              obtain ⟨hg3, F⟩ := gd_some F
              obtain ⟨x3, hbx3, hx3, F⟩ := ix_some F
              refine CW.draw [16] (fun _ => True) (.cons 0 1 (.cons 1 1 (.cons 2 1 (.cons 3 1 (.cons 4 1 (.cons 5 1 (.cons 6 1 (.cons 7 1 (.cons 8 1 (.cons 9 1 (.cons 10 1 (.cons 11 1 (.cons 12 1 (.cons 13 1 (.cons 14 1 (.cons 15 0 (.cons 16 0 .nil))))))))))))))))) mixed (by kernel_rfl) fun w4 E3 => ?_
              replace H := H.grow E3
              replace R0 := H.ext
              refine DW.fix rfl rfl rfl (fun _ EQ => RV.fieldAddr Tf24_1 rfl) ?_
              refine DW.fix rfl rfl rfl (fun _ EQ => RV.load1 Tk22 rfl (((H.grow EQ).blk 0 rfl).cells.off 1) rfl) ?_
              refine DW.fix rfl rfl rfl (fun _ EQ => RV.move rfl) ?_
              refine DW.fix rfl rfl rfl (fun _ EQ => RV.move rfl) ?_
              refine DW.fix rfl rfl rfl (fun _ EQ => RV.indexAddr Ts39 rfl rfl hbx1 (h_a2.addr_ hx1)) ?_
              refine DW.fix rfl rfl rfl (fun _ EQ => RV.load1 Tk3 rfl ((h_a2.at_ hx1).ext (R0.trans EQ)) rfl) ?_
              refine DW.fix rfl rfl rfl (fun _ EQ => RV.move rfl) ?_
              refine DW.fix rfl rfl rfl (fun _ EQ => RV.move rfl) ?_
              refine DW.fix rfl rfl rfl (fun _ EQ => RV.indexAddr Ts39 rfl rfl hbx2 (h_a2.addr_ hx2)) ?_
              refine DW.fix rfl rfl rfl (fun _ EQ => RV.load1 Tk3 rfl ((h_a2.at_ hx2).ext (R0.trans EQ)) rfl) ?_
              refine DW.fix rfl rfl rfl (fun _ EQ => RV.neg rfl hg2) ?_
              refine DW.fix rfl rfl rfl (fun _ EQ => RV.max2 rfl rfl) ?_
              refine DW.fix rfl rfl rfl (fun _ EQ => RV.sub rfl rfl hg3) ?_
              refine DW.fix rfl rfl rfl (fun _ EQ => RV.indexAddr Ts22 rfl rfl hbx3 (h_a0_readings.addr_ hx3)) ?_
              refine DW.fix rfl rfl rfl (fun _ EQ => RV.loadA [.int .i64 x3.from_, .int .i64 x3.to_, .int .i64 x3.rise, .int .i64 x3.weight] Tk46 rfl ((h_a0_readings.at_ hx3).ext (R0.trans EQ)) rfl rfl) ?_
              refine DW.sole rfl rfl rfl (OW.alloc Tz46 fun b2 w5 N2 => ?_)
              refine ⟨fun _ => N2.ext, ModX.ext N2.ext, ?_⟩
              replace H := H.new N2 N2.blk
              replace R0 := H.ext
              refine DW.sole rfl rfl rfl (OW.store Tk46 rfl rfl (H.blk 0 rfl) (off := 0) (vs := [.int .i64 x3.from_, .int .i64 x3.to_, .int .i64 x3.rise, .int .i64 x3.weight]) rfl rfl rfl rfl rfl fun w6 S1 => ?_)
              refine ⟨fun h => absurd h (by decide), S1.modx trivial, ?_⟩
              replace H : Hp w w6 [.blk b2 46 [.int .i64 x3.from_, .int .i64 x3.to_, .int .i64 x3.rise, .int .i64 x3.weight], .blk b1 24 [.int .i64 a0.points, .slice A_a0_readings a0.readings.length c_a0_readings]] := H.stored 0 rfl S1
              replace R0 := H.ext
              refine DW.nil (hK17 _ _ ?_)
              refine CW.seqJ (fun ρ wl4 => (∃ (c1_0_1 : Int) (c1_1_1 : Int) (c1_2_1 : Int) (c1_3_1 : Int), ref01_Walk_k2 t11_2 t12_2 t13_1 rec1 c1_0_1 c1_1_1 c1_2_1 c1_3_1 = some res ∧ ρ = [(2, .slice A_a2 a2.length c_a2), (3, .pointer (some (⟨b1, 0, none⟩))), (6, .int .i64 0), (7, .int .i64 0), (8, .int .i64 0), (11, .int .i64 t11_2), (12, .int .i64 t12_2), (13, .int .i64 t13_1), (14, .pointer (some (⟨b2, 0, none⟩)))] ∧ Hp w wl4 [.blk b1 24 [.int .i64 a0.points, .slice A_a0_readings a0.readings.length c_a0_readings], .blk b2 46 [.int .i64 c1_0_1, .int .i64 c1_1_1, .int .i64 c1_2_1, .int .i64 c1_3_1]])) ?_ ?_
              ·
                rintro _ wl4 ⟨c1_0_1, c1_1_1, c1_2_1, c1_3_1, F, rfl, H⟩
                have R0 := H.ext
                unfold ref01_Walk_k2 at F
                refine CW.seq fun K18 hK18 => ?_
                refine CW.seq fun K19 hK19 => ?_
                refine CW.region ?_
                refine LW.pure rfl rfl (RV.fieldAddr Tf46_0 rfl) ?_
                refine LW.pure rfl rfl (RV.load1 Tk3 rfl ((H.blk 1 rfl).cells.off 0) rfl) ?_
                refine LW.pure rfl rfl (RV.move rfl) ?_
                refine LW.pure rfl rfl (RV.nei rfl rfl) ?_
                refine LW.nil (hK19 _ _ ?_)
                by_cases hp5 : c1_0_1 = t11_2
                ·
                  replace F := ite_y hp5 F
                  have hq5 := dec_t hp5
                  refine CW.condF rfl (not_f hq5) ?_
                  refine CW.skip (hK18 _ _ ?_)
                  obtain ⟨hg4, F⟩ := gd_some F
                  refine CW.draw [] (fun _ => True) (.cons 0 1 (.cons 1 1 (.cons 2 1 (.cons 3 1 (.cons 4 1 (.cons 5 1 (.cons 6 1 (.cons 7 1 .nil)))))))) mixed (by kernel_rfl) fun w7 E4 => ?_
                  replace H := H.grow E4
                  replace R0 := H.ext
                  refine DW.fix rfl rfl rfl (fun _ EQ => RV.fieldAddr Tf46_1 rfl) ?_
                  refine DW.fix rfl rfl rfl (fun _ EQ => RV.load1 Tk3 rfl (((H.grow EQ).blk 1 rfl).cells.off 1) rfl) ?_
                  refine DW.fix rfl rfl rfl (fun _ EQ => RV.move rfl) ?_
                  refine DW.fix rfl rfl rfl (fun _ EQ => RV.fieldAddr Tf46_2 rfl) ?_
                  refine DW.fix rfl rfl rfl (fun _ EQ => RV.load1 Tk3 rfl (((H.grow EQ).blk 1 rfl).cells.off 2) rfl) ?_
                  refine DW.fix rfl rfl rfl (fun _ EQ => RV.add rfl rfl hg4) ?_
                  refine DW.fix rfl rfl rfl (fun _ EQ => RV.assign rfl) ?_
                  refine DW.fix rfl rfl rfl (fun _ EQ => RV.assign rfl) ?_
                  refine DW.nil (hK16 _ _ ?_)
                  obtain ⟨hg5, F⟩ := gd_some F
                  refine CW.region ?_
                  refine LW.pure rfl rfl (RV.move rfl) ?_
                  refine LW.pure rfl rfl (RV.add rfl rfl hg5) ?_
                  refine LW.pure rfl rfl (RV.assign rfl) ?_
                  refine LW.nil ?_
                  replace H := H.pick (L' := [.blk b1 24 [.int .i64 a0.points, .slice A_a0_readings a0.readings.length c_a0_readings]]) [0] (by decide) rfl
                  replace R0 := H.ext
                  subst hrec1
                  refine ⟨mk1, Nat.lt_succ_self _, _, ?_, c1_1_1, (t12_2 + c1_2_1), (t13_1 + 1), F, rfl, H⟩
                  exact ⟨rfl, rfl, rfl, rfl, rfl, rfl, rfl, rfl, trivial⟩
                ·
                  replace F := ite_n hp5 F
                  have hq5 := dec_f hp5
                  refine CW.condT rfl (not_t hq5) ?_
                  refine CW.seq fun K20 hK20 => ?_
                  refine CW.region ?_
                  refine LW.pure rfl rfl (RV.assign rfl) ?_
                  refine LW.pure rfl rfl (RV.assign rfl) ?_
                  refine LW.pure rfl rfl (RV.assign rfl) ?_
                  refine LW.nil (hK20 _ _ ?_)
                  refine CW.ret ?_
                  obtain rfl := Option.some.inj F
                  refine ⟨_, (ResOK.three rfl rfl rfl), ?_⟩
                  refine ⟨(by first | rfl | simp), R0⟩
              ·
                intro K21 hK21 jK198
                refine CW.seq fun K22 hK22 => ?_
                obtain ⟨x4, hbx4, hx4, F⟩ := ix_some F
                refine CW.region ?_
                refine LW.pure rfl rfl (RV.move rfl) ?_
                refine LW.pure rfl rfl (RV.move rfl) ?_
                refine LW.pure rfl rfl (RV.indexAddr Ts39 rfl rfl hbx4 (h_a2.addr_ hx4)) ?_
                refine LW.pure rfl rfl (RV.load1 Tk3 rfl ((h_a2.at_ hx4).ext R0) rfl) ?_
                refine LW.pure rfl rfl (RV.lss rfl rfl) ?_
                refine LW.nil (hK22 _ _ ?_)
                by_cases hp6 : x4 < 0
                ·
                  replace F := ite_y hp6 F
                  have hq6 := dec_t hp6
                  refine CW.condT rfl hq6 ?_
                  obtain ⟨hg6, F⟩ := gd_some F
                  refine CW.region ?_
                  refine LW.pure rfl rfl (RV.fieldAddr Tf46_1 rfl) ?_
                  refine LW.pure rfl rfl (RV.load1 Tk3 rfl ((H.blk 0 rfl).cells.off 1) rfl) ?_
                  refine LW.pure rfl rfl (RV.fieldAddr Tf46_0 rfl) ?_
                  refine LW.pure rfl rfl (RV.load1 Tk3 rfl ((H.blk 0 rfl).cells.off 0) rfl) ?_
                  refine LW.pure rfl rfl (RV.fieldAddr Tf46_2 rfl) ?_
                  refine LW.pure rfl rfl (RV.load1 Tk3 rfl ((H.blk 0 rfl).cells.off 2) rfl) ?_
                  refine LW.pure rfl rfl (RV.neg rfl hg6) ?_
                  refine LW.pure rfl rfl (RV.build (vs := [.int .i64 x3.to_, .int .i64 x3.from_, .int .i64 (-x3.rise)]) (cs := [.int .i64 x3.to_, .int .i64 x3.from_, .int .i64 (-x3.rise), .int .i64 0]) rfl (fun _ => by kernel_rfl)) ?_
                  refine LW.go rfl rfl (OW.store Tk46 rfl rfl (H.blk 0 rfl) (off := 0) (vs := [.int .i64 x3.to_, .int .i64 x3.from_, .int .i64 (-x3.rise), .int .i64 0]) rfl rfl rfl rfl rfl fun w8 S2 => ?_)
                  replace H : Hp w w8 [.blk b2 46 [.int .i64 x3.to_, .int .i64 x3.from_, .int .i64 (-x3.rise), .int .i64 0], .blk b1 24 [.int .i64 a0.points, .slice A_a0_readings a0.readings.length c_a0_readings]] := H.stored 0 rfl S2
                  replace R0 := H.ext
                  replace H := H.pick (L' := [.blk b1 24 [.int .i64 a0.points, .slice A_a0_readings a0.readings.length c_a0_readings], .blk b2 46 [.int .i64 x3.to_, .int .i64 x3.from_, .int .i64 (-x3.rise), .int .i64 0]]) [1, 0] (by decide) rfl
                  replace R0 := H.ext
                  refine LW.nil (jK198 _ _ ⟨_, ?_, ⟨x3.to_, x3.from_, (-x3.rise), ((0 : Int)), F, rfl, H⟩⟩)
                  exact ⟨rfl, rfl, rfl, rfl, rfl, rfl, rfl, rfl, rfl, trivial⟩
                ·
                  replace F := ite_n hp6 F
                  have hq6 := dec_f hp6
                  refine CW.condF rfl hq6 ?_
                  replace H := H.pick (L' := [.blk b1 24 [.int .i64 a0.points, .slice A_a0_readings a0.readings.length c_a0_readings], .blk b2 46 [.int .i64 x3.from_, .int .i64 x3.to_, .int .i64 x3.rise, .int .i64 x3.weight]]) [1, 0] (by decide) rfl
                  replace R0 := H.ext
                  refine CW.skip (jK198 _ _ ⟨_, ?_, ⟨x3.from_, x3.to_, x3.rise, x3.weight, F, rfl, H⟩⟩)
                  exact ⟨rfl, rfl, rfl, rfl, rfl, rfl, rfl, rfl, rfl, trivial⟩
            ·
              replace F := ite_n hp4 F
              have hq4 := dec_f hp4
              refine CW.condF rfl hq4 ?_
              replace H := H.pick (L' := []) [] (by decide) rfl
              replace R0 := H.ext
              refine CW.exit (jK168 _ _ ⟨_, ?_, ⟨t11_2, t12_2, F, rfl, H⟩⟩)
              exact ⟨rfl, rfl, rfl, rfl, rfl, trivial⟩
        ·
          intro K23 hK23 jK200
          refine CW.seq fun K24 hK24 => ?_
          refine CW.region ?_
          refine LW.pure rfl rfl (RV.assign rfl) ?_
          refine LW.nil (hK24 _ _ ?_)
          refine CW.block ?_
          refine CW.loop (fun meas ρ wl5 => ∃ (t10_1 : Int), ref01_Walk_L2 a0 a1 a2 meas t10_1 = some res ∧ ρ = [(1, .int .i64 a1), (2, .slice A_a2 a2.length c_a2), (3, .pointer (some (⟨b1, 0, none⟩))), (6, .int .i64 0), (7, .int .i64 0), (8, .int .i64 0), (10, .int .i64 t10_1)] ∧ Hp w wl5 [.blk b1 24 [.int .i64 a0.points, .slice A_a0_readings a0.readings.length c_a0_readings]]) FU ⟨_, ?_, ((0 : Int)), F, rfl, H⟩ ?_
          · exact ⟨rfl, rfl, rfl, rfl, rfl, rfl, rfl, trivial⟩
          rintro mk2 _ wl5 ⟨t10_1, F, rfl, H⟩
          have R0 := H.ext
          replace F := ref01_Walk_L2_s F
          obtain ⟨mk2, rfl, F⟩ := F
          generalize hrec2 : ref01_Walk_L2 a0 a1 a2 mk2 = rec2 at F
          unfold ref01_Walk_B2 at F
          refine CW.seq fun K25 hK25 => ?_
          refine CW.seq fun K26 hK26 => ?_
          refine CW.region ?_
          refine LW.pure rfl rfl (RV.move rfl) ?_
          refine LW.pure rfl rfl (RV.move rfl) ?_
          refine LW.pure rfl rfl (RV.len Ts39 rfl) ?_
          refine LW.pure rfl rfl (RV.lss rfl rfl) ?_
          refine LW.nil (hK26 _ _ ?_)
          by_cases hp7 : t10_1 < ((a2.length : Int))
          ·
            replace F := ite_y hp7 F
            have hq7 := dec_t hp7
            refine CW.condT rfl hq7 ?_
            refine CW.skip (hK25 _ _ ?_)
            refine CW.seq fun K27 hK27 => ?_
            refine CW.block ?_
            refine CW.seqJ (fun ρ wl6 => (∃ (t54_1 : Bool), ref01_Walk_k4 t10_1 rec2 t54_1 = some res ∧ ρ = [(1, .int .i64 a1), (2, .slice A_a2 a2.length c_a2), (3, .pointer (some (⟨b1, 0, none⟩))), (6, .int .i64 0), (7, .int .i64 0), (8, .int .i64 0), (10, .int .i64 t10_1), (54, .bool t54_1)] ∧ Hp w wl6 [.blk b1 24 [.int .i64 a0.points, .slice A_a0_readings a0.readings.length c_a0_readings]])) ?_ ?_
            ·
              rintro _ wl6 ⟨t54_1, F, rfl, H⟩
              have R0 := H.ext
              unfold ref01_Walk_k4 at F
              by_cases hp8 : t54_1 = true
              ·
                replace F := ite_y hp8 F
                have hq8 : t54_1 = true := hp8
                refine CW.condT rfl hq8 ?_
                refine CW.seq fun K28 hK28 => ?_
                refine CW.region ?_
                refine LW.pure rfl rfl (RV.assign rfl) ?_
                refine LW.pure rfl rfl (RV.assign rfl) ?_
                refine LW.pure rfl rfl (RV.assign rfl) ?_
                refine LW.nil (hK28 _ _ ?_)
                refine CW.ret ?_
                obtain rfl := Option.some.inj F
                refine ⟨_, (ResOK.three rfl rfl rfl), ?_⟩
                refine ⟨(by first | rfl | simp), R0⟩
              ·
                replace F := ite_n hp8 F
                have hq8 : t54_1 = false := raw_f hp8
                refine CW.condF rfl hq8 ?_
                refine CW.skip (hK27 _ _ ?_)
                obtain ⟨hg7, F⟩ := gd_some F
                refine CW.region ?_
                refine LW.pure rfl rfl (RV.move rfl) ?_
                refine LW.pure rfl rfl (RV.add rfl rfl hg7) ?_
                refine LW.pure rfl rfl (RV.assign rfl) ?_
                refine LW.nil ?_
                subst hrec2
                refine ⟨mk2, Nat.lt_succ_self _, _, ?_, (t10_1 + 1), F, rfl, H⟩
                exact ⟨rfl, rfl, rfl, rfl, rfl, rfl, rfl, trivial⟩
            ·
              intro K29 hK29 jK216
              obtain ⟨x5, hbx5, hx5, F⟩ := ix_some F
              by_cases hp9 : x5 = 0
              ·
                replace F := ite_y hp9 F
                have hq9 := dec_t hp9
                refine CW.draw [] (fun _ => True) (.cons 0 1 (.cons 1 1 (.cons 2 1 (.cons 3 1 (.cons 4 1 (.cons 5 1 (.cons 6 1 (.cons 7 1 (.cons 8 1 (.cons 9 1 (.cons 10 1 (.cons 11 1 (.cons 12 1 (.cons 13 1 (.cons 14 1 (.cons 15 1 (.cons 16 1 (.cons 17 0 (.cons 18 1 (.cons 19 1 .nil)))))))))))))))))))) mixed (by kernel_rfl) fun w9 E5 => ?_
                replace H := H.grow E5
                replace R0 := H.ext
                refine DW.fix rfl rfl rfl (fun _ EQ => RV.move rfl) ?_
                refine DW.fix rfl rfl rfl (fun _ EQ => RV.move rfl) ?_
                refine DW.fix rfl rfl rfl (fun _ EQ => RV.indexAddr Ts39 rfl rfl hbx5 (h_a2.addr_ hx5)) ?_
                refine DW.fix rfl rfl rfl (fun _ EQ => RV.load1 Tk3 rfl ((h_a2.at_ hx5).ext (R0.trans EQ)) rfl) ?_
                refine DW.fix rfl rfl rfl (fun _ EQ => RV.eqi rfl rfl) ?_
                refine DW.fix rfl rfl rfl (fun _ EQ => RV.move rfl) ?_
                refine DW.fixNB rfl rfl rfl rfl rfl (ne_beq (v := true) hq9 rfl) ?_
                refine DW.fixNB rfl rfl rfl rfl rfl (ne_beq (v := true) hq9 rfl) ?_
                refine DW.fixNB rfl rfl rfl rfl rfl (ne_beq (v := true) hq9 rfl) ?_
                refine DW.fixNB rfl rfl rfl rfl rfl (ne_beq (v := true) hq9 rfl) ?_
                refine DW.fixNB rfl rfl rfl rfl rfl (ne_beq (v := true) hq9 rfl) ?_
                refine DW.fixNB rfl rfl rfl rfl rfl (ne_beq (v := true) hq9 rfl) ?_
                refine DW.fixNB rfl rfl rfl rfl rfl (ne_beq (v := true) hq9 rfl) ?_
                refine DW.fixNB rfl rfl rfl rfl rfl (ne_beq (v := true) hq9 rfl) ?_
                refine DW.fixNB rfl rfl rfl rfl rfl (ne_beq (v := true) hq9 rfl) ?_
                refine DW.fixNB rfl rfl rfl rfl rfl (ne_beq (v := true) hq9 rfl) ?_
                refine DW.fixNB rfl rfl rfl rfl rfl (ne_beq (v := true) hq9 rfl) ?_
                refine DW.soleNB rfl rfl rfl rfl rfl (ne_beq (v := true) hq9 rfl) ?_
                refine DW.fixNB rfl rfl rfl rfl rfl (ne_beq (v := true) hq9 rfl) ?_
                refine DW.fix rfl rfl rfl (fun _ EQ => RV.pickTB rfl hq9 rfl) ?_
                refine DW.nil (jK216 _ _ ⟨_, ?_, ⟨true, F, rfl, H⟩⟩)
                exact ⟨rfl, rfl, rfl, rfl, rfl, rfl, rfl, rfl, trivial⟩
              ·
                replace F := ite_n hp9 F
                have hq9 := dec_f hp9
                obtain ⟨x6, hbx6, hx6, F⟩ := ix_some F
                obtain ⟨hg8, F⟩ := gd_some F
                obtain ⟨r1, hr1, F⟩ := bnd_some F
                refine CW.draw [] (fun _ => True) (.cons 0 1 (.cons 1 1 (.cons 2 1 (.cons 3 1 (.cons 4 1 (.cons 5 1 (.cons 6 1 (.cons 7 1 (.cons 8 1 (.cons 9 1 (.cons 10 1 (.cons 11 1 (.cons 12 1 (.cons 13 1 (.cons 14 1 (.cons 15 1 (.cons 16 1 (.cons 17 0 (.cons 18 1 (.cons 19 1 .nil)))))))))))))))))))) mixed (by kernel_rfl) fun w10 E6 => ?_
                replace H := H.grow E6
                replace R0 := H.ext
                refine DW.fix rfl rfl rfl (fun _ EQ => RV.move rfl) ?_
                refine DW.fix rfl rfl rfl (fun _ EQ => RV.move rfl) ?_
                refine DW.fix rfl rfl rfl (fun _ EQ => RV.indexAddr Ts39 rfl rfl hbx5 (h_a2.addr_ hx5)) ?_
                refine DW.fix rfl rfl rfl (fun _ EQ => RV.load1 Tk3 rfl ((h_a2.at_ hx5).ext (R0.trans EQ)) rfl) ?_
                refine DW.fix rfl rfl rfl (fun _ EQ => RV.eqi rfl rfl) ?_
                refine DW.fix rfl rfl rfl (fun _ EQ => RV.move rfl) ?_
                refine DW.fixYB rfl rfl rfl rfl rfl hq9 (fun _ EQ => RV.move rfl) ?_
                refine DW.fixYB rfl rfl rfl rfl rfl hq9 (fun _ EQ => RV.move rfl) ?_
                refine DW.fixYB rfl rfl rfl rfl rfl hq9 (fun _ EQ => RV.indexAddr Ts39 rfl rfl hbx6 (h_a2.addr_ hx6)) ?_
                refine DW.fixYB rfl rfl rfl rfl rfl hq9 (fun _ EQ => RV.load1 Tk3 rfl ((h_a2.at_ hx6).ext (R0.trans EQ)) rfl) ?_
                refine DW.fixYB rfl rfl rfl rfl rfl hq9 (fun _ EQ => RV.fieldAddr Tf24_1 rfl) ?_
                refine DW.fixYB rfl rfl rfl rfl rfl hq9 (fun _ EQ => RV.load1 Tk22 rfl (((H.grow EQ).blk 0 rfl).cells.off 1) rfl) ?_
                refine DW.fixYB rfl rfl rfl rfl rfl hq9 (fun _ EQ => RV.len Ts22 rfl) ?_
                refine DW.fixYB rfl rfl rfl rfl rfl hq9 (fun _ EQ => RV.neg rfl hg8) ?_
                refine DW.fixYB rfl rfl rfl rfl rfl hq9 (fun _ EQ => RV.fieldAddr Tf24_1 rfl) ?_
                refine DW.fixYB rfl rfl rfl rfl rfl hq9 (fun _ EQ => RV.load1 Tk22 rfl (((H.grow EQ).blk 0 rfl).cells.off 1) rfl) ?_
                refine DW.fixYB rfl rfl rfl rfl rfl hq9 (fun _ EQ => RV.len Ts22 rfl) ?_
                refine DW.soleYB rfl rfl rfl rfl rfl hq9 (OW.call Tc69 rfl (ref01_within_ok (a0 := x6) (a1 := -((a0.readings.length : Int))) (a2 := (a0.readings.length : Int)) hr1) ?_)
                rintro _ w11 ⟨rfl, E7⟩
                refine ⟨_, rfl, fun _ => E7, ModX.ext E7, ?_⟩
                replace H := H.grow E7
                replace R0 := H.ext
                refine DW.fixYB rfl rfl rfl rfl rfl hq9 (fun _ EQ => RV.not rfl) ?_
                refine DW.fix rfl rfl rfl (fun _ EQ => RV.pickFB rfl hq9 rfl) ?_
                refine DW.nil (jK216 _ _ ⟨_, ?_, ⟨(!r1), F, rfl, H⟩⟩)
                exact ⟨rfl, rfl, rfl, rfl, rfl, rfl, rfl, rfl, trivial⟩
          ·
            replace F := ite_n hp7 F
            have hq7 := dec_f hp7
            refine CW.condF rfl hq7 ?_
            refine CW.exit (jK200 _ _ ⟨_, ?_, ⟨F, rfl, H⟩⟩)
            exact ⟨rfl, rfl, rfl, rfl, rfl, rfl, trivial⟩
    ·
      replace F := ite_n hp2 F
      have hq2 : r3 = false := raw_f hp2
      refine CW.condT rfl (not_t hq2) ?_
      refine CW.seq fun K30 hK30 => ?_
      refine CW.region ?_
      refine LW.pure rfl rfl (RV.assign rfl) ?_
      refine LW.pure rfl rfl (RV.assign rfl) ?_
      refine LW.pure rfl rfl (RV.assign rfl) ?_
      refine LW.nil (hK30 _ _ ?_)
      refine CW.ret ?_
      obtain rfl := Option.some.inj F
      refine ⟨_, (ResOK.three rfl rfl rfl), ?_⟩
      refine ⟨(by first | rfl | simp), R0⟩
  ·
    replace F := ite_n hp1 F
    have hq1 := dec_f hp1
    refine CW.condT rfl (not_t hq1) ?_
    refine CW.seq fun K31 hK31 => ?_
    refine CW.region ?_
    refine LW.pure rfl rfl (RV.move rfl) ?_
    refine LW.pure rfl rfl (RV.assign rfl) ?_
    refine LW.pure rfl rfl (RV.assign rfl) ?_
    refine LW.pure rfl rfl (RV.assign rfl) ?_
    refine LW.nil (hK31 _ _ ?_)
    refine CW.ret ?_
    obtain rfl := Option.some.inj F
    refine ⟨_, (ResOK.three rfl rfl rfl), ?_⟩
    refine ⟨(by first | rfl | simp), R0⟩
end Go.D1

set_option linter.unusedVariables false
namespace Go.D1
open Go.Tb
def goneR (s : Survey) (x : Int) : Reading :=
  let r := s.readings.getD (max x (-x) - 1).toNat ⟨0, 0, 0, 0⟩
  if x < 0 then ⟨r.to_, r.from_, -r.rise, r.weight⟩ else r
def walkL (s : Survey) : Int → Int → List Int → Option (Int × Int × Int)
  | at_, rise, [] => some (at_, rise, 0)
  | at_, rise, x :: l => if (goneR s x).from_ = at_ then gd (InR (rise + (goneR s x).rise)) (walkL s (goneR s x).to_ (rise + (goneR s x).rise) l) else some (0, 0, 9)
def stepB (s : Survey) (x : Int) : Bool := !decide (x = 0) && (decide (-(s.readings.length : Int) ≤ x) && decide (x ≤ (s.readings.length : Int)))
def level_Walk_k1 (a0 : Survey) (a1 : Int) (a2 : List Int) : Option (Int × Int × Int) :=
  gd (a2.length ≤ 1000000 ∧ a2.all (stepB a0) = true ∧ a0.readings.length ≤ 1000000 ∧ ∀ r ∈ a0.readings, InR (-r.rise)) (walkL a0 a1 0 a2)
def level_Walk_k2 (t30_1 : Int) (rec1 : Int → Option (Int × Int × Int)) (t47_1 : Bool) : Option (Int × Int × Int) :=
  if t47_1 = true then
    some ((0 : Int), (0 : Int), (4 : Int))
  else
    gd (InR (t30_1 + 1)) <|
    rec1 ((t30_1 + 1))
def level_Walk_B1 (a0 : Survey) (a1 : Int) (a2 : List Int) (rec1 : Int → Option (Int × Int × Int)) (t30_1 : Int) : Option (Int × Int × Int) :=
  if t30_1 < ((a2.length : Int)) then
    ix a2 t30_1 fun x1 =>
    if x1 = 0 then
      level_Walk_k2 t30_1 rec1 true
    else
      gd (InR (-((a0.readings.length : Int)))) <|
      bnd (level_within x1 (-((a0.readings.length : Int))) ((a0.readings.length : Int))) fun r1 =>
      level_Walk_k2 t30_1 rec1 ((!r1))
  else
    level_Walk_k1 a0 a1 a2
def level_Walk_L1 (a0 : Survey) (a1 : Int) (a2 : List Int) : Nat → Int → Option (Int × Int × Int)
  | 0, _ => none
  | n_ + 1, t30_1 => level_Walk_B1 a0 a1 a2 (level_Walk_L1 a0 a1 a2 n_) t30_1
theorem level_Walk_L1_s {a0 : Survey} {a1 : Int} {a2 : List Int} {m_ : Nat} {t30_1 : Int} {res : Int × Int × Int} (h : level_Walk_L1 a0 a1 a2 m_ t30_1 = some res) : ∃ k, m_ = k + 1 ∧ level_Walk_B1 a0 a1 a2 (level_Walk_L1 a0 a1 a2 k) t30_1 = some res := by
  cases m_ with
  | zero => cases h
  | succ k => exact ⟨k, rfl, h⟩
def level_Walk (a0 : Survey) (a1 : Int) (a2 : List Int) : Option (Int × Int × Int) :=
  bnd (level_Validate a0) fun r2 =>
  if r2 = 0 then
    gd (InR (a0.points - 1)) <|
    bnd (level_within a1 ((0 : Int)) (a0.points - 1)) fun r3 =>
    if r3 = true then
      if (20 : Int) < ((a2.length : Int)) then
        some ((0 : Int), (0 : Int), (3 : Int))
      else
        level_Walk_L1 a0 a1 a2 FU (((0 : Int)))
    else
      some ((0 : Int), (0 : Int), (4 : Int))
  else
    some ((0 : Int), (0 : Int), r2)
end Go.D1
