/- Lemmas and walks that the proof of this claim uses: D1m6, D1m7, D1m8, D1m10, D1m11, D1m12, D1m13, D1m16, D1m18, D1m19, D1m25. -/
import Derived.Test.YtgnlfgkmkkjkoaaLevelRaises3
set_option linter.unusedVariables false
set_option linter.unusedSimpArgs false
namespace Go.D1
open Go.Tb Go.Proofs Go.RowKit
theorem Tc19 : callable Try.prog 19 = true := by kernel_rfl
theorem Tc34 : callable Try.prog 34 = true := by kernel_rfl
theorem Tc69 : callable Try.prog 69 = true := by kernel_rfl
theorem Tc74 : callable Try.prog 74 = true := by kernel_rfl
theorem Te28g : Try.prog.eqGuardType Try.prog.depth 28 = false := by kernel_rfl
theorem Te28 (a0 : Int) (a1 : Int) (b0 : Int) (b1 : Int) (w : World) : (Op.equalIn 10000 28 (.agg #[.int .i64 a0, .int .i64 a1]) (.agg #[.int .i64 b0, .int .i64 b1])).run Try.prog w = .ok ((a0 == b0) && (a1 == b1)) w := by
  rw [run_equalIn_agg w 9999 28 _ _ (by kernel_rfl) (by kernel_rfl)]
  simp [Program.fieldsOf, Try.underlying28, Op.eqFields, go_sem]
  by_cases h0 : a0 = b0 <;> by_cases h1 : a1 = b1 <;> simp [h0, h1]
theorem Tz24 : tyZ Try.prog 24 = some (.agg #[.int .i64 0, .slice none 0 0]) := by kernel_rfl
set_option maxRecDepth 20000 in
set_option maxHeartbeats 1000000 in
theorem level_Best_ok {a0 : Survey} {A_a0_readings : Option Addr} {c_a0_readings : Nat} {w : World} {res : (List Rat) × Int} (h_a0_readings : Sl w A_a0_readings c_a0_readings 4 (a0.readings.map encReading)) (F : level_Best a0 = some res) : Calls Try.prog 34 #[.agg #[.int .i64 a0.points, .slice A_a0_readings a0.readings.length c_a0_readings]] w (fun e w' => ∃ (A0 : Option Addr) (c0 : Nat), e = .returned (.tuple #[.slice A0 res.1.length c0, .int .i64 res.2]) ∧ Hp w w' [.own A0 c0 28 2 (List.map encRat res.1)]) := by
  refine calls_of_cw (args := [.agg #[.int .i64 a0.points, .slice A_a0_readings a0.readings.length c_a0_readings]]) Try.func34 rfl rfl rfl rfl ?_
  have H := Hp.start w
  have R0 := H.ext
  unfold level_Best at F
  refine CW.seq fun K1 hK1 => ?_
  refine CW.region ?_
  refine LW.go rfl rfl (OW.box rfl fun b1 w1 N1 => ?_)
  replace H := H.new N1 N1.blk
  replace R0 := H.ext
  refine LW.pure rfl rfl (RV.assign rfl) ?_
  refine LW.pure rfl rfl (RV.assign rfl) ?_
  refine LW.nil (hK1 _ _ ?_)
  refine CW.seq fun K2 hK2 => ?_
  refine CW.seq fun K3 hK3 => ?_
  obtain ⟨r1, hr1, F⟩ := bnd_some F
  refine CW.region ?_
  refine LW.pure rfl rfl (RV.loadA [.int .i64 a0.points, .slice A_a0_readings a0.readings.length c_a0_readings] Tk24 rfl (H.blk 0 rfl).cells rfl rfl) ?_
  refine LW.go rfl rfl (OW.call Tc25 rfl (level_Validate_ok (a0 := a0) (h_a0_readings.ext R0) hr1) ?_)
  rintro _ w2 ⟨rfl, E1⟩
  refine ⟨_, rfl, ?_⟩
  replace H := H.grow E1
  replace R0 := H.ext
  refine LW.pure rfl rfl (RV.assign rfl) ?_
  refine LW.nil (hK3 _ _ ?_)
  refine CW.seq fun K4 hK4 => ?_
  refine CW.region ?_
  refine LW.pure rfl rfl (RV.move rfl) ?_
  refine LW.pure rfl rfl (RV.nei rfl rfl) ?_
  refine LW.nil (hK4 _ _ ?_)
  by_cases hp1 : r1 = 0
  ·
    replace F := ite_y hp1 F
    have hq1 := dec_t hp1
    refine CW.condF rfl (not_f hq1) ?_
    refine CW.skip (hK2 _ _ ?_)
    refine CW.seq fun K5 hK5 => ?_
    obtain ⟨r2, hr2, F⟩ := bnd_some F
    refine CW.region ?_
    refine LW.pure rfl rfl (RV.loadA [.int .i64 a0.points, .slice A_a0_readings a0.readings.length c_a0_readings] Tk24 rfl (H.blk 0 rfl).cells rfl rfl) ?_
    refine LW.go rfl rfl (OW.call Tc74 rfl (level_best_ok (a0 := a0) (h_a0_readings.ext R0) hr2) ?_)
    rintro _ w3 ⟨A6_0, c6_0, rfl, E2⟩
    refine ⟨_, rfl, ?_⟩
    replace H : Hp w w3 [.own A6_0 c6_0 28 2 (List.map encRat r2), .blk b1 24 [.int .i64 a0.points, .slice A_a0_readings a0.readings.length c_a0_readings]] := H.append E2
    replace R0 := H.ext
    refine LW.pure rfl rfl (RV.assign rfl) ?_
    refine LW.pure rfl rfl (RV.assign rfl) ?_
    refine LW.nil (hK5 _ _ ?_)
    refine CW.ret ?_
    obtain rfl := Option.some.inj F
    refine ⟨_, (ResOK.two rfl rfl), ?_⟩
    replace H := H.pick (L' := [.own A6_0 c6_0 28 2 (List.map encRat r2)]) [0] (by decide) rfl
    replace R0 := H.ext
    exact ⟨A6_0, c6_0, (by first | rfl | (simp; done) | (simp; omega)), H⟩
  ·
    replace F := ite_n hp1 F
    have hq1 := dec_f hp1
    refine CW.condT rfl (not_t hq1) ?_
    refine CW.seq fun K6 hK6 => ?_
    refine CW.region ?_
    refine LW.pure rfl rfl (RV.move rfl) ?_
    refine LW.pure rfl rfl (RV.assign rfl) ?_
    refine LW.pure rfl rfl (RV.assign rfl) ?_
    refine LW.nil (hK6 _ _ ?_)
    refine CW.ret ?_
    obtain rfl := Option.some.inj F
    refine ⟨_, (ResOK.two rfl rfl), ?_⟩
    replace H := H.nilOwn 28 2
    replace R0 := H.ext
    replace H := H.pick (L' := [.own none 0 28 2 (List.map encRat (([] : List Rat)))]) [0] (by decide) rfl
    replace R0 := H.ext
    exact ⟨none, 0, (by first | rfl | (simp; done) | (simp; omega)), H⟩
set_option maxRecDepth 20000 in
set_option maxHeartbeats 1000000 in
theorem law01_known_ok {w : World} {res : Bool} (F : law01_known = some res) : Calls Try.prog 18 #[] w (Rt w (.bool res)) := by
  refine calls_of_cw (args := []) Try.func18 rfl rfl rfl rfl ?_
  have H := Hp.start w
  have R0 := H.ext
  unfold law01_known at F
  refine CW.seq fun K1 hK1 => ?_
  refine CW.region ?_
  refine LW.pure rfl rfl (RV.assign rfl) ?_
  refine LW.nil (hK1 _ _ ?_)
  refine CW.seq fun K2 hK2 => ?_
  refine CW.region ?_
  refine LW.pure rfl rfl (RV.build (vs := [.int .i64 0, .int .i64 1, .int .i64 10, .int .i64 1]) (cs := [.int .i64 0, .int .i64 1, .int .i64 10, .int .i64 1]) rfl (fun _ => by kernel_rfl)) ?_
  refine LW.pure rfl rfl (RV.build (vs := [.int .i64 0, .int .i64 1, .int .i64 13, .int .i64 2]) (cs := [.int .i64 0, .int .i64 1, .int .i64 13, .int .i64 2]) rfl (fun _ => by kernel_rfl)) ?_
  refine LW.go rfl rfl (OW.buildSlice (e := 46) (vs := [.agg #[.int .i64 0, .int .i64 1, .int .i64 10, .int .i64 1], .agg #[.int .i64 0, .int .i64 1, .int .i64 13, .int .i64 2]]) (cs := [.int .i64 0, .int .i64 1, .int .i64 10, .int .i64 1, .int .i64 0, .int .i64 1, .int .i64 13, .int .i64 2]) rfl (fun _ => by kernel_rfl) fun b1 w1 N1 => ?_)
  replace H := H.made' (k := 4) (t := 46) (enc := encReading) (l := ([(⟨0, 1, 10, 1⟩ : Reading), (⟨0, 1, 13, 2⟩ : Reading)] : List Reading)) N1 N1.blk (fun _ => rfl) rfl (by first | decide | omega | (simp; done) | (simp; omega))
  replace R0 := H.ext
  refine LW.pure rfl rfl (RV.build (vs := [.int .i64 2, .slice (some ⟨b1, 0, none⟩) 2 ((([(⟨0, 1, 10, 1⟩ : Reading), (⟨0, 1, 13, 2⟩ : Reading)] : List Reading)).length)]) (cs := [.int .i64 2, .slice (some ⟨b1, 0, none⟩) 2 ((([(⟨0, 1, 10, 1⟩ : Reading), (⟨0, 1, 13, 2⟩ : Reading)] : List Reading)).length)]) rfl (fun _ => by kernel_rfl)) ?_
  refine LW.go rfl rfl (OW.alloc Tz24 fun b2 w2 N2 => ?_)
  replace H := H.new N2 N2.blk
  replace R0 := H.ext
  refine LW.go rfl rfl (OW.store Tk24 rfl rfl (H.blk 0 rfl) (off := 0) (vs := [.int .i64 2, .slice (some ⟨b1, 0, none⟩) 2 ((([(⟨0, 1, 10, 1⟩ : Reading), (⟨0, 1, 13, 2⟩ : Reading)] : List Reading)).length)]) rfl rfl rfl rfl rfl fun w3 S1 => ?_)
  replace H : Hp w w3 [.blk b2 24 [.int .i64 2, .slice (some ⟨b1, 0, none⟩) 2 ((([(⟨0, 1, 10, 1⟩ : Reading), (⟨0, 1, 13, 2⟩ : Reading)] : List Reading)).length)], .own (some ⟨b1, 0, none⟩) ((([(⟨0, 1, 10, 1⟩ : Reading), (⟨0, 1, 13, 2⟩ : Reading)] : List Reading)).length) 46 4 (List.map encReading (([(⟨0, 1, 10, 1⟩ : Reading), (⟨0, 1, 13, 2⟩ : Reading)] : List Reading)))] := H.stored 0 rfl S1
  replace R0 := H.ext
  refine LW.nil (hK2 _ _ ?_)
  refine CW.seq fun K3 hK3 => ?_
  obtain ⟨r1, hr1, F⟩ := bnd_some F
  refine CW.region ?_
  refine LW.pure rfl rfl (RV.loadA [.int .i64 2, .slice (some ⟨b1, 0, none⟩) 2 ((([(⟨0, 1, 10, 1⟩ : Reading), (⟨0, 1, 13, 2⟩ : Reading)] : List Reading)).length)] Tk24 rfl (H.blk 0 rfl).cells rfl rfl) ?_
  refine LW.go rfl rfl (OW.call Tc34 (evs_cast rfl (by first | rfl | (simp; done) | (simp; omega))) (level_Best_ok (a0 := (⟨2, ([(⟨0, 1, 10, 1⟩ : Reading), (⟨0, 1, 13, 2⟩ : Reading)] : List Reading)⟩ : Survey)) (H.own 1 rfl).sl hr1) ?_)
  rintro _ w4 ⟨A4_0, c4_0, rfl, E1⟩
  refine ⟨_, rfl, ?_⟩
  replace H : Hp w w4 [.own A4_0 c4_0 28 2 (List.map encRat r1.1), .blk b2 24 [.int .i64 2, .slice (some ⟨b1, 0, none⟩) 2 ((([(⟨0, 1, 10, 1⟩ : Reading), (⟨0, 1, 13, 2⟩ : Reading)] : List Reading)).length)], .own (some ⟨b1, 0, none⟩) ((([(⟨0, 1, 10, 1⟩ : Reading), (⟨0, 1, 13, 2⟩ : Reading)] : List Reading)).length) 46 4 (List.map encReading (([(⟨0, 1, 10, 1⟩ : Reading), (⟨0, 1, 13, 2⟩ : Reading)] : List Reading)))] := H.append E1
  replace R0 := H.ext
  refine LW.pure rfl rfl (RV.move rfl) ?_
  refine LW.pure rfl rfl (RV.extract rfl rfl) ?_
  refine LW.pure rfl rfl (RV.extract rfl rfl) ?_
  refine LW.pure rfl rfl (RV.assign rfl) ?_
  refine LW.pure rfl rfl (RV.assign rfl) ?_
  refine LW.nil (hK3 _ _ ?_)
  refine CW.seq fun K4 hK4 => ?_
  obtain ⟨r2, hr2, F⟩ := bnd_some F
  refine CW.region ?_
  refine LW.pure rfl rfl (RV.loadA [.int .i64 2, .slice (some ⟨b1, 0, none⟩) 2 ((([(⟨0, 1, 10, 1⟩ : Reading), (⟨0, 1, 13, 2⟩ : Reading)] : List Reading)).length)] Tk24 rfl (H.blk 1 rfl).cells rfl rfl) ?_
  refine LW.go rfl rfl (OW.call Tc19 (evs_cast rfl (by first | rfl | (simp; done) | (simp; omega))) (level_Error_ok (a0 := (⟨2, ([(⟨0, 1, 10, 1⟩ : Reading), (⟨0, 1, 13, 2⟩ : Reading)] : List Reading)⟩ : Survey)) (a1 := (0 : Int)) (a2 := (1 : Int)) (H.own 2 rfl).sl hr2) ?_)
  rintro _ w5 ⟨rfl, E2⟩
  refine ⟨_, rfl, ?_⟩
  replace H := H.grow E2
  replace R0 := H.ext
  refine LW.pure rfl rfl (RV.move rfl) ?_
  refine LW.pure rfl rfl (RV.extract rfl rfl) ?_
  refine LW.pure rfl rfl (RV.extract rfl rfl) ?_
  refine LW.go rfl rfl (OW.alloc Tz28 fun b3 w6 N3 => ?_)
  replace H := H.new N3 N3.blk
  replace R0 := H.ext
  refine LW.go rfl rfl (OW.store Tk28 rfl rfl (H.blk 0 rfl) (off := 0) (vs := [.int .i64 r2.1.num, .int .i64 r2.1.den]) rfl rfl rfl rfl rfl fun w7 S2 => ?_)
  replace H : Hp w w7 [.blk b3 28 [.int .i64 r2.1.num, .int .i64 r2.1.den], .own A4_0 c4_0 28 2 (List.map encRat r1.1), .blk b2 24 [.int .i64 2, .slice (some ⟨b1, 0, none⟩) 2 ((([(⟨0, 1, 10, 1⟩ : Reading), (⟨0, 1, 13, 2⟩ : Reading)] : List Reading)).length)], .own (some ⟨b1, 0, none⟩) ((([(⟨0, 1, 10, 1⟩ : Reading), (⟨0, 1, 13, 2⟩ : Reading)] : List Reading)).length) 46 4 (List.map encReading (([(⟨0, 1, 10, 1⟩ : Reading), (⟨0, 1, 13, 2⟩ : Reading)] : List Reading)))] := H.stored 0 rfl S2
  replace R0 := H.ext
  refine LW.pure rfl rfl (RV.assign rfl) ?_
  refine LW.nil (hK4 _ _ ?_)
  refine CW.seq fun K5 hK5 => ?_
  by_cases hp1 : r1.2 = 0
  ·
    replace F := ite_y hp1 F
    have hq1 := dec_t hp1
    by_cases hp2 : ((r1.1.length : Int)) = 2
    ·
      replace F := ite_y hp2 F
      have hq2 := dec_t hp2
      obtain ⟨x1, hbx1, hx1, F⟩ := ix_some F
      by_cases hp3 : ((x1.num == 12) && (x1.den == 1)) = true
      ·
        replace F := ite_y hp3 F
        have hq3 : ((x1.num == 12) && (x1.den == 1)) = true := hp3
        by_cases hp4 : r2.2 = 0
        ·
          replace F := ite_y hp4 F
          have hq4 := dec_t hp4
          refine CW.region ?_
          refine LW.pure rfl rfl (RV.move rfl) ?_
          refine LW.pure rfl rfl (RV.eqi rfl rfl) ?_
          refine LW.pure rfl rfl (RV.move rfl) ?_
          refine LW.pureYB rfl rfl rfl rfl hq1 (RV.move rfl) ?_
          refine LW.pureYB rfl rfl rfl rfl hq1 (RV.len Ts53 rfl) ?_
          refine LW.pureYB rfl rfl rfl rfl hq1 (RV.eqi rfl rfl) ?_
          refine LW.pure rfl rfl (RV.pickTB rfl hq1 rfl) ?_
          refine LW.pure rfl rfl (RV.move rfl) ?_
          refine LW.pureYB rfl rfl rfl rfl hq2 (RV.move rfl) ?_
          refine LW.pureYB rfl rfl rfl rfl hq2 (RV.indexAddr Ts53 rfl rfl hbx1 ((H.own 1 rfl).sl.addr_ hx1)) ?_
          refine LW.pureYB rfl rfl rfl rfl hq2 (RV.loadA [.int .i64 x1.num, .int .i64 x1.den] Tk28 rfl ((H.own 1 rfl).sl.at_ hx1) rfl rfl) ?_
          refine LW.pureYB rfl rfl rfl rfl hq2 (RV.build (vs := [.int .i64 12, .int .i64 1]) (cs := [.int .i64 12, .int .i64 1]) rfl (fun _ => by kernel_rfl)) ?_
          refine LW.pureYB rfl rfl rfl rfl hq2 (RV.eqA Te28g (Te28 _ _ _ _ ) rfl rfl) ?_
          refine LW.pure rfl rfl (RV.pickTB rfl hq2 rfl) ?_
          refine LW.pure rfl rfl (RV.move rfl) ?_
          refine LW.pureYB rfl rfl rfl rfl hq3 (RV.move rfl) ?_
          refine LW.pureYB rfl rfl rfl rfl hq3 (RV.eqi rfl rfl) ?_
          refine LW.pure rfl rfl (RV.pickTB rfl hq3 rfl) ?_
          refine LW.pure rfl rfl (RV.move rfl) ?_
          refine LW.pureYB rfl rfl rfl rfl hq4 (RV.loadA [.int .i64 r2.1.num, .int .i64 r2.1.den] Tk28 rfl (H.blk 0 rfl).cells rfl rfl) ?_
          refine LW.pureYB rfl rfl rfl rfl hq4 (RV.build (vs := [.int .i64 1, .int .i64 3]) (cs := [.int .i64 1, .int .i64 3]) rfl (fun _ => by kernel_rfl)) ?_
          refine LW.pureYB rfl rfl rfl rfl hq4 (RV.eqA Te28g (Te28 _ _ _ _ ) rfl rfl) ?_
          refine LW.pure rfl rfl (RV.pickTB rfl hq4 rfl) ?_
          refine LW.pure rfl rfl (RV.assign rfl) ?_
          refine LW.nil (hK5 _ _ ?_)
          refine CW.ret ?_
          obtain rfl := Option.some.inj F
          refine ⟨_, (ResOK.one rfl), ?_⟩
          refine ⟨(by first | rfl | simp), R0⟩
        ·
          replace F := ite_n hp4 F
          have hq4 := dec_f hp4
          refine CW.region ?_
          refine LW.pure rfl rfl (RV.move rfl) ?_
          refine LW.pure rfl rfl (RV.eqi rfl rfl) ?_
          refine LW.pure rfl rfl (RV.move rfl) ?_
          refine LW.pureYB rfl rfl rfl rfl hq1 (RV.move rfl) ?_
          refine LW.pureYB rfl rfl rfl rfl hq1 (RV.len Ts53 rfl) ?_
          refine LW.pureYB rfl rfl rfl rfl hq1 (RV.eqi rfl rfl) ?_
          refine LW.pure rfl rfl (RV.pickTB rfl hq1 rfl) ?_
          refine LW.pure rfl rfl (RV.move rfl) ?_
          refine LW.pureYB rfl rfl rfl rfl hq2 (RV.move rfl) ?_
          refine LW.pureYB rfl rfl rfl rfl hq2 (RV.indexAddr Ts53 rfl rfl hbx1 ((H.own 1 rfl).sl.addr_ hx1)) ?_
          refine LW.pureYB rfl rfl rfl rfl hq2 (RV.loadA [.int .i64 x1.num, .int .i64 x1.den] Tk28 rfl ((H.own 1 rfl).sl.at_ hx1) rfl rfl) ?_
          refine LW.pureYB rfl rfl rfl rfl hq2 (RV.build (vs := [.int .i64 12, .int .i64 1]) (cs := [.int .i64 12, .int .i64 1]) rfl (fun _ => by kernel_rfl)) ?_
          refine LW.pureYB rfl rfl rfl rfl hq2 (RV.eqA Te28g (Te28 _ _ _ _ ) rfl rfl) ?_
          refine LW.pure rfl rfl (RV.pickTB rfl hq2 rfl) ?_
          refine LW.pure rfl rfl (RV.move rfl) ?_
          refine LW.pureYB rfl rfl rfl rfl hq3 (RV.move rfl) ?_
          refine LW.pureYB rfl rfl rfl rfl hq3 (RV.eqi rfl rfl) ?_
          refine LW.pure rfl rfl (RV.pickTB rfl hq3 rfl) ?_
          refine LW.pure rfl rfl (RV.move rfl) ?_
          refine LW.noB rfl rfl rfl rfl (ne_beq (v := false) hq4 rfl) ?_
          refine LW.noB rfl rfl rfl rfl (ne_beq (v := false) hq4 rfl) ?_
          refine LW.noB rfl rfl rfl rfl (ne_beq (v := false) hq4 rfl) ?_
          refine LW.pure rfl rfl (RV.pickFB rfl hq4 rfl) ?_
          refine LW.pure rfl rfl (RV.assign rfl) ?_
          refine LW.nil (hK5 _ _ ?_)
          refine CW.ret ?_
          obtain rfl := Option.some.inj F
          refine ⟨_, (ResOK.one rfl), ?_⟩
          refine ⟨(by first | rfl | simp), R0⟩
      ·
        replace F := ite_n hp3 F
        have hq3 : ((x1.num == 12) && (x1.den == 1)) = false := raw_f hp3
        refine CW.region ?_
        refine LW.pure rfl rfl (RV.move rfl) ?_
        refine LW.pure rfl rfl (RV.eqi rfl rfl) ?_
        refine LW.pure rfl rfl (RV.move rfl) ?_
        refine LW.pureYB rfl rfl rfl rfl hq1 (RV.move rfl) ?_
        refine LW.pureYB rfl rfl rfl rfl hq1 (RV.len Ts53 rfl) ?_
        refine LW.pureYB rfl rfl rfl rfl hq1 (RV.eqi rfl rfl) ?_
        refine LW.pure rfl rfl (RV.pickTB rfl hq1 rfl) ?_
        refine LW.pure rfl rfl (RV.move rfl) ?_
        refine LW.pureYB rfl rfl rfl rfl hq2 (RV.move rfl) ?_
        refine LW.pureYB rfl rfl rfl rfl hq2 (RV.indexAddr Ts53 rfl rfl hbx1 ((H.own 1 rfl).sl.addr_ hx1)) ?_
        refine LW.pureYB rfl rfl rfl rfl hq2 (RV.loadA [.int .i64 x1.num, .int .i64 x1.den] Tk28 rfl ((H.own 1 rfl).sl.at_ hx1) rfl rfl) ?_
        refine LW.pureYB rfl rfl rfl rfl hq2 (RV.build (vs := [.int .i64 12, .int .i64 1]) (cs := [.int .i64 12, .int .i64 1]) rfl (fun _ => by kernel_rfl)) ?_
        refine LW.pureYB rfl rfl rfl rfl hq2 (RV.eqA Te28g (Te28 _ _ _ _ ) rfl rfl) ?_
        refine LW.pure rfl rfl (RV.pickTB rfl hq2 rfl) ?_
        refine LW.pure rfl rfl (RV.move rfl) ?_
        refine LW.noB rfl rfl rfl rfl (ne_beq (v := false) hq3 rfl) ?_
        refine LW.noB rfl rfl rfl rfl (ne_beq (v := false) hq3 rfl) ?_
        refine LW.pure rfl rfl (RV.pickFB rfl hq3 rfl) ?_
        refine LW.pure rfl rfl (RV.move rfl) ?_
        refine LW.noB rfl rfl rfl rfl (ne_beq (v := false) rfl rfl) ?_
        refine LW.noB rfl rfl rfl rfl (ne_beq (v := false) rfl rfl) ?_
        refine LW.noB rfl rfl rfl rfl (ne_beq (v := false) rfl rfl) ?_
        refine LW.pure rfl rfl (RV.pickFB rfl rfl rfl) ?_
        refine LW.pure rfl rfl (RV.assign rfl) ?_
        refine LW.nil (hK5 _ _ ?_)
        refine CW.ret ?_
        obtain rfl := Option.some.inj F
        refine ⟨_, (ResOK.one rfl), ?_⟩
        refine ⟨(by first | rfl | simp), R0⟩
    ·
      replace F := ite_n hp2 F
      have hq2 := dec_f hp2
      refine CW.region ?_
      refine LW.pure rfl rfl (RV.move rfl) ?_
      refine LW.pure rfl rfl (RV.eqi rfl rfl) ?_
      refine LW.pure rfl rfl (RV.move rfl) ?_
      refine LW.pureYB rfl rfl rfl rfl hq1 (RV.move rfl) ?_
      refine LW.pureYB rfl rfl rfl rfl hq1 (RV.len Ts53 rfl) ?_
      refine LW.pureYB rfl rfl rfl rfl hq1 (RV.eqi rfl rfl) ?_
      refine LW.pure rfl rfl (RV.pickTB rfl hq1 rfl) ?_
      refine LW.pure rfl rfl (RV.move rfl) ?_
      refine LW.noB rfl rfl rfl rfl (ne_beq (v := false) hq2 rfl) ?_
      refine LW.noB rfl rfl rfl rfl (ne_beq (v := false) hq2 rfl) ?_
      refine LW.noB rfl rfl rfl rfl (ne_beq (v := false) hq2 rfl) ?_
      refine LW.noB rfl rfl rfl rfl (ne_beq (v := false) hq2 rfl) ?_
      refine LW.noB rfl rfl rfl rfl (ne_beq (v := false) hq2 rfl) ?_
      refine LW.pure rfl rfl (RV.pickFB rfl hq2 rfl) ?_
      refine LW.pure rfl rfl (RV.move rfl) ?_
      refine LW.noB rfl rfl rfl rfl (ne_beq (v := false) rfl rfl) ?_
      refine LW.noB rfl rfl rfl rfl (ne_beq (v := false) rfl rfl) ?_
      refine LW.pure rfl rfl (RV.pickFB rfl rfl rfl) ?_
      refine LW.pure rfl rfl (RV.move rfl) ?_
      refine LW.noB rfl rfl rfl rfl (ne_beq (v := false) rfl rfl) ?_
      refine LW.noB rfl rfl rfl rfl (ne_beq (v := false) rfl rfl) ?_
      refine LW.noB rfl rfl rfl rfl (ne_beq (v := false) rfl rfl) ?_
      refine LW.pure rfl rfl (RV.pickFB rfl rfl rfl) ?_
      refine LW.pure rfl rfl (RV.assign rfl) ?_
      refine LW.nil (hK5 _ _ ?_)
      refine CW.ret ?_
      obtain rfl := Option.some.inj F
      refine ⟨_, (ResOK.one rfl), ?_⟩
      refine ⟨(by first | rfl | simp), R0⟩
  ·
    replace F := ite_n hp1 F
    have hq1 := dec_f hp1
    refine CW.region ?_
    refine LW.pure rfl rfl (RV.move rfl) ?_
    refine LW.pure rfl rfl (RV.eqi rfl rfl) ?_
    refine LW.pure rfl rfl (RV.move rfl) ?_
    refine LW.noB rfl rfl rfl rfl (ne_beq (v := false) hq1 rfl) ?_
    refine LW.noB rfl rfl rfl rfl (ne_beq (v := false) hq1 rfl) ?_
    refine LW.noB rfl rfl rfl rfl (ne_beq (v := false) hq1 rfl) ?_
    refine LW.pure rfl rfl (RV.pickFB rfl hq1 rfl) ?_
    refine LW.pure rfl rfl (RV.move rfl) ?_
    refine LW.noB rfl rfl rfl rfl (ne_beq (v := false) rfl rfl) ?_
    refine LW.noB rfl rfl rfl rfl (ne_beq (v := false) rfl rfl) ?_
    refine LW.noB rfl rfl rfl rfl (ne_beq (v := false) rfl rfl) ?_
    refine LW.noB rfl rfl rfl rfl (ne_beq (v := false) rfl rfl) ?_
    refine LW.noB rfl rfl rfl rfl (ne_beq (v := false) rfl rfl) ?_
    refine LW.pure rfl rfl (RV.pickFB rfl rfl rfl) ?_
    refine LW.pure rfl rfl (RV.move rfl) ?_
    refine LW.noB rfl rfl rfl rfl (ne_beq (v := false) rfl rfl) ?_
    refine LW.noB rfl rfl rfl rfl (ne_beq (v := false) rfl rfl) ?_
    refine LW.pure rfl rfl (RV.pickFB rfl rfl rfl) ?_
    refine LW.pure rfl rfl (RV.move rfl) ?_
    refine LW.noB rfl rfl rfl rfl (ne_beq (v := false) rfl rfl) ?_
    refine LW.noB rfl rfl rfl rfl (ne_beq (v := false) rfl rfl) ?_
    refine LW.noB rfl rfl rfl rfl (ne_beq (v := false) rfl rfl) ?_
    refine LW.pure rfl rfl (RV.pickFB rfl rfl rfl) ?_
    refine LW.pure rfl rfl (RV.assign rfl) ?_
    refine LW.nil (hK5 _ _ ?_)
    refine CW.ret ?_
    obtain rfl := Option.some.inj F
    refine ⟨_, (ResOK.one rfl), ?_⟩
    refine ⟨(by first | rfl | simp), R0⟩
set_option maxRecDepth 20000 in
set_option maxHeartbeats 1000000 in
theorem law01_Long_ok {a0 : Survey} {A_a0_readings : Option Addr} {c_a0_readings : Nat} {w : World} {res : Bool} (h_a0_readings : Sl w A_a0_readings c_a0_readings 4 (a0.readings.map encReading)) (F : law01_Long a0 = some res) : Calls Try.prog 17 #[.agg #[.int .i64 a0.points, .slice A_a0_readings a0.readings.length c_a0_readings]] w (Rt w (.bool res)) := by
  refine calls_of_cw (args := [.agg #[.int .i64 a0.points, .slice A_a0_readings a0.readings.length c_a0_readings]]) Try.func17 rfl rfl rfl rfl ?_
  have H := Hp.start w
  have R0 := H.ext
  unfold law01_Long at F
  refine CW.seq fun K1 hK1 => ?_
  refine CW.region ?_
  refine LW.go rfl rfl (OW.box rfl fun b1 w1 N1 => ?_)
  replace H := H.new N1 N1.blk
  replace R0 := H.ext
  refine LW.pure rfl rfl (RV.assign rfl) ?_
  refine LW.nil (hK1 _ _ ?_)
  refine CW.seq fun K2 hK2 => ?_
  refine CW.region ?_
  refine LW.pure rfl rfl (RV.fieldAddr Tf24_1 rfl) ?_
  refine LW.pure rfl rfl (RV.load1 Tk22 rfl ((H.blk 0 rfl).cells.off 1) rfl) ?_
  refine LW.pure rfl rfl (RV.len Ts22 rfl) ?_
  refine LW.pure rfl rfl (RV.gtr rfl rfl) ?_
  refine LW.pure rfl rfl (RV.assign rfl) ?_
  refine LW.nil (hK2 _ _ ?_)
  refine CW.ret ?_
  obtain rfl := Option.some.inj F
  refine ⟨_, (ResOK.one rfl), ?_⟩
  refine ⟨(by first | rfl | simp), R0⟩
set_option maxRecDepth 20000 in
set_option maxHeartbeats 1000000 in
theorem level_Parts_ok {a0 : Survey} {A_a0_readings : Option Addr} {c_a0_readings : Nat} {w : World} {res : (List (List Int)) × Int} (h_a0_readings : Sl w A_a0_readings c_a0_readings 4 (a0.readings.map encReading)) (F : level_Parts a0 = some res) : Calls Try.prog 21 #[.agg #[.int .i64 a0.points, .slice A_a0_readings a0.readings.length c_a0_readings]] w (fun e w' => ∃ (A0 : Option Addr) (c0 : Nat) (hs0 : List (Option Addr × Nat)), e = .returned (.tuple #[.slice A0 res.1.length c0, .int .i64 res.2]) ∧ Hp w w' [.tab A0 c0 39 hs0 3 1 (encM encN res.1)]) := by
  refine calls_of_cw (args := [.agg #[.int .i64 a0.points, .slice A_a0_readings a0.readings.length c_a0_readings]]) Try.func21 rfl rfl rfl rfl ?_
  have H := Hp.start w
  have R0 := H.ext
  unfold level_Parts at F
  refine CW.seq fun K1 hK1 => ?_
  refine CW.region ?_
  refine LW.go rfl rfl (OW.box rfl fun b1 w1 N1 => ?_)
  replace H := H.new N1 N1.blk
  replace R0 := H.ext
  refine LW.pure rfl rfl (RV.assign rfl) ?_
  refine LW.pure rfl rfl (RV.assign rfl) ?_
  refine LW.nil (hK1 _ _ ?_)
  refine CW.seq fun K2 hK2 => ?_
  refine CW.seq fun K3 hK3 => ?_
  obtain ⟨r1, hr1, F⟩ := bnd_some F
  refine CW.region ?_
  refine LW.pure rfl rfl (RV.loadA [.int .i64 a0.points, .slice A_a0_readings a0.readings.length c_a0_readings] Tk24 rfl (H.blk 0 rfl).cells rfl rfl) ?_
  refine LW.go rfl rfl (OW.call Tc25 rfl (level_Validate_ok (a0 := a0) (h_a0_readings.ext R0) hr1) ?_)
  rintro _ w2 ⟨rfl, E1⟩
  refine ⟨_, rfl, ?_⟩
  replace H := H.grow E1
  replace R0 := H.ext
  refine LW.pure rfl rfl (RV.assign rfl) ?_
  refine LW.nil (hK3 _ _ ?_)
  refine CW.seq fun K4 hK4 => ?_
  refine CW.region ?_
  refine LW.pure rfl rfl (RV.move rfl) ?_
  refine LW.pure rfl rfl (RV.nei rfl rfl) ?_
  refine LW.nil (hK4 _ _ ?_)
  by_cases hp1 : r1 = 0
  ·
    replace F := ite_y hp1 F
    have hq1 := dec_t hp1
    refine CW.condF rfl (not_f hq1) ?_
    refine CW.skip (hK2 _ _ ?_)
    refine CW.seq fun K5 hK5 => ?_
    obtain ⟨r2, hr2, F⟩ := bnd_some F
    refine CW.region ?_
    refine LW.pure rfl rfl (RV.loadA [.int .i64 a0.points, .slice A_a0_readings a0.readings.length c_a0_readings] Tk24 rfl (H.blk 0 rfl).cells rfl rfl) ?_
    refine LW.go rfl rfl (OW.call Tc66 rfl (level_parts_ok (a0 := a0) (h_a0_readings.ext R0) hr2) ?_)
    rintro _ w3 ⟨A6_0, c6_0, hs6_0, rfl, E2⟩
    refine ⟨_, rfl, ?_⟩
    replace H : Hp w w3 [.tab A6_0 c6_0 39 hs6_0 3 1 (encM encN r2), .blk b1 24 [.int .i64 a0.points, .slice A_a0_readings a0.readings.length c_a0_readings]] := H.append E2
    replace R0 := H.ext
    refine LW.pure rfl rfl (RV.assign rfl) ?_
    refine LW.pure rfl rfl (RV.assign rfl) ?_
    refine LW.nil (hK5 _ _ ?_)
    refine CW.ret ?_
    obtain rfl := Option.some.inj F
    refine ⟨_, (ResOK.two rfl rfl), ?_⟩
    replace H := H.pick (L' := [.tab A6_0 c6_0 39 hs6_0 3 1 (encM encN r2)]) [0] (by decide) rfl
    replace R0 := H.ext
    exact ⟨A6_0, c6_0, hs6_0, (by first | rfl | (simp; done) | (simp; omega)), H⟩
  ·
    replace F := ite_n hp1 F
    have hq1 := dec_f hp1
    refine CW.condT rfl (not_t hq1) ?_
    refine CW.seq fun K6 hK6 => ?_
    refine CW.region ?_
    refine LW.pure rfl rfl (RV.move rfl) ?_
    refine LW.pure rfl rfl (RV.assign rfl) ?_
    refine LW.pure rfl rfl (RV.assign rfl) ?_
    refine LW.nil (hK6 _ _ ?_)
    refine CW.ret ?_
    obtain rfl := Option.some.inj F
    refine ⟨_, (ResOK.two rfl rfl), ?_⟩
    replace H := H.nilTab encN 39 3 1
    replace R0 := H.ext
    replace H := H.pick (L' := [.tab none 0 39 ([]) 3 1 (encM encN (([] : List (List Int))))]) [0] (by decide) rfl
    replace R0 := H.ext
    exact ⟨none, 0, ([]), (by first | rfl | (simp; done) | (simp; omega)), H⟩
set_option maxRecDepth 20000 in
set_option maxHeartbeats 1000000 in
theorem ref01_within_ok {a0 : Int} {a1 : Int} {a2 : Int} {w : World} {res : Bool} (F : ref01_within a0 a1 a2 = some res) : Calls Try.prog 69 #[.int .i64 a0, .int .i64 a1, .int .i64 a2] w (Rt w (.bool res)) := by
  refine calls_of_cw (args := [.int .i64 a0, .int .i64 a1, .int .i64 a2]) Try.func69 rfl rfl rfl rfl ?_
  have H := Hp.start w
  have R0 := H.ext
  unfold ref01_within at F
  refine CW.seq fun K1 hK1 => ?_
  refine CW.region ?_
  refine LW.pure rfl rfl (RV.assign rfl) ?_
  refine LW.nil (hK1 _ _ ?_)
  refine CW.seq fun K2 hK2 => ?_
  by_cases hp1 : a1 ≤ a0
  ·
    replace F := ite_y hp1 F
    have hq1 := dec_t hp1
    refine CW.region ?_
    refine LW.pure rfl rfl (RV.move rfl) ?_
    refine LW.pure rfl rfl (RV.move rfl) ?_
    refine LW.pure rfl rfl (RV.geq rfl rfl) ?_
    refine LW.pure rfl rfl (RV.move rfl) ?_
    refine LW.pureYB rfl rfl rfl rfl hq1 (RV.move rfl) ?_
    refine LW.pureYB rfl rfl rfl rfl hq1 (RV.move rfl) ?_
    refine LW.pureYB rfl rfl rfl rfl hq1 (RV.leq rfl rfl) ?_
    refine LW.pure rfl rfl (RV.pickTB rfl hq1 rfl) ?_
    refine LW.pure rfl rfl (RV.assign rfl) ?_
    refine LW.nil (hK2 _ _ ?_)
    refine CW.ret ?_
    obtain rfl := Option.some.inj F
    refine ⟨_, (ResOK.one rfl), ?_⟩
    refine ⟨(by first | rfl | simp), R0⟩
  ·
    replace F := ite_n hp1 F
    have hq1 := dec_f hp1
    refine CW.region ?_
    refine LW.pure rfl rfl (RV.move rfl) ?_
    refine LW.pure rfl rfl (RV.move rfl) ?_
    refine LW.pure rfl rfl (RV.geq rfl rfl) ?_
    refine LW.pure rfl rfl (RV.move rfl) ?_
    refine LW.noB rfl rfl rfl rfl (ne_beq (v := false) hq1 rfl) ?_
    refine LW.noB rfl rfl rfl rfl (ne_beq (v := false) hq1 rfl) ?_
    refine LW.noB rfl rfl rfl rfl (ne_beq (v := false) hq1 rfl) ?_
    refine LW.pure rfl rfl (RV.pickFB rfl hq1 rfl) ?_
    refine LW.pure rfl rfl (RV.assign rfl) ?_
    refine LW.nil (hK2 _ _ ?_)
    refine CW.ret ?_
    obtain rfl := Option.some.inj F
    refine ⟨_, (ResOK.one rfl), ?_⟩
    refine ⟨(by first | rfl | simp), R0⟩
set_option maxRecDepth 20000 in
set_option maxHeartbeats 1000000 in
theorem ref01_Validate_ok {a0 : Survey} {A_a0_readings : Option Addr} {c_a0_readings : Nat} {w : World} {res : Int} (h_a0_readings : Sl w A_a0_readings c_a0_readings 4 (a0.readings.map encReading)) (F : ref01_Validate a0 = some res) : Calls Try.prog 26 #[.agg #[.int .i64 a0.points, .slice A_a0_readings a0.readings.length c_a0_readings]] w (Rt w (.int .i64 res)) := by
  refine calls_of_cw (args := [.agg #[.int .i64 a0.points, .slice A_a0_readings a0.readings.length c_a0_readings]]) Try.func26 rfl rfl rfl rfl ?_
  have H := Hp.start w
  have R0 := H.ext
  unfold ref01_Validate at F
  refine CW.seq fun K1 hK1 => ?_
  refine CW.region ?_
  refine LW.go rfl rfl (OW.box rfl fun b1 w1 N1 => ?_)
  replace H := H.new N1 N1.blk
  replace R0 := H.ext
  refine LW.pure rfl rfl (RV.assign rfl) ?_
  refine LW.nil (hK1 _ _ ?_)
  refine CW.seq fun K2 hK2 => ?_
  refine CW.seq fun K3 hK3 => ?_
  obtain ⟨r5, hr5, F⟩ := bnd_some F
  refine CW.region ?_
  refine LW.pure rfl rfl (RV.fieldAddr Tf24_0 rfl) ?_
  refine LW.pure rfl rfl (RV.load1 Tk3 rfl ((H.blk 0 rfl).cells.off 0) rfl) ?_
  refine LW.go rfl rfl (OW.call Tc69 rfl (ref01_within_ok (a0 := a0.points) (a1 := (1 : Int)) (a2 := (5 : Int)) hr5) ?_)
  rintro _ w2 ⟨rfl, E1⟩
  refine ⟨_, rfl, ?_⟩
  replace H := H.grow E1
  replace R0 := H.ext
  refine LW.pure rfl rfl (RV.not rfl) ?_
  refine LW.nil (hK3 _ _ ?_)
  by_cases hp1 : r5 = true
  ·
    replace F := ite_y hp1 F
    have hq1 : r5 = true := hp1
    refine CW.condF rfl (not_f hq1) ?_
    refine CW.skip (hK2 _ _ ?_)
    refine CW.seq fun K4 hK4 => ?_
    refine CW.seq fun K5 hK5 => ?_
    refine CW.region ?_
    refine LW.pure rfl rfl (RV.fieldAddr Tf24_1 rfl) ?_
    refine LW.pure rfl rfl (RV.load1 Tk22 rfl ((H.blk 0 rfl).cells.off 1) rfl) ?_
    refine LW.pure rfl rfl (RV.len Ts22 rfl) ?_
    refine LW.pure rfl rfl (RV.gtr rfl rfl) ?_
    refine LW.nil (hK5 _ _ ?_)
    by_cases hp2 : (8 : Int) < ((a0.readings.length : Int))
    ·
      replace F := ite_y hp2 F
      have hq2 := dec_t hp2
      refine CW.condT rfl hq2 ?_
      refine CW.seq fun K6 hK6 => ?_
      refine CW.region ?_
      refine LW.pure rfl rfl (RV.assign rfl) ?_
      refine LW.nil (hK6 _ _ ?_)
      refine CW.ret ?_
      obtain rfl := Option.some.inj F
      refine ⟨_, (ResOK.one rfl), ?_⟩
      refine ⟨(by first | rfl | simp), R0⟩
    ·
      replace F := ite_n hp2 F
      have hq2 := dec_f hp2
      refine CW.condF rfl hq2 ?_
      refine CW.skip (hK4 _ _ ?_)
      refine CW.seqJ (fun ρ wl1 => (ref01_Validate_k1 = some res ∧ ρ = [(2, .int .i64 0)] ∧ Hp w wl1 [])) ?_ ?_
      ·
        rintro _ wl1 ⟨F, rfl, H⟩
        have R0 := H.ext
        unfold ref01_Validate_k1 at F
        refine CW.seq fun K7 hK7 => ?_
        refine CW.region ?_
        refine LW.pure rfl rfl (RV.assign rfl) ?_
        refine LW.nil (hK7 _ _ ?_)
        refine CW.ret ?_
        obtain rfl := Option.some.inj F
        refine ⟨_, (ResOK.one rfl), ?_⟩
        refine ⟨(by first | rfl | simp), R0⟩
      ·
        intro K8 hK8 jK74
        refine CW.seq fun K9 hK9 => ?_
        refine CW.region ?_
        refine LW.pure rfl rfl (RV.assign rfl) ?_
        refine LW.nil (hK9 _ _ ?_)
        refine CW.block ?_
        refine CW.loop (fun meas ρ wl2 => ∃ (t3_1 : Int), ref01_Validate_L1 a0 meas t3_1 = some res ∧ ρ = [(1, .pointer (some (⟨b1, 0, none⟩))), (2, .int .i64 0), (3, .int .i64 t3_1)] ∧ Hp w wl2 [.blk b1 24 [.int .i64 a0.points, .slice A_a0_readings a0.readings.length c_a0_readings]]) FU ⟨_, ?_, ((0 : Int)), F, rfl, H⟩ ?_
        · exact ⟨rfl, rfl, rfl, trivial⟩
        rintro mk1 _ wl2 ⟨t3_1, F, rfl, H⟩
        have R0 := H.ext
        replace F := ref01_Validate_L1_s F
        obtain ⟨mk1, rfl, F⟩ := F
        generalize hrec1 : ref01_Validate_L1 a0 mk1 = rec1 at F
        unfold ref01_Validate_B1 at F
        refine CW.seq fun K10 hK10 => ?_
        refine CW.seq fun K11 hK11 => ?_
        refine CW.region ?_
        refine LW.pure rfl rfl (RV.move rfl) ?_
        refine LW.pure rfl rfl (RV.fieldAddr Tf24_1 rfl) ?_
        refine LW.pure rfl rfl (RV.load1 Tk22 rfl ((H.blk 0 rfl).cells.off 1) rfl) ?_
        refine LW.pure rfl rfl (RV.len Ts22 rfl) ?_
        refine LW.pure rfl rfl (RV.lss rfl rfl) ?_
        refine LW.nil (hK11 _ _ ?_)
        by_cases hp3 : t3_1 < ((a0.readings.length : Int))
        ·
          replace F := ite_y hp3 F
          have hq3 := dec_t hp3
          refine CW.condT rfl hq3 ?_
          refine CW.skip (hK10 _ _ ?_)
          refine CW.seq fun K12 hK12 => ?_
          refine CW.block ?_
          refine CW.seq fun K13 hK13 => ?_
          obtain ⟨x1, hbx1, hx1, F⟩ := ix_some F
          refine CW.region ?_
          refine LW.pure rfl rfl (RV.fieldAddr Tf24_1 rfl) ?_
          refine LW.pure rfl rfl (RV.load1 Tk22 rfl ((H.blk 0 rfl).cells.off 1) rfl) ?_
          refine LW.pure rfl rfl (RV.move rfl) ?_
          refine LW.pure rfl rfl (RV.indexAddr Ts22 rfl rfl hbx1 (h_a0_readings.addr_ hx1)) ?_
          refine LW.pure rfl rfl (RV.loadA [.int .i64 x1.from_, .int .i64 x1.to_, .int .i64 x1.rise, .int .i64 x1.weight] Tk46 rfl ((h_a0_readings.at_ hx1).ext R0) rfl rfl) ?_
          refine LW.go rfl rfl (OW.alloc Tz46 fun b2 w3 N2 => ?_)
          replace H := H.new N2 N2.blk
          replace R0 := H.ext
          refine LW.go rfl rfl (OW.store Tk46 rfl rfl (H.blk 0 rfl) (off := 0) (vs := [.int .i64 x1.from_, .int .i64 x1.to_, .int .i64 x1.rise, .int .i64 x1.weight]) rfl rfl rfl rfl rfl fun w4 S1 => ?_)
          replace H : Hp w w4 [.blk b2 46 [.int .i64 x1.from_, .int .i64 x1.to_, .int .i64 x1.rise, .int .i64 x1.weight], .blk b1 24 [.int .i64 a0.points, .slice A_a0_readings a0.readings.length c_a0_readings]] := H.stored 0 rfl S1
          replace R0 := H.ext
          refine LW.nil (hK13 _ _ ?_)
          refine CW.seqJ (fun ρ wl3 => (∃ (t59_1 : Bool), ref01_Validate_k2 t3_1 rec1 t59_1 = some res ∧ ρ = [(1, .pointer (some (⟨b1, 0, none⟩))), (2, .int .i64 0), (3, .int .i64 t3_1), (59, .bool t59_1)] ∧ Hp w wl3 [.blk b1 24 [.int .i64 a0.points, .slice A_a0_readings a0.readings.length c_a0_readings]])) ?_ ?_
          ·
            rintro _ wl3 ⟨t59_1, F, rfl, H⟩
            have R0 := H.ext
            unfold ref01_Validate_k2 at F
            by_cases hp4 : t59_1 = true
            ·
              replace F := ite_y hp4 F
              have hq4 : t59_1 = true := hp4
              refine CW.condT rfl hq4 ?_
              refine CW.seq fun K14 hK14 => ?_
              refine CW.region ?_
              refine LW.pure rfl rfl (RV.assign rfl) ?_
              refine LW.nil (hK14 _ _ ?_)
              refine CW.ret ?_
              obtain rfl := Option.some.inj F
              refine ⟨_, (ResOK.one rfl), ?_⟩
              refine ⟨(by first | rfl | simp), R0⟩
            ·
              replace F := ite_n hp4 F
              have hq4 : t59_1 = false := raw_f hp4
              refine CW.condF rfl hq4 ?_
              refine CW.skip (hK12 _ _ ?_)
              obtain ⟨hg1, F⟩ := gd_some F
              refine CW.region ?_
              refine LW.pure rfl rfl (RV.move rfl) ?_
              refine LW.pure rfl rfl (RV.add rfl rfl hg1) ?_
              refine LW.pure rfl rfl (RV.assign rfl) ?_
              refine LW.nil ?_
              subst hrec1
              refine ⟨mk1, Nat.lt_succ_self _, _, ?_, (t3_1 + 1), F, rfl, H⟩
              exact ⟨rfl, rfl, rfl, trivial⟩
          ·
            intro K15 hK15 jK93
            obtain ⟨hg2, F⟩ := gd_some F
            obtain ⟨r1, hr1, F⟩ := bnd_some F
            by_cases hp5 : r1 = true
            ·
              replace F := ite_y hp5 F
              have hq5 : r1 = true := hp5
              obtain ⟨hg3, F⟩ := gd_some F
              obtain ⟨r2, hr2, F⟩ := bnd_some F
              by_cases hp6 : r2 = true
              ·
                replace F := ite_y hp6 F
                have hq6 : r2 = true := hp6
                by_cases hp7 : x1.from_ = x1.to_
                ·
                  replace F := ite_y hp7 F
                  have hq7 := dec_t hp7
                  refine CW.region ?_
                  refine LW.pure rfl rfl (RV.fieldAddr Tf46_0 rfl) ?_
                  refine LW.pure rfl rfl (RV.load1 Tk3 rfl ((H.blk 0 rfl).cells.off 0) rfl) ?_
                  refine LW.pure rfl rfl (RV.fieldAddr Tf24_0 rfl) ?_
                  refine LW.pure rfl rfl (RV.load1 Tk3 rfl ((H.blk 1 rfl).cells.off 0) rfl) ?_
                  refine LW.pure rfl rfl (RV.sub rfl rfl hg2) ?_
                  refine LW.go rfl rfl (OW.call Tc69 rfl (ref01_within_ok (a0 := x1.from_) (a1 := (0 : Int)) (a2 := a0.points - 1) hr1) ?_)
                  rintro _ w5 ⟨rfl, E2⟩
                  refine ⟨_, rfl, ?_⟩
                  replace H := H.grow E2
                  replace R0 := H.ext
                  refine LW.pure rfl rfl (RV.not rfl) ?_
                  refine LW.pure rfl rfl (RV.move rfl) ?_
                  refine LW.pureYB rfl rfl rfl rfl (not_f hq5) (RV.fieldAddr Tf46_1 rfl) ?_
                  refine LW.pureYB rfl rfl rfl rfl (not_f hq5) (RV.load1 Tk3 rfl ((H.blk 0 rfl).cells.off 1) rfl) ?_
                  refine LW.pureYB rfl rfl rfl rfl (not_f hq5) (RV.fieldAddr Tf24_0 rfl) ?_
                  refine LW.pureYB rfl rfl rfl rfl (not_f hq5) (RV.load1 Tk3 rfl ((H.blk 1 rfl).cells.off 0) rfl) ?_
                  refine LW.pureYB rfl rfl rfl rfl (not_f hq5) (RV.sub rfl rfl hg3) ?_
                  refine LW.yesB rfl rfl rfl rfl (not_f hq5) (OW.call Tc69 rfl (ref01_within_ok (a0 := x1.to_) (a1 := (0 : Int)) (a2 := a0.points - 1) hr2) ?_)
                  rintro _ w6 ⟨rfl, E3⟩
                  refine ⟨_, rfl, ?_⟩
                  replace H := H.grow E3
                  replace R0 := H.ext
                  refine LW.pureYB rfl rfl rfl rfl (not_f hq5) (RV.not rfl) ?_
                  refine LW.pure rfl rfl (RV.pickFB rfl (not_f hq5) rfl) ?_
                  refine LW.pure rfl rfl (RV.move rfl) ?_
                  refine LW.pureYB rfl rfl rfl rfl (not_f hq6) (RV.fieldAddr Tf46_0 rfl) ?_
                  refine LW.pureYB rfl rfl rfl rfl (not_f hq6) (RV.load1 Tk3 rfl ((H.blk 0 rfl).cells.off 0) rfl) ?_
                  refine LW.pureYB rfl rfl rfl rfl (not_f hq6) (RV.fieldAddr Tf46_1 rfl) ?_
                  refine LW.pureYB rfl rfl rfl rfl (not_f hq6) (RV.load1 Tk3 rfl ((H.blk 0 rfl).cells.off 1) rfl) ?_
                  refine LW.pureYB rfl rfl rfl rfl (not_f hq6) (RV.eqi rfl rfl) ?_
                  refine LW.pure rfl rfl (RV.pickFB rfl (not_f hq6) rfl) ?_
                  refine LW.pure rfl rfl (RV.move rfl) ?_
                  refine LW.noB rfl rfl rfl rfl (ne_beq (v := true) hq7 rfl) ?_
                  refine LW.noB rfl rfl rfl rfl (ne_beq (v := true) hq7 rfl) ?_
                  refine LW.noB rfl rfl rfl rfl (ne_beq (v := true) hq7 rfl) ?_
                  refine LW.noB rfl rfl rfl rfl (ne_beq (v := true) hq7 rfl) ?_
                  refine LW.pure rfl rfl (RV.pickTB rfl hq7 rfl) ?_
                  refine LW.pure rfl rfl (RV.move rfl) ?_
                  refine LW.noB rfl rfl rfl rfl (ne_beq (v := true) rfl rfl) ?_
                  refine LW.noB rfl rfl rfl rfl (ne_beq (v := true) rfl rfl) ?_
                  refine LW.noB rfl rfl rfl rfl (ne_beq (v := true) rfl rfl) ?_
                  refine LW.noB rfl rfl rfl rfl (ne_beq (v := true) rfl rfl) ?_
                  refine LW.pure rfl rfl (RV.pickTB rfl rfl rfl) ?_
                  replace H := H.pick (L' := [.blk b1 24 [.int .i64 a0.points, .slice A_a0_readings a0.readings.length c_a0_readings]]) [1] (by decide) rfl
                  replace R0 := H.ext
                  refine LW.nil (jK93 _ _ ⟨_, ?_, ⟨true, F, rfl, H⟩⟩)
                  exact ⟨rfl, rfl, rfl, rfl, trivial⟩
                ·
                  replace F := ite_n hp7 F
                  have hq7 := dec_f hp7
                  obtain ⟨r3, hr3, F⟩ := bnd_some F
                  by_cases hp8 : r3 = true
                  ·
                    replace F := ite_y hp8 F
                    have hq8 : r3 = true := hp8
                    obtain ⟨r4, hr4, F⟩ := bnd_some F
                    refine CW.region ?_
                    refine LW.pure rfl rfl (RV.fieldAddr Tf46_0 rfl) ?_
                    refine LW.pure rfl rfl (RV.load1 Tk3 rfl ((H.blk 0 rfl).cells.off 0) rfl) ?_
                    refine LW.pure rfl rfl (RV.fieldAddr Tf24_0 rfl) ?_
                    refine LW.pure rfl rfl (RV.load1 Tk3 rfl ((H.blk 1 rfl).cells.off 0) rfl) ?_
                    refine LW.pure rfl rfl (RV.sub rfl rfl hg2) ?_
                    refine LW.go rfl rfl (OW.call Tc69 rfl (ref01_within_ok (a0 := x1.from_) (a1 := (0 : Int)) (a2 := a0.points - 1) hr1) ?_)
                    rintro _ w7 ⟨rfl, E4⟩
                    refine ⟨_, rfl, ?_⟩
                    replace H := H.grow E4
                    replace R0 := H.ext
                    refine LW.pure rfl rfl (RV.not rfl) ?_
                    refine LW.pure rfl rfl (RV.move rfl) ?_
                    refine LW.pureYB rfl rfl rfl rfl (not_f hq5) (RV.fieldAddr Tf46_1 rfl) ?_
                    refine LW.pureYB rfl rfl rfl rfl (not_f hq5) (RV.load1 Tk3 rfl ((H.blk 0 rfl).cells.off 1) rfl) ?_
                    refine LW.pureYB rfl rfl rfl rfl (not_f hq5) (RV.fieldAddr Tf24_0 rfl) ?_
                    refine LW.pureYB rfl rfl rfl rfl (not_f hq5) (RV.load1 Tk3 rfl ((H.blk 1 rfl).cells.off 0) rfl) ?_
                    refine LW.pureYB rfl rfl rfl rfl (not_f hq5) (RV.sub rfl rfl hg3) ?_
                    refine LW.yesB rfl rfl rfl rfl (not_f hq5) (OW.call Tc69 rfl (ref01_within_ok (a0 := x1.to_) (a1 := (0 : Int)) (a2 := a0.points - 1) hr2) ?_)
                    rintro _ w8 ⟨rfl, E5⟩
                    refine ⟨_, rfl, ?_⟩
                    replace H := H.grow E5
                    replace R0 := H.ext
                    refine LW.pureYB rfl rfl rfl rfl (not_f hq5) (RV.not rfl) ?_
                    refine LW.pure rfl rfl (RV.pickFB rfl (not_f hq5) rfl) ?_
                    refine LW.pure rfl rfl (RV.move rfl) ?_
                    refine LW.pureYB rfl rfl rfl rfl (not_f hq6) (RV.fieldAddr Tf46_0 rfl) ?_
                    refine LW.pureYB rfl rfl rfl rfl (not_f hq6) (RV.load1 Tk3 rfl ((H.blk 0 rfl).cells.off 0) rfl) ?_
                    refine LW.pureYB rfl rfl rfl rfl (not_f hq6) (RV.fieldAddr Tf46_1 rfl) ?_
                    refine LW.pureYB rfl rfl rfl rfl (not_f hq6) (RV.load1 Tk3 rfl ((H.blk 0 rfl).cells.off 1) rfl) ?_
                    refine LW.pureYB rfl rfl rfl rfl (not_f hq6) (RV.eqi rfl rfl) ?_
                    refine LW.pure rfl rfl (RV.pickFB rfl (not_f hq6) rfl) ?_
                    refine LW.pure rfl rfl (RV.move rfl) ?_
                    refine LW.pureYB rfl rfl rfl rfl hq7 (RV.fieldAddr Tf46_2 rfl) ?_
                    refine LW.pureYB rfl rfl rfl rfl hq7 (RV.load1 Tk3 rfl ((H.blk 0 rfl).cells.off 2) rfl) ?_
                    refine LW.yesB rfl rfl rfl rfl hq7 (OW.call Tc69 rfl (ref01_within_ok (a0 := x1.rise) (a1 := (-1000 : Int)) (a2 := (1000 : Int)) hr3) ?_)
                    rintro _ w9 ⟨rfl, E6⟩
                    refine ⟨_, rfl, ?_⟩
                    replace H := H.grow E6
                    replace R0 := H.ext
                    refine LW.pureYB rfl rfl rfl rfl hq7 (RV.not rfl) ?_
                    refine LW.pure rfl rfl (RV.pickFB rfl hq7 rfl) ?_
                    refine LW.pure rfl rfl (RV.move rfl) ?_
                    refine LW.pureYB rfl rfl rfl rfl (not_f hq8) (RV.fieldAddr Tf46_3 rfl) ?_
                    refine LW.pureYB rfl rfl rfl rfl (not_f hq8) (RV.load1 Tk3 rfl ((H.blk 0 rfl).cells.off 3) rfl) ?_
                    refine LW.yesB rfl rfl rfl rfl (not_f hq8) (OW.call Tc69 rfl (ref01_within_ok (a0 := x1.weight) (a1 := (1 : Int)) (a2 := (3 : Int)) hr4) ?_)
                    rintro _ w10 ⟨rfl, E7⟩
                    refine ⟨_, rfl, ?_⟩
                    replace H := H.grow E7
                    replace R0 := H.ext
                    refine LW.pureYB rfl rfl rfl rfl (not_f hq8) (RV.not rfl) ?_
                    refine LW.pure rfl rfl (RV.pickFB rfl (not_f hq8) rfl) ?_
                    replace H := H.pick (L' := [.blk b1 24 [.int .i64 a0.points, .slice A_a0_readings a0.readings.length c_a0_readings]]) [1] (by decide) rfl
                    replace R0 := H.ext
                    refine LW.nil (jK93 _ _ ⟨_, ?_, ⟨(!r4), F, rfl, H⟩⟩)
                    exact ⟨rfl, rfl, rfl, rfl, trivial⟩
                  ·
                    replace F := ite_n hp8 F
                    have hq8 : r3 = false := raw_f hp8
                    refine CW.region ?_
                    refine LW.pure rfl rfl (RV.fieldAddr Tf46_0 rfl) ?_
                    refine LW.pure rfl rfl (RV.load1 Tk3 rfl ((H.blk 0 rfl).cells.off 0) rfl) ?_
                    refine LW.pure rfl rfl (RV.fieldAddr Tf24_0 rfl) ?_
                    refine LW.pure rfl rfl (RV.load1 Tk3 rfl ((H.blk 1 rfl).cells.off 0) rfl) ?_
                    refine LW.pure rfl rfl (RV.sub rfl rfl hg2) ?_
                    refine LW.go rfl rfl (OW.call Tc69 rfl (ref01_within_ok (a0 := x1.from_) (a1 := (0 : Int)) (a2 := a0.points - 1) hr1) ?_)
                    rintro _ w11 ⟨rfl, E8⟩
                    refine ⟨_, rfl, ?_⟩
                    replace H := H.grow E8
                    replace R0 := H.ext
                    refine LW.pure rfl rfl (RV.not rfl) ?_
                    refine LW.pure rfl rfl (RV.move rfl) ?_
                    refine LW.pureYB rfl rfl rfl rfl (not_f hq5) (RV.fieldAddr Tf46_1 rfl) ?_
                    refine LW.pureYB rfl rfl rfl rfl (not_f hq5) (RV.load1 Tk3 rfl ((H.blk 0 rfl).cells.off 1) rfl) ?_
                    refine LW.pureYB rfl rfl rfl rfl (not_f hq5) (RV.fieldAddr Tf24_0 rfl) ?_
                    refine LW.pureYB rfl rfl rfl rfl (not_f hq5) (RV.load1 Tk3 rfl ((H.blk 1 rfl).cells.off 0) rfl) ?_
                    refine LW.pureYB rfl rfl rfl rfl (not_f hq5) (RV.sub rfl rfl hg3) ?_
                    refine LW.yesB rfl rfl rfl rfl (not_f hq5) (OW.call Tc69 rfl (ref01_within_ok (a0 := x1.to_) (a1 := (0 : Int)) (a2 := a0.points - 1) hr2) ?_)
                    rintro _ w12 ⟨rfl, E9⟩
                    refine ⟨_, rfl, ?_⟩
                    replace H := H.grow E9
                    replace R0 := H.ext
                    refine LW.pureYB rfl rfl rfl rfl (not_f hq5) (RV.not rfl) ?_
                    refine LW.pure rfl rfl (RV.pickFB rfl (not_f hq5) rfl) ?_
                    refine LW.pure rfl rfl (RV.move rfl) ?_
                    refine LW.pureYB rfl rfl rfl rfl (not_f hq6) (RV.fieldAddr Tf46_0 rfl) ?_
                    refine LW.pureYB rfl rfl rfl rfl (not_f hq6) (RV.load1 Tk3 rfl ((H.blk 0 rfl).cells.off 0) rfl) ?_
                    refine LW.pureYB rfl rfl rfl rfl (not_f hq6) (RV.fieldAddr Tf46_1 rfl) ?_
                    refine LW.pureYB rfl rfl rfl rfl (not_f hq6) (RV.load1 Tk3 rfl ((H.blk 0 rfl).cells.off 1) rfl) ?_
                    refine LW.pureYB rfl rfl rfl rfl (not_f hq6) (RV.eqi rfl rfl) ?_
                    refine LW.pure rfl rfl (RV.pickFB rfl (not_f hq6) rfl) ?_
                    refine LW.pure rfl rfl (RV.move rfl) ?_
                    refine LW.pureYB rfl rfl rfl rfl hq7 (RV.fieldAddr Tf46_2 rfl) ?_
                    refine LW.pureYB rfl rfl rfl rfl hq7 (RV.load1 Tk3 rfl ((H.blk 0 rfl).cells.off 2) rfl) ?_
                    refine LW.yesB rfl rfl rfl rfl hq7 (OW.call Tc69 rfl (ref01_within_ok (a0 := x1.rise) (a1 := (-1000 : Int)) (a2 := (1000 : Int)) hr3) ?_)
                    rintro _ w13 ⟨rfl, E10⟩
                    refine ⟨_, rfl, ?_⟩
                    replace H := H.grow E10
                    replace R0 := H.ext
                    refine LW.pureYB rfl rfl rfl rfl hq7 (RV.not rfl) ?_
                    refine LW.pure rfl rfl (RV.pickFB rfl hq7 rfl) ?_
                    refine LW.pure rfl rfl (RV.move rfl) ?_
                    refine LW.noB rfl rfl rfl rfl (ne_beq (v := true) (not_t hq8) rfl) ?_
                    refine LW.noB rfl rfl rfl rfl (ne_beq (v := true) (not_t hq8) rfl) ?_
                    refine LW.noB rfl rfl rfl rfl (ne_beq (v := true) (not_t hq8) rfl) ?_
                    refine LW.noB rfl rfl rfl rfl (ne_beq (v := true) (not_t hq8) rfl) ?_
                    refine LW.pure rfl rfl (RV.pickTB rfl (not_t hq8) rfl) ?_
                    replace H := H.pick (L' := [.blk b1 24 [.int .i64 a0.points, .slice A_a0_readings a0.readings.length c_a0_readings]]) [1] (by decide) rfl
                    replace R0 := H.ext
                    refine LW.nil (jK93 _ _ ⟨_, ?_, ⟨true, F, rfl, H⟩⟩)
                    exact ⟨rfl, rfl, rfl, rfl, trivial⟩
              ·
                replace F := ite_n hp6 F
                have hq6 : r2 = false := raw_f hp6
                refine CW.region ?_
                refine LW.pure rfl rfl (RV.fieldAddr Tf46_0 rfl) ?_
                refine LW.pure rfl rfl (RV.load1 Tk3 rfl ((H.blk 0 rfl).cells.off 0) rfl) ?_
                refine LW.pure rfl rfl (RV.fieldAddr Tf24_0 rfl) ?_
                refine LW.pure rfl rfl (RV.load1 Tk3 rfl ((H.blk 1 rfl).cells.off 0) rfl) ?_
                refine LW.pure rfl rfl (RV.sub rfl rfl hg2) ?_
                refine LW.go rfl rfl (OW.call Tc69 rfl (ref01_within_ok (a0 := x1.from_) (a1 := (0 : Int)) (a2 := a0.points - 1) hr1) ?_)
                rintro _ w14 ⟨rfl, E11⟩
                refine ⟨_, rfl, ?_⟩
                replace H := H.grow E11
                replace R0 := H.ext
                refine LW.pure rfl rfl (RV.not rfl) ?_
                refine LW.pure rfl rfl (RV.move rfl) ?_
                refine LW.pureYB rfl rfl rfl rfl (not_f hq5) (RV.fieldAddr Tf46_1 rfl) ?_
                refine LW.pureYB rfl rfl rfl rfl (not_f hq5) (RV.load1 Tk3 rfl ((H.blk 0 rfl).cells.off 1) rfl) ?_
                refine LW.pureYB rfl rfl rfl rfl (not_f hq5) (RV.fieldAddr Tf24_0 rfl) ?_
                refine LW.pureYB rfl rfl rfl rfl (not_f hq5) (RV.load1 Tk3 rfl ((H.blk 1 rfl).cells.off 0) rfl) ?_
                refine LW.pureYB rfl rfl rfl rfl (not_f hq5) (RV.sub rfl rfl hg3) ?_
                refine LW.yesB rfl rfl rfl rfl (not_f hq5) (OW.call Tc69 rfl (ref01_within_ok (a0 := x1.to_) (a1 := (0 : Int)) (a2 := a0.points - 1) hr2) ?_)
                rintro _ w15 ⟨rfl, E12⟩
                refine ⟨_, rfl, ?_⟩
                replace H := H.grow E12
                replace R0 := H.ext
                refine LW.pureYB rfl rfl rfl rfl (not_f hq5) (RV.not rfl) ?_
                refine LW.pure rfl rfl (RV.pickFB rfl (not_f hq5) rfl) ?_
                refine LW.pure rfl rfl (RV.move rfl) ?_
                refine LW.noB rfl rfl rfl rfl (ne_beq (v := true) (not_t hq6) rfl) ?_
                refine LW.noB rfl rfl rfl rfl (ne_beq (v := true) (not_t hq6) rfl) ?_
                refine LW.noB rfl rfl rfl rfl (ne_beq (v := true) (not_t hq6) rfl) ?_
                refine LW.noB rfl rfl rfl rfl (ne_beq (v := true) (not_t hq6) rfl) ?_
                refine LW.noB rfl rfl rfl rfl (ne_beq (v := true) (not_t hq6) rfl) ?_
                refine LW.pure rfl rfl (RV.pickTB rfl (not_t hq6) rfl) ?_
                refine LW.pure rfl rfl (RV.move rfl) ?_
                refine LW.noB rfl rfl rfl rfl (ne_beq (v := true) rfl rfl) ?_
                refine LW.noB rfl rfl rfl rfl (ne_beq (v := true) rfl rfl) ?_
                refine LW.noB rfl rfl rfl rfl (ne_beq (v := true) rfl rfl) ?_
                refine LW.noB rfl rfl rfl rfl (ne_beq (v := true) rfl rfl) ?_
                refine LW.pure rfl rfl (RV.pickTB rfl rfl rfl) ?_
                refine LW.pure rfl rfl (RV.move rfl) ?_
                refine LW.noB rfl rfl rfl rfl (ne_beq (v := true) rfl rfl) ?_
                refine LW.noB rfl rfl rfl rfl (ne_beq (v := true) rfl rfl) ?_
                refine LW.noB rfl rfl rfl rfl (ne_beq (v := true) rfl rfl) ?_
                refine LW.noB rfl rfl rfl rfl (ne_beq (v := true) rfl rfl) ?_
                refine LW.pure rfl rfl (RV.pickTB rfl rfl rfl) ?_
                replace H := H.pick (L' := [.blk b1 24 [.int .i64 a0.points, .slice A_a0_readings a0.readings.length c_a0_readings]]) [1] (by decide) rfl
                replace R0 := H.ext
                refine LW.nil (jK93 _ _ ⟨_, ?_, ⟨true, F, rfl, H⟩⟩)
                exact ⟨rfl, rfl, rfl, rfl, trivial⟩
            ·
              replace F := ite_n hp5 F
              have hq5 : r1 = false := raw_f hp5
              refine CW.region ?_
              refine LW.pure rfl rfl (RV.fieldAddr Tf46_0 rfl) ?_
              refine LW.pure rfl rfl (RV.load1 Tk3 rfl ((H.blk 0 rfl).cells.off 0) rfl) ?_
              refine LW.pure rfl rfl (RV.fieldAddr Tf24_0 rfl) ?_
              refine LW.pure rfl rfl (RV.load1 Tk3 rfl ((H.blk 1 rfl).cells.off 0) rfl) ?_
              refine LW.pure rfl rfl (RV.sub rfl rfl hg2) ?_
              refine LW.go rfl rfl (OW.call Tc69 rfl (ref01_within_ok (a0 := x1.from_) (a1 := (0 : Int)) (a2 := a0.points - 1) hr1) ?_)
              rintro _ w16 ⟨rfl, E13⟩
              refine ⟨_, rfl, ?_⟩
              replace H := H.grow E13
              replace R0 := H.ext
              refine LW.pure rfl rfl (RV.not rfl) ?_
              refine LW.pure rfl rfl (RV.move rfl) ?_
              refine LW.noB rfl rfl rfl rfl (ne_beq (v := true) (not_t hq5) rfl) ?_
              refine LW.noB rfl rfl rfl rfl (ne_beq (v := true) (not_t hq5) rfl) ?_
              refine LW.noB rfl rfl rfl rfl (ne_beq (v := true) (not_t hq5) rfl) ?_
              refine LW.noB rfl rfl rfl rfl (ne_beq (v := true) (not_t hq5) rfl) ?_
              refine LW.noB rfl rfl rfl rfl (ne_beq (v := true) (not_t hq5) rfl) ?_
              refine LW.noB rfl rfl rfl rfl (ne_beq (v := true) (not_t hq5) rfl) ?_
              refine LW.noB rfl rfl rfl rfl (ne_beq (v := true) (not_t hq5) rfl) ?_
              refine LW.pure rfl rfl (RV.pickTB rfl (not_t hq5) rfl) ?_
              refine LW.pure rfl rfl (RV.move rfl) ?_
              refine LW.noB rfl rfl rfl rfl (ne_beq (v := true) rfl rfl) ?_
              refine LW.noB rfl rfl rfl rfl (ne_beq (v := true) rfl rfl) ?_
              refine LW.noB rfl rfl rfl rfl (ne_beq (v := true) rfl rfl) ?_
              refine LW.noB rfl rfl rfl rfl (ne_beq (v := true) rfl rfl) ?_
              refine LW.noB rfl rfl rfl rfl (ne_beq (v := true) rfl rfl) ?_
              refine LW.pure rfl rfl (RV.pickTB rfl rfl rfl) ?_
              refine LW.pure rfl rfl (RV.move rfl) ?_
              refine LW.noB rfl rfl rfl rfl (ne_beq (v := true) rfl rfl) ?_
              refine LW.noB rfl rfl rfl rfl (ne_beq (v := true) rfl rfl) ?_
              refine LW.noB rfl rfl rfl rfl (ne_beq (v := true) rfl rfl) ?_
              refine LW.noB rfl rfl rfl rfl (ne_beq (v := true) rfl rfl) ?_
              refine LW.pure rfl rfl (RV.pickTB rfl rfl rfl) ?_
              refine LW.pure rfl rfl (RV.move rfl) ?_
              refine LW.noB rfl rfl rfl rfl (ne_beq (v := true) rfl rfl) ?_
              refine LW.noB rfl rfl rfl rfl (ne_beq (v := true) rfl rfl) ?_
              refine LW.noB rfl rfl rfl rfl (ne_beq (v := true) rfl rfl) ?_
              refine LW.noB rfl rfl rfl rfl (ne_beq (v := true) rfl rfl) ?_
              refine LW.pure rfl rfl (RV.pickTB rfl rfl rfl) ?_
              replace H := H.pick (L' := [.blk b1 24 [.int .i64 a0.points, .slice A_a0_readings a0.readings.length c_a0_readings]]) [1] (by decide) rfl
              replace R0 := H.ext
              refine LW.nil (jK93 _ _ ⟨_, ?_, ⟨true, F, rfl, H⟩⟩)
              exact ⟨rfl, rfl, rfl, rfl, trivial⟩
        ·
          replace F := ite_n hp3 F
          have hq3 := dec_f hp3
          refine CW.condF rfl hq3 ?_
          replace H := H.pick (L' := []) [] (by decide) rfl
          replace R0 := H.ext
          refine CW.exit (jK74 _ _ ⟨_, ?_, ⟨F, rfl, H⟩⟩)
          exact ⟨rfl, trivial⟩
  ·
    replace F := ite_n hp1 F
    have hq1 : r5 = false := raw_f hp1
    refine CW.condT rfl (not_t hq1) ?_
    refine CW.seq fun K16 hK16 => ?_
    refine CW.region ?_
    refine LW.pure rfl rfl (RV.assign rfl) ?_
    refine LW.nil (hK16 _ _ ?_)
    refine CW.ret ?_
    obtain rfl := Option.some.inj F
    refine ⟨_, (ResOK.one rfl), ?_⟩
    refine ⟨(by first | rfl | simp), R0⟩
end Go.D1

set_option linter.unusedVariables false
set_option linter.unusedSimpArgs false
namespace Go.D1
open Go.Tb Go.Proofs Go.RowKit
theorem Tc26 : callable Try.prog 26 = true := by kernel_rfl
end Go.D1

set_option linter.unusedVariables false
set_option linter.unusedSimpArgs false
namespace Go.D1
open Go.Tb Go.Proofs Go.RowKit
theorem Tc17 : callable Try.prog 17 = true := by kernel_rfl
theorem Tc18 : callable Try.prog 18 = true := by kernel_rfl
theorem Tc21 : callable Try.prog 21 = true := by kernel_rfl
end Go.D1

set_option linter.unusedVariables false
set_option linter.unusedSimpArgs false
namespace Go.D1
open Go.Tb Go.Proofs Go.RowKit
theorem Tb4 : Try.prog.underlying 4 = some .bool := by kernel_rfl
theorem Tc33 : callable Try.prog 33 = true := by kernel_rfl
set_option maxRecDepth 20000 in
set_option maxHeartbeats 1000000 in
theorem ref01_Ratio_ok {a0 : Int} {a1 : Int} {w : World} {res : Rat} (F : ref01_Ratio a0 a1 = some res) : Calls Try.prog 33 #[.int .i64 a0, .int .i64 a1] w (Rt w (.agg #[.int .i64 res.num, .int .i64 res.den])) := by
  refine calls_of_cw (args := [.int .i64 a0, .int .i64 a1]) Try.func33 rfl rfl rfl rfl ?_
  have H := Hp.start w
  have R0 := H.ext
  unfold ref01_Ratio at F
  refine CW.seq fun K1 hK1 => ?_
  refine CW.region ?_
  refine LW.go rfl rfl (OW.alloc Tz28 fun b1 w1 N1 => ?_)
  replace H := H.new N1 N1.blk
  replace R0 := H.ext
  refine LW.nil (hK1 _ _ ?_)
  refine CW.seq fun K2 hK2 => ?_
  refine CW.region ?_
  refine LW.pure rfl rfl (RV.move rfl) ?_
  refine LW.pure rfl rfl (RV.move rfl) ?_
  refine LW.pure rfl rfl (RV.assign rfl) ?_
  refine LW.pure rfl rfl (RV.assign rfl) ?_
  refine LW.nil (hK2 _ _ ?_)
  refine CW.seqJ (fun ρ wl1 => (∃ (t5_2 : Int), ref01_Ratio_k2 a0 a1 t5_2 = some res ∧ ρ = [(0, .int .i64 a0), (1, .int .i64 a1), (4, .pointer (some (⟨b1, 0, none⟩))), (5, .int .i64 t5_2)] ∧ Hp w wl1 [.blk b1 28 [.int .i64 0, .int .i64 0]])) ?_ ?_
  ·
    rintro _ wl1 ⟨t5_2, F, rfl, H⟩
    have R0 := H.ext
    unfold ref01_Ratio_k2 at F
    refine CW.seqJ (fun ρ wl2 => (∃ (t5_1 : Int), ref01_Ratio_k1 a0 a1 t5_1 = some res ∧ ρ = [(0, .int .i64 a0), (1, .int .i64 a1), (4, .pointer (some (⟨b1, 0, none⟩))), (5, .int .i64 t5_1)] ∧ Hp w wl2 [.blk b1 28 [.int .i64 0, .int .i64 0]])) ?_ ?_
    ·
      rintro _ wl2 ⟨t5_1, F, rfl, H⟩
      have R0 := H.ext
      unfold ref01_Ratio_k1 at F
      refine CW.seq fun K3 hK3 => ?_
      obtain ⟨hg1, F⟩ := gd_some F
      obtain ⟨hg2, F⟩ := gd_some F
      refine CW.draw [7] (fun _ => True) (.cons 0 1 (.cons 1 1 (.cons 2 1 (.cons 3 1 (.cons 4 1 (.cons 5 1 (.cons 6 1 (.cons 7 0 .nil)))))))) mixed (by kernel_rfl) fun w2 E1 => ?_
      replace H := H.grow E1
      replace R0 := H.ext
      refine DW.fix rfl rfl rfl (fun _ EQ => RV.move rfl) ?_
      refine DW.fix rfl rfl rfl (fun _ EQ => RV.move rfl) ?_
      refine DW.fix rfl rfl rfl (fun _ EQ => RV.quo rfl rfl hg1) ?_
      refine DW.fix rfl rfl rfl (fun _ EQ => RV.move rfl) ?_
      refine DW.fix rfl rfl rfl (fun _ EQ => RV.move rfl) ?_
      refine DW.fix rfl rfl rfl (fun _ EQ => RV.quo rfl rfl hg2) ?_
      refine DW.fix rfl rfl rfl (fun _ EQ => RV.build (vs := [.int .i64 (Int.tdiv a0 t5_1), .int .i64 (Int.tdiv a1 t5_1)]) (cs := [.int .i64 (Int.tdiv a0 t5_1), .int .i64 (Int.tdiv a1 t5_1)]) rfl (fun _ => by kernel_rfl)) ?_
      refine DW.sole rfl rfl rfl (OW.store Tk28 rfl rfl (H.blk 0 rfl) (off := 0) (vs := [.int .i64 (Int.tdiv a0 t5_1), .int .i64 (Int.tdiv a1 t5_1)]) rfl rfl rfl rfl rfl fun w3 S1 => ?_)
      refine ⟨fun h => absurd h (by decide), S1.modx trivial, ?_⟩
      replace H : Hp w w3 [.blk b1 28 [.int .i64 (Int.tdiv a0 t5_1), .int .i64 (Int.tdiv a1 t5_1)]] := H.stored 0 rfl S1
      replace R0 := H.ext
      refine DW.nil (hK3 _ _ ?_)
      refine CW.ret ?_
      obtain rfl := Option.some.inj F
      refine ⟨_, (ResOK.cell1 ⟨_, rfl, run_loadVar_agg Tk28 (H.blk 0 rfl).cells (us := [.int .i64 (Int.tdiv a0 t5_1), .int .i64 (Int.tdiv a1 t5_1)]) rfl rfl⟩), ?_⟩
      refine ⟨(by first | rfl | simp), R0⟩
    ·
      intro K4 hK4 jK30
      refine CW.seq fun K5 hK5 => ?_
      refine CW.region ?_
      refine LW.pure rfl rfl (RV.move rfl) ?_
      refine LW.pure rfl rfl (RV.lss rfl rfl) ?_
      refine LW.pure rfl rfl (RV.move rfl) ?_
      refine LW.pure rfl rfl (RV.lss rfl rfl) ?_
      refine LW.pure rfl rfl (RV.neb Tb4 rfl rfl) ?_
      refine LW.nil (hK5 _ _ ?_)
      by_cases hp1 : ((decide (t5_2 < 0)) == (decide (a1 < 0))) = true
      ·
        replace F := ite_y hp1 F
        have hq1 : ((decide (t5_2 < 0)) == (decide (a1 < 0))) = true := hp1
        refine CW.condF rfl (not_f hq1) ?_
        refine CW.skip (jK30 _ _ ⟨_, ?_, ⟨t5_2, F, rfl, H⟩⟩)
        exact ⟨rfl, rfl, rfl, rfl, trivial⟩
      ·
        replace F := ite_n hp1 F
        have hq1 : ((decide (t5_2 < 0)) == (decide (a1 < 0))) = false := raw_f hp1
        refine CW.condT rfl (not_t hq1) ?_
        obtain ⟨hg3, F⟩ := gd_some F
        refine CW.region ?_
        refine LW.pure rfl rfl (RV.move rfl) ?_
        refine LW.pure rfl rfl (RV.neg rfl hg3) ?_
        refine LW.pure rfl rfl (RV.assign rfl) ?_
        refine LW.nil (jK30 _ _ ⟨_, ?_, ⟨(-t5_2), F, rfl, H⟩⟩)
        exact ⟨rfl, rfl, rfl, rfl, trivial⟩
  ·
    intro K6 hK6 jK32
    refine CW.block ?_
    refine CW.loop (fun meas ρ wl3 => ∃ (t5_3 : Int) (t6_1 : Int), ref01_Ratio_L1 a0 a1 meas t5_3 t6_1 = some res ∧ ρ = [(0, .int .i64 a0), (1, .int .i64 a1), (4, .pointer (some (⟨b1, 0, none⟩))), (5, .int .i64 t5_3), (6, .int .i64 t6_1)] ∧ Hp w wl3 [.blk b1 28 [.int .i64 0, .int .i64 0]]) FU ⟨_, ?_, a0, a1, F, rfl, H⟩ ?_
    · exact ⟨rfl, rfl, rfl, rfl, rfl, trivial⟩
    rintro mk1 _ wl3 ⟨t5_3, t6_1, F, rfl, H⟩
    have R0 := H.ext
    replace F := ref01_Ratio_L1_s F
    obtain ⟨mk1, rfl, F⟩ := F
    generalize hrec1 : ref01_Ratio_L1 a0 a1 mk1 = rec1 at F
    unfold ref01_Ratio_B1 at F
    refine CW.seq fun K7 hK7 => ?_
    refine CW.seq fun K8 hK8 => ?_
    refine CW.region ?_
    refine LW.pure rfl rfl (RV.move rfl) ?_
    refine LW.pure rfl rfl (RV.nei rfl rfl) ?_
    refine LW.nil (hK8 _ _ ?_)
    by_cases hp2 : t6_1 = 0
    ·
      replace F := ite_y hp2 F
      have hq2 := dec_t hp2
      refine CW.condF rfl (not_f hq2) ?_
      refine CW.exit (jK32 _ _ ⟨_, ?_, ⟨t5_3, F, rfl, H⟩⟩)
      exact ⟨rfl, rfl, rfl, rfl, trivial⟩
    ·
      replace F := ite_n hp2 F
      have hq2 := dec_f hp2
      refine CW.condT rfl (not_t hq2) ?_
      refine CW.skip (hK7 _ _ ?_)
      refine CW.block ?_
      obtain ⟨hg4, F⟩ := gd_some F
      refine CW.draw [] (fun _ => True) (.cons 0 1 (.cons 1 1 (.cons 2 1 (.cons 3 1 (.cons 4 1 (.cons 5 1 .nil)))))) mixed (by kernel_rfl) fun w4 E2 => ?_
      replace H := H.grow E2
      replace R0 := H.ext
      refine DW.fix rfl rfl rfl (fun _ EQ => RV.move rfl) ?_
      refine DW.fix rfl rfl rfl (fun _ EQ => RV.move rfl) ?_
      refine DW.fix rfl rfl rfl (fun _ EQ => RV.move rfl) ?_
      refine DW.fix rfl rfl rfl (fun _ EQ => RV.rem rfl rfl hg4) ?_
      refine DW.fix rfl rfl rfl (fun _ EQ => RV.assign rfl) ?_
      refine DW.fix rfl rfl rfl (fun _ EQ => RV.assign rfl) ?_
      refine DW.nil ?_
      subst hrec1
      refine ⟨mk1, Nat.lt_succ_self _, _, ?_, t6_1, (Int.tmod t5_3 t6_1), F, rfl, H⟩
      exact ⟨rfl, rfl, rfl, rfl, rfl, trivial⟩
end Go.D1

set_option linter.unusedVariables false
set_option linter.unusedSimpArgs false
namespace Go.D1
open Go.Tb Go.Proofs Go.RowKit
theorem Tf34_0 : tyF Try.prog 34 0 = some 0 := by kernel_rfl
theorem Tf34_1 : tyF Try.prog 34 1 = some 1 := by kernel_rfl
end Go.D1

set_option linter.unusedVariables false
set_option linter.unusedSimpArgs false
namespace Go.D1
open Go.Tb Go.Proofs Go.RowKit
theorem Tc70 : callable Try.prog 70 = true := by kernel_rfl
set_option maxRecDepth 20000 in
set_option maxHeartbeats 1000000 in
theorem slices_Clone_Reading_ok {a0 : List Reading} {A_a0 : Option Addr} {c_a0 : Nat} {w : World} {res : List Reading} (h_a0 : Sl w A_a0 c_a0 4 (a0.map encReading)) (F : slices_Clone_Reading a0 = some res) : Calls Try.prog 70 #[.slice A_a0 a0.length c_a0] w (fun e w' => ∃ (A0 : Option Addr) (c0 : Nat), e = .returned (.slice A0 res.length c0) ∧ Hp w w' [.own A0 c0 46 4 (List.map encReading res)]) := by
  cases A_a0 with
  | none =>
    obtain rfl := Sl.none_nil h_a0
    refine calls_of_cw (args := [.slice none (([] : List Reading).length) c_a0]) Try.func70 rfl rfl rfl rfl ?_
    have H := Hp.start w
    have R0 := H.ext
    unfold slices_Clone_Reading at F
    obtain ⟨_, F⟩ := gd_some F
    refine CW.seq fun K1 hK1 => ?_
    refine CW.region ?_
    refine LW.pure rfl rfl (RV.assign rfl) ?_
    refine LW.nil (hK1 _ _ ?_)
    refine CW.seq fun K2 hK2 => ?_
    refine CW.seq fun K3 hK3 => ?_
    refine CW.region ?_
    refine LW.pure rfl rfl (RV.move rfl) ?_
    refine LW.pure rfl rfl (RV.eqnil Ts22 rfl rfl) ?_
    refine LW.nil (hK3 _ _ ?_)
    refine CW.condT rfl rfl ?_
    refine CW.seq fun K4 hK4 => ?_
    refine CW.region ?_
    refine LW.pure rfl rfl (RV.assign rfl) ?_
    refine LW.nil (hK4 _ _ ?_)
    refine CW.ret ?_
    obtain rfl := Option.some.inj F
    refine ⟨_, (ResOK.one rfl), ?_⟩
    replace H := H.nilOwn 46 4
    replace R0 := H.ext
    exact ⟨none, 0, (by first | rfl | (simp; done) | (simp; omega)), H⟩
  | some ad =>
    refine calls_of_cw (args := [.slice ((some ad)) a0.length c_a0]) Try.func70 rfl rfl rfl rfl ?_
    have H := Hp.start w
    have R0 := H.ext
    unfold slices_Clone_Reading at F
    refine CW.seq fun K1 hK1 => ?_
    refine CW.region ?_
    refine LW.pure rfl rfl (RV.assign rfl) ?_
    refine LW.nil (hK1 _ _ ?_)
    refine CW.seq fun K2 hK2 => ?_
    refine CW.seq fun K3 hK3 => ?_
    refine CW.region ?_
    refine LW.pure rfl rfl (RV.move rfl) ?_
    refine LW.pure rfl rfl (RV.eqnil Ts22 rfl rfl) ?_
    refine LW.nil (hK3 _ _ ?_)
    refine CW.condF rfl rfl ?_
    refine CW.skip (hK2 _ _ ?_)
    refine CW.seq fun K4 hK4 => ?_
    obtain ⟨hg1, F⟩ := gd_some F
    refine CW.region ?_
    refine LW.go rfl rfl (OW.buildSlice (e := 46) (vs := []) (cs := []) rfl (fun _ => by kernel_rfl) fun b2 w3 N2 => ?_)
    replace H := H.made' (k := 4) (t := 46) (enc := encReading) (l := ([] : List Reading)) N2 N2.blk (fun _ => rfl) rfl (by first | decide | omega | (simp; done) | (simp; omega))
    replace R0 := H.ext
    refine LW.pure rfl rfl (RV.move rfl) ?_
    refine LW.go rfl rfl (OW.appendG (enc := encReading) (l := ([] : List Reading)) (xs := a0) Ts22 (look_slice rfl (by first | rfl | (simp; done) | (simp; omega))) rfl (H.own 0 rfl) (h_a0.ext R0) (fun _ => rfl) rfl rfl hg1 (by decide) fun A2 c2 w4 O2 M2 D2 => ?_)
    replace H : Hp w w4 [.own A2 c2 46 4 (List.map encReading ((([] : List Reading) ++ a0)))] := H.mod 0 rfl M2 O2 D2
    replace R0 := H.ext
    refine LW.pure rfl rfl (RV.assign rfl) ?_
    refine LW.nil (hK4 _ _ ?_)
    refine CW.ret ?_
    obtain rfl := Option.some.inj F
    refine ⟨_, (ResOK.one rfl), ?_⟩
    exact ⟨A2, c2, (by first | rfl | (simp; done) | (simp; omega)), H⟩
set_option maxRecDepth 20000 in
set_option maxHeartbeats 1000000 in
theorem ref01_Copy_ok {a0 : Survey} {A_a0_readings : Option Addr} {c_a0_readings : Nat} {w : World} {res : Survey} (h_a0_readings : Sl w A_a0_readings c_a0_readings 4 (a0.readings.map encReading)) (F : ref01_Copy a0 = some res) : Calls Try.prog 46 #[.agg #[.int .i64 a0.points, .slice A_a0_readings a0.readings.length c_a0_readings]] w (fun e w' => ∃ (A0_readings : Option Addr) (c0_readings : Nat), e = .returned (.agg #[.int .i64 res.points, .slice A0_readings res.readings.length c0_readings]) ∧ Hp w w' [.own A0_readings c0_readings 46 4 (List.map encReading res.readings)]) := by
  refine calls_of_cw (args := [.agg #[.int .i64 a0.points, .slice A_a0_readings a0.readings.length c_a0_readings]]) Try.func46 rfl rfl rfl rfl ?_
  have H := Hp.start w
  have R0 := H.ext
  unfold ref01_Copy at F
  refine CW.seq fun K1 hK1 => ?_
  refine CW.region ?_
  refine LW.go rfl rfl (OW.box rfl fun b1 w1 N1 => ?_)
  replace H := H.new N1 N1.blk
  replace R0 := H.ext
  refine LW.go rfl rfl (OW.alloc Tz24 fun b2 w2 N2 => ?_)
  replace H := H.new N2 N2.blk
  replace R0 := H.ext
  refine LW.nil (hK1 _ _ ?_)
  refine CW.seq fun K2 hK2 => ?_
  obtain ⟨hg1, F⟩ := gd_some F
  have H0 := H
  have hz : w2.heap.size ≤ w2.heap.size := Nat.le_refl _
  refine CW.draw [5, 7] (XB w2 [.blk b2 24 [.int .i64 0, .slice none 0 0], .blk b1 24 [.int .i64 a0.points, .slice A_a0_readings a0.readings.length c_a0_readings]] [0]) (.cons 0 2 (.cons 1 2 (.cons 3 2 (.cons 4 1 (.cons 2 0 (.cons 5 0 (.cons 6 2 (.cons 7 0 .nil)))))))) mixed (by kernel_rfl) fun w3 E1 => ?_
  replace H := H.grow E1
  replace R0 := H.ext
  replace hz := Nat.le_trans hz (Ext.size E1)
  refine DW.thru rfl rfl rfl (fun _ EQ => RV.fieldAddr Tf24_0 rfl) ?_
  refine DW.thru rfl rfl rfl (fun _ EQ => RV.load1 Tk3 rfl ((H.thruB 1 rfl EQ (H0.notX [0] 1 rfl (by decide))).cells.off 0) rfl) ?_
  refine DW.thru rfl rfl rfl (fun _ EQ => RV.fieldAddr Tf24_1 rfl) ?_
  refine DW.fix rfl rfl rfl (fun _ EQ => RV.load1 Tk22 rfl (((H.grow EQ).blk 1 rfl).cells.off 1) rfl) ?_
  refine DW.sole rfl rfl rfl (OW.buildSlice (e := 46) (vs := []) (cs := []) rfl (fun _ => by kernel_rfl) fun b3 w4 N3 => ?_)
  refine ⟨fun _ => N3.ext, ModX.ext N3.ext, ?_⟩
  have G0_b3 : w2.heap.size ≤ b3 := by rw [N3.at_]; exact hz
  replace H := H.made' (k := 4) (t := 46) (enc := encReading) (l := ([] : List Reading)) N3 N3.blk (fun _ => rfl) rfl (by first | decide | omega | (simp; done) | (simp; omega))
  replace R0 := H.ext
  replace hz := Nat.le_trans hz (Ext.size N3.ext)
  refine DW.sole rfl rfl rfl (OW.appendG (enc := encReading) (l := ([] : List Reading)) (xs := a0.readings) Ts22 (look_slice rfl (by first | rfl | (simp; done) | (simp; omega))) rfl (H.own 0 rfl) (h_a0_readings.ext R0) (fun _ => rfl) rfl rfl hg1 (by decide) fun A1 c1 w5 O1 M1 D1 => ?_)
  have G0_A1 := Fresh.nextZ (Fresh.at_ G0_b3) D1 hz
  refine ⟨fun h => absurd h (by decide), M1.modx (XB.newA (Fresh.at_ G0_b3)), ?_⟩
  replace H : Hp w w5 [.own A1 c1 46 4 (List.map encReading ((([] : List Reading) ++ a0.readings))), .blk b2 24 [.int .i64 0, .slice none 0 0], .blk b1 24 [.int .i64 a0.points, .slice A_a0_readings a0.readings.length c_a0_readings]] := H.mod 0 rfl M1 O1 D1
  replace R0 := H.ext
  replace hz := Nat.le_trans hz M1.size
  refine DW.thru rfl rfl rfl (fun _ EQ => RV.build (vs := [.int .i64 a0.points, .slice A1 (((([] : List Reading) ++ a0.readings)).length) c1]) (cs := [.int .i64 a0.points, .slice A1 (((([] : List Reading) ++ a0.readings)).length) c1]) rfl (fun _ => by kernel_rfl)) ?_
  refine DW.sole rfl rfl rfl (OW.store Tk24 rfl rfl (H.blk 1 rfl) (off := 0) (vs := [.int .i64 a0.points, .slice A1 (((([] : List Reading) ++ a0.readings)).length) c1]) rfl rfl rfl rfl rfl fun w6 S1 => ?_)
  refine ⟨fun h => absurd h (by decide), S1.modx (XB.in_ 0 (by decide) rfl (List.mem_singleton.2 rfl)), ?_⟩
  replace H : Hp w w6 [.own A1 c1 46 4 (List.map encReading ((([] : List Reading) ++ a0.readings))), .blk b2 24 [.int .i64 a0.points, .slice A1 (((([] : List Reading) ++ a0.readings)).length) c1], .blk b1 24 [.int .i64 a0.points, .slice A_a0_readings a0.readings.length c_a0_readings]] := H.stored 1 rfl S1
  replace R0 := H.ext
  replace hz := Nat.le_trans hz (Nat.le_of_eq S1.size.symm)
  refine DW.nil (hK2 _ _ ?_)
  refine CW.ret ?_
  obtain rfl := Option.some.inj F
  refine ⟨_, (ResOK.cell1 ⟨_, rfl, run_loadVar_agg Tk24 (H.blk 1 rfl).cells (us := [.int .i64 a0.points, .slice A1 (((([] : List Reading) ++ a0.readings)).length) c1]) rfl rfl⟩), ?_⟩
  replace H := H.pick (L' := [.own A1 c1 46 4 (List.map encReading ((([] : List Reading) ++ a0.readings)))]) [0] (by decide) rfl
  replace R0 := H.ext
  exact ⟨A1, c1, (by first | rfl | (simp; done) | (simp; omega)), H⟩
end Go.D1

set_option linter.unusedVariables false
set_option linter.unusedSimpArgs false
namespace Go.D1
open Go.Tb Go.Proofs Go.RowKit
theorem Tc31 : callable Try.prog 31 = true := by kernel_rfl
theorem Tc46 : callable Try.prog 46 = true := by kernel_rfl
theorem Te46g : Try.prog.eqGuardType Try.prog.depth 46 = false := by kernel_rfl
theorem Te46 (a0 : Int) (a1 : Int) (a2 : Int) (a3 : Int) (b0 : Int) (b1 : Int) (b2 : Int) (b3 : Int) (w : World) : (Op.equalIn 10000 46 (.agg #[.int .i64 a0, .int .i64 a1, .int .i64 a2, .int .i64 a3]) (.agg #[.int .i64 b0, .int .i64 b1, .int .i64 b2, .int .i64 b3])).run Try.prog w = .ok ((a0 == b0) && (a1 == b1) && (a2 == b2) && (a3 == b3)) w := by
  rw [run_equalIn_agg w 9999 46 _ _ (by kernel_rfl) (by kernel_rfl)]
  simp [Program.fieldsOf, Try.underlying46, Op.eqFields, go_sem]
  by_cases h0 : a0 = b0 <;> by_cases h1 : a1 = b1 <;> by_cases h2 : a2 = b2 <;> by_cases h3 : a3 = b3 <;> simp [h0, h1, h2, h3]
set_option maxRecDepth 20000 in
set_option maxHeartbeats 1000000 in
theorem ref01_Same_ok {a0 : Survey} {a1 : Survey} {A_a0_readings : Option Addr} {c_a0_readings : Nat} {A_a1_readings : Option Addr} {c_a1_readings : Nat} {w : World} {res : Bool} (h_a0_readings : Sl w A_a0_readings c_a0_readings 4 (a0.readings.map encReading)) (h_a1_readings : Sl w A_a1_readings c_a1_readings 4 (a1.readings.map encReading)) (F : ref01_Same a0 a1 = some res) : Calls Try.prog 31 #[.agg #[.int .i64 a0.points, .slice A_a0_readings a0.readings.length c_a0_readings], .agg #[.int .i64 a1.points, .slice A_a1_readings a1.readings.length c_a1_readings]] w (Rt w (.bool res)) := by
  refine calls_of_cw (args := [.agg #[.int .i64 a0.points, .slice A_a0_readings a0.readings.length c_a0_readings], .agg #[.int .i64 a1.points, .slice A_a1_readings a1.readings.length c_a1_readings]]) Try.func31 rfl rfl rfl rfl ?_
  have H := Hp.start w
  have R0 := H.ext
  unfold ref01_Same at F
  refine CW.seq fun K1 hK1 => ?_
  refine CW.region ?_
  refine LW.go rfl rfl (OW.box rfl fun b1 w1 N1 => ?_)
  replace H := H.new N1 N1.blk
  replace R0 := H.ext
  refine LW.go rfl rfl (OW.box rfl fun b2 w2 N2 => ?_)
  replace H := H.new N2 N2.blk
  replace R0 := H.ext
  refine LW.pure rfl rfl (RV.assign rfl) ?_
  refine LW.nil (hK1 _ _ ?_)
  refine CW.seq fun K2 hK2 => ?_
  refine CW.seqJ (fun ρ wl1 => (∃ (t19_1 : Bool), ref01_Same_k2 a0 a1 t19_1 = some res ∧ ρ = [(2, .pointer (some (⟨b1, 0, none⟩))), (3, .pointer (some (⟨b2, 0, none⟩))), (4, .bool false), (19, .bool t19_1)] ∧ Hp w wl1 [.blk b1 24 [.int .i64 a0.points, .slice A_a0_readings a0.readings.length c_a0_readings], .blk b2 24 [.int .i64 a1.points, .slice A_a1_readings a1.readings.length c_a1_readings]])) ?_ ?_
  ·
    rintro _ wl1 ⟨t19_1, F, rfl, H⟩
    have R0 := H.ext
    unfold ref01_Same_k2 at F
    by_cases hp1 : t19_1 = true
    ·
      replace F := ite_y hp1 F
      have hq1 : t19_1 = true := hp1
      refine CW.condT rfl hq1 ?_
      refine CW.seq fun K3 hK3 => ?_
      refine CW.region ?_
      refine LW.pure rfl rfl (RV.assign rfl) ?_
      refine LW.nil (hK3 _ _ ?_)
      refine CW.ret ?_
      obtain rfl := Option.some.inj F
      refine ⟨_, (ResOK.one rfl), ?_⟩
      refine ⟨(by first | rfl | simp), R0⟩
    ·
      replace F := ite_n hp1 F
      have hq1 : t19_1 = false := raw_f hp1
      refine CW.condF rfl hq1 ?_
      refine CW.skip (hK2 _ _ ?_)
      refine CW.seqJ (fun ρ wl2 => (ref01_Same_k1 = some res ∧ ρ = [(4, .bool false)] ∧ Hp w wl2 [])) ?_ ?_
      ·
        rintro _ wl2 ⟨F, rfl, H⟩
        have R0 := H.ext
        unfold ref01_Same_k1 at F
        refine CW.seq fun K4 hK4 => ?_
        refine CW.region ?_
        refine LW.pure rfl rfl (RV.assign rfl) ?_
        refine LW.nil (hK4 _ _ ?_)
        refine CW.ret ?_
        obtain rfl := Option.some.inj F
        refine ⟨_, (ResOK.one rfl), ?_⟩
        refine ⟨(by first | rfl | simp), R0⟩
      ·
        intro K5 hK5 jK59
        refine CW.seq fun K6 hK6 => ?_
        refine CW.region ?_
        refine LW.pure rfl rfl (RV.assign rfl) ?_
        refine LW.nil (hK6 _ _ ?_)
        refine CW.block ?_
        refine CW.loop (fun meas ρ wl3 => ∃ (t5_1 : Int), ref01_Same_L1 a0 a1 meas t5_1 = some res ∧ ρ = [(2, .pointer (some (⟨b1, 0, none⟩))), (3, .pointer (some (⟨b2, 0, none⟩))), (4, .bool false), (5, .int .i64 t5_1)] ∧ Hp w wl3 [.blk b1 24 [.int .i64 a0.points, .slice A_a0_readings a0.readings.length c_a0_readings], .blk b2 24 [.int .i64 a1.points, .slice A_a1_readings a1.readings.length c_a1_readings]]) FU ⟨_, ?_, ((0 : Int)), F, rfl, H⟩ ?_
        · exact ⟨rfl, rfl, rfl, rfl, trivial⟩
        rintro mk1 _ wl3 ⟨t5_1, F, rfl, H⟩
        have R0 := H.ext
        replace F := ref01_Same_L1_s F
        obtain ⟨mk1, rfl, F⟩ := F
        generalize hrec1 : ref01_Same_L1 a0 a1 mk1 = rec1 at F
        unfold ref01_Same_B1 at F
        refine CW.seq fun K7 hK7 => ?_
        refine CW.seq fun K8 hK8 => ?_
        refine CW.region ?_
        refine LW.pure rfl rfl (RV.move rfl) ?_
        refine LW.pure rfl rfl (RV.fieldAddr Tf24_1 rfl) ?_
        refine LW.pure rfl rfl (RV.load1 Tk22 rfl ((H.blk 0 rfl).cells.off 1) rfl) ?_
        refine LW.pure rfl rfl (RV.len Ts22 rfl) ?_
        refine LW.pure rfl rfl (RV.lss rfl rfl) ?_
        refine LW.nil (hK8 _ _ ?_)
        by_cases hp2 : t5_1 < ((a0.readings.length : Int))
        ·
          replace F := ite_y hp2 F
          have hq2 := dec_t hp2
          refine CW.condT rfl hq2 ?_
          refine CW.skip (hK7 _ _ ?_)
          refine CW.seq fun K9 hK9 => ?_
          refine CW.block ?_
          refine CW.seq fun K10 hK10 => ?_
          obtain ⟨x1, hbx1, hx1, F⟩ := ix_some F
          obtain ⟨x2, hbx2, hx2, F⟩ := ix_some F
          refine CW.draw [] (fun _ => True) (.cons 0 1 (.cons 1 1 (.cons 2 1 (.cons 3 1 (.cons 4 1 (.cons 5 1 (.cons 6 1 (.cons 7 1 (.cons 8 1 (.cons 9 1 (.cons 10 1 .nil))))))))))) mixed (by kernel_rfl) fun w3 E1 => ?_
          replace H := H.grow E1
          replace R0 := H.ext
          refine DW.fix rfl rfl rfl (fun _ EQ => RV.fieldAddr Tf24_1 rfl) ?_
          refine DW.fix rfl rfl rfl (fun _ EQ => RV.load1 Tk22 rfl (((H.grow EQ).blk 0 rfl).cells.off 1) rfl) ?_
          refine DW.fix rfl rfl rfl (fun _ EQ => RV.move rfl) ?_
          refine DW.fix rfl rfl rfl (fun _ EQ => RV.indexAddr Ts22 rfl rfl hbx1 (h_a0_readings.addr_ hx1)) ?_
          refine DW.fix rfl rfl rfl (fun _ EQ => RV.loadA [.int .i64 x1.from_, .int .i64 x1.to_, .int .i64 x1.rise, .int .i64 x1.weight] Tk46 rfl ((h_a0_readings.at_ hx1).ext (R0.trans EQ)) rfl rfl) ?_
          refine DW.fix rfl rfl rfl (fun _ EQ => RV.fieldAddr Tf24_1 rfl) ?_
          refine DW.fix rfl rfl rfl (fun _ EQ => RV.load1 Tk22 rfl (((H.grow EQ).blk 1 rfl).cells.off 1) rfl) ?_
          refine DW.fix rfl rfl rfl (fun _ EQ => RV.move rfl) ?_
          refine DW.fix rfl rfl rfl (fun _ EQ => RV.indexAddr Ts22 rfl rfl hbx2 (h_a1_readings.addr_ hx2)) ?_
          refine DW.fix rfl rfl rfl (fun _ EQ => RV.loadA [.int .i64 x2.from_, .int .i64 x2.to_, .int .i64 x2.rise, .int .i64 x2.weight] Tk46 rfl ((h_a1_readings.at_ hx2).ext (R0.trans EQ)) rfl rfl) ?_
          refine DW.fix rfl rfl rfl (fun _ EQ => RV.neA Te46g (Te46 _ _ _ _ _ _ _ _ ) rfl rfl) ?_
          refine DW.nil (hK10 _ _ ?_)
          by_cases hp3 : ((x1.from_ == x2.from_) && (x1.to_ == x2.to_) && (x1.rise == x2.rise) && (x1.weight == x2.weight)) = true
          ·
            replace F := ite_y hp3 F
            have hq3 : ((x1.from_ == x2.from_) && (x1.to_ == x2.to_) && (x1.rise == x2.rise) && (x1.weight == x2.weight)) = true := hp3
            refine CW.condF rfl (not_f hq3) ?_
            refine CW.skip (hK9 _ _ ?_)
            obtain ⟨hg1, F⟩ := gd_some F
            refine CW.region ?_
            refine LW.pure rfl rfl (RV.move rfl) ?_
            refine LW.pure rfl rfl (RV.add rfl rfl hg1) ?_
            refine LW.pure rfl rfl (RV.assign rfl) ?_
            refine LW.nil ?_
            subst hrec1
            refine ⟨mk1, Nat.lt_succ_self _, _, ?_, (t5_1 + 1), F, rfl, H⟩
            exact ⟨rfl, rfl, rfl, rfl, trivial⟩
          ·
            replace F := ite_n hp3 F
            have hq3 : ((x1.from_ == x2.from_) && (x1.to_ == x2.to_) && (x1.rise == x2.rise) && (x1.weight == x2.weight)) = false := raw_f hp3
            refine CW.condT rfl (not_t hq3) ?_
            refine CW.seq fun K11 hK11 => ?_
            refine CW.region ?_
            refine LW.pure rfl rfl (RV.assign rfl) ?_
            refine LW.nil (hK11 _ _ ?_)
            refine CW.ret ?_
            obtain rfl := Option.some.inj F
            refine ⟨_, (ResOK.one rfl), ?_⟩
            refine ⟨(by first | rfl | simp), R0⟩
        ·
          replace F := ite_n hp2 F
          have hq2 := dec_f hp2
          refine CW.condF rfl hq2 ?_
          replace H := H.pick (L' := []) [] (by decide) rfl
          replace R0 := H.ext
          refine CW.exit (jK59 _ _ ⟨_, ?_, ⟨F, rfl, H⟩⟩)
          exact ⟨rfl, trivial⟩
  ·
    intro K12 hK12 jK76
    by_cases hp4 : a0.points = a1.points
    ·
      replace F := ite_y hp4 F
      have hq4 := dec_t hp4
      refine CW.region ?_
      refine LW.pure rfl rfl (RV.fieldAddr Tf24_0 rfl) ?_
      refine LW.pure rfl rfl (RV.load1 Tk3 rfl ((H.blk 1 rfl).cells.off 0) rfl) ?_
      refine LW.pure rfl rfl (RV.fieldAddr Tf24_0 rfl) ?_
      refine LW.pure rfl rfl (RV.load1 Tk3 rfl ((H.blk 0 rfl).cells.off 0) rfl) ?_
      refine LW.pure rfl rfl (RV.nei rfl rfl) ?_
      refine LW.pure rfl rfl (RV.move rfl) ?_
      refine LW.pureYB rfl rfl rfl rfl (not_f hq4) (RV.fieldAddr Tf24_1 rfl) ?_
      refine LW.pureYB rfl rfl rfl rfl (not_f hq4) (RV.load1 Tk22 rfl ((H.blk 1 rfl).cells.off 1) rfl) ?_
      refine LW.pureYB rfl rfl rfl rfl (not_f hq4) (RV.len Ts22 rfl) ?_
      refine LW.pureYB rfl rfl rfl rfl (not_f hq4) (RV.fieldAddr Tf24_1 rfl) ?_
      refine LW.pureYB rfl rfl rfl rfl (not_f hq4) (RV.load1 Tk22 rfl ((H.blk 0 rfl).cells.off 1) rfl) ?_
      refine LW.pureYB rfl rfl rfl rfl (not_f hq4) (RV.len Ts22 rfl) ?_
      refine LW.pureYB rfl rfl rfl rfl (not_f hq4) (RV.nei rfl rfl) ?_
      refine LW.pure rfl rfl (RV.pickFB rfl (not_f hq4) rfl) ?_
      replace H := H.pick (L' := [.blk b1 24 [.int .i64 a0.points, .slice A_a0_readings a0.readings.length c_a0_readings], .blk b2 24 [.int .i64 a1.points, .slice A_a1_readings a1.readings.length c_a1_readings]]) [1, 0] (by decide) rfl
      replace R0 := H.ext
      refine LW.nil (jK76 _ _ ⟨_, ?_, ⟨(!(decide (((a0.readings.length : Int)) = ((a1.readings.length : Int))))), F, rfl, H⟩⟩)
      exact ⟨rfl, rfl, rfl, rfl, trivial⟩
    ·
      replace F := ite_n hp4 F
      have hq4 := dec_f hp4
      refine CW.region ?_
      refine LW.pure rfl rfl (RV.fieldAddr Tf24_0 rfl) ?_
      refine LW.pure rfl rfl (RV.load1 Tk3 rfl ((H.blk 1 rfl).cells.off 0) rfl) ?_
      refine LW.pure rfl rfl (RV.fieldAddr Tf24_0 rfl) ?_
      refine LW.pure rfl rfl (RV.load1 Tk3 rfl ((H.blk 0 rfl).cells.off 0) rfl) ?_
      refine LW.pure rfl rfl (RV.nei rfl rfl) ?_
      refine LW.pure rfl rfl (RV.move rfl) ?_
      refine LW.noB rfl rfl rfl rfl (ne_beq (v := true) (not_t hq4) rfl) ?_
      refine LW.noB rfl rfl rfl rfl (ne_beq (v := true) (not_t hq4) rfl) ?_
      refine LW.noB rfl rfl rfl rfl (ne_beq (v := true) (not_t hq4) rfl) ?_
      refine LW.noB rfl rfl rfl rfl (ne_beq (v := true) (not_t hq4) rfl) ?_
      refine LW.noB rfl rfl rfl rfl (ne_beq (v := true) (not_t hq4) rfl) ?_
      refine LW.noB rfl rfl rfl rfl (ne_beq (v := true) (not_t hq4) rfl) ?_
      refine LW.noB rfl rfl rfl rfl (ne_beq (v := true) (not_t hq4) rfl) ?_
      refine LW.pure rfl rfl (RV.pickTB rfl (not_t hq4) rfl) ?_
      replace H := H.pick (L' := [.blk b1 24 [.int .i64 a0.points, .slice A_a0_readings a0.readings.length c_a0_readings], .blk b2 24 [.int .i64 a1.points, .slice A_a1_readings a1.readings.length c_a1_readings]]) [1, 0] (by decide) rfl
      replace R0 := H.ext
      refine LW.nil (jK76 _ _ ⟨_, ?_, ⟨true, F, rfl, H⟩⟩)
      exact ⟨rfl, rfl, rfl, rfl, trivial⟩
end Go.D1

set_option linter.unusedVariables false
set_option linter.unusedSimpArgs false
namespace Go.D1
open Go.Tb Go.Proofs Go.RowKit
theorem Tc106 : callable Try.prog 106 = true := by kernel_rfl
theorem Tc81 : callable Try.prog 81 = true := by kernel_rfl
set_option maxRecDepth 20000 in
set_option maxHeartbeats 1000000 in
theorem slices_IndexFunc_int_ok {a0 : List Int} {a1 : Int → Option Bool} {A_a0 : Option Addr} {c_a0 : Nat} {f_a1 : Nat} {p_a1 : Array Value} {q_a1 : Array Value} {w : World} {res : Int} (h_a0 : Sl w A_a0 c_a0 1 (a0.map encN)) (h_a1 : ∀ (x2 : Int) (r : Bool), a1 x2 = some r → ∀ w1, Ext w w1 → CallsV Try.prog f_a1 p_a1 q_a1 #[.int .i64 x2] w1 (Rt w1 (.bool r))) (F : slices_IndexFunc_int a0 a1 = some res) : Calls Try.prog 106 #[.slice A_a0 a0.length c_a0, .func (.func f_a1) p_a1 q_a1] w (Rt w (.int .i64 res)) := by
  refine calls_of_cw (args := [.slice A_a0 a0.length c_a0, .func (.func f_a1) p_a1 q_a1]) Try.func106 rfl rfl rfl rfl ?_
  have H := Hp.start w
  have R0 := H.ext
  unfold slices_IndexFunc_int at F
  refine CW.seq fun K1 hK1 => ?_
  refine CW.region ?_
  refine LW.pure rfl rfl (RV.assign rfl) ?_
  refine LW.nil (hK1 _ _ ?_)
  refine CW.seqJ (fun ρ wl1 => (slices_IndexFunc_int_k1 = some res ∧ ρ = [(4, .int .i64 0)] ∧ Hp w wl1 [])) ?_ ?_
  ·
    rintro _ wl1 ⟨F, rfl, H⟩
    have R0 := H.ext
    unfold slices_IndexFunc_int_k1 at F
    refine CW.seq fun K2 hK2 => ?_
    refine CW.region ?_
    refine LW.pure rfl rfl (RV.assign rfl) ?_
    refine LW.nil (hK2 _ _ ?_)
    refine CW.ret ?_
    obtain rfl := Option.some.inj F
    refine ⟨_, (ResOK.one rfl), ?_⟩
    refine ⟨(by first | rfl | simp), R0⟩
  ·
    intro K3 hK3 jK63
    refine CW.seq fun K4 hK4 => ?_
    refine CW.region ?_
    refine LW.pure rfl rfl (RV.move rfl) ?_
    refine LW.pure rfl rfl (RV.len Ts39 rfl) ?_
    refine LW.pure rfl rfl (RV.move rfl) ?_
    refine LW.nil (hK4 _ _ ?_)
    refine CW.block ?_
    refine CW.loop (fun meas ρ wl2 => ∃ (t8_1 : Int), slices_IndexFunc_int_L1 a0 a1 meas t8_1 = some res ∧ ρ = [(0, .slice A_a0 a0.length c_a0), (1, .func (.func f_a1) p_a1 q_a1), (4, .int .i64 0), (7, .int .i64 ((a0.length : Int))), (8, .int .i64 t8_1)] ∧ Hp w wl2 []) FU ⟨_, ?_, ((0 : Int)), F, rfl, H⟩ ?_
    · exact ⟨rfl, rfl, rfl, rfl, rfl, trivial⟩
    rintro mk1 _ wl2 ⟨t8_1, F, rfl, H⟩
    have R0 := H.ext
    replace F := slices_IndexFunc_int_L1_s F
    obtain ⟨mk1, rfl, F⟩ := F
    generalize hrec1 : slices_IndexFunc_int_L1 a0 a1 mk1 = rec1 at F
    unfold slices_IndexFunc_int_B1 at F
    refine CW.seq fun K5 hK5 => ?_
    refine CW.region ?_
    refine LW.pure rfl rfl (RV.lss rfl rfl) ?_
    refine LW.nil (hK5 _ _ ?_)
    refine CW.seq fun K6 hK6 => ?_
    by_cases hp1 : t8_1 < ((a0.length : Int))
    ·
      replace F := ite_y hp1 F
      have hq1 := dec_t hp1
      refine CW.condT rfl hq1 ?_
      refine CW.skip (hK6 _ _ ?_)
      refine CW.seq fun K7 hK7 => ?_
      refine CW.block ?_
      refine CW.seq fun K8 hK8 => ?_
      refine CW.region ?_
      refine LW.pure rfl rfl (RV.move rfl) ?_
      refine LW.pure rfl rfl (RV.assign rfl) ?_
      refine LW.nil (hK8 _ _ ?_)
      refine CW.seq fun K9 hK9 => ?_
      obtain ⟨x1, hbx1, hx1, F⟩ := ix_some F
      obtain ⟨r1, hr1, F⟩ := bnd_some F
      refine CW.region ?_
      refine LW.pure rfl rfl (RV.move rfl) ?_
      refine LW.pure rfl rfl (RV.move rfl) ?_
      refine LW.pure rfl rfl (RV.move rfl) ?_
      refine LW.pure rfl rfl (RV.indexAddr Ts39 rfl rfl hbx1 (h_a0.addr_ hx1)) ?_
      refine LW.pure rfl rfl (RV.load1 Tk3 rfl ((h_a0.at_ hx1).ext R0) rfl) ?_
      refine LW.go rfl rfl (OW.callV2 rfl rfl rfl (h_a1 _ _ hr1 _ R0) ?_)
      rintro _ w2 ⟨rfl, E1⟩
      refine ⟨_, rfl, ?_⟩
      replace H := H.grow E1
      replace R0 := H.ext
      refine LW.nil (hK9 _ _ ?_)
      by_cases hp2 : r1 = true
      ·
        replace F := ite_y hp2 F
        have hq2 : r1 = true := hp2
        refine CW.condT rfl hq2 ?_
        refine CW.seq fun K10 hK10 => ?_
        refine CW.region ?_
        refine LW.pure rfl rfl (RV.move rfl) ?_
        refine LW.pure rfl rfl (RV.assign rfl) ?_
        refine LW.nil (hK10 _ _ ?_)
        refine CW.ret ?_
        obtain rfl := Option.some.inj F
        refine ⟨_, (ResOK.one rfl), ?_⟩
        refine ⟨(by first | rfl | simp), R0⟩
      ·
        replace F := ite_n hp2 F
        have hq2 : r1 = false := raw_f hp2
        refine CW.condF rfl hq2 ?_
        refine CW.skip (hK7 _ _ ?_)
        obtain ⟨hg1, F⟩ := gd_some F
        refine CW.region ?_
        refine LW.pure rfl rfl (RV.add rfl rfl hg1) ?_
        refine LW.pure rfl rfl (RV.move rfl) ?_
        refine LW.nil ?_
        subst hrec1
        refine ⟨mk1, Nat.lt_succ_self _, _, ?_, (t8_1 + 1), F, rfl, H⟩
        exact ⟨rfl, rfl, rfl, rfl, rfl, trivial⟩
    ·
      replace F := ite_n hp1 F
      have hq1 := dec_f hp1
      refine CW.condF rfl hq1 ?_
      refine CW.exit (jK63 _ _ ⟨_, ?_, ⟨F, rfl, H⟩⟩)
      exact ⟨rfl, trivial⟩
set_option maxRecDepth 20000 in
set_option maxHeartbeats 1000000 in
theorem slices_ContainsFunc_int_ok {a0 : List Int} {a1 : Int → Option Bool} {A_a0 : Option Addr} {c_a0 : Nat} {f_a1 : Nat} {p_a1 : Array Value} {q_a1 : Array Value} {w : World} {res : Bool} (h_a0 : Sl w A_a0 c_a0 1 (a0.map encN)) (h_a1 : ∀ (x0 : Int) (r : Bool), a1 x0 = some r → ∀ w1, Ext w w1 → CallsV Try.prog f_a1 p_a1 q_a1 #[.int .i64 x0] w1 (Rt w1 (.bool r))) (F : slices_ContainsFunc_int a0 a1 = some res) : Calls Try.prog 81 #[.slice A_a0 a0.length c_a0, .func (.func f_a1) p_a1 q_a1] w (Rt w (.bool res)) := by
  refine calls_of_cw (args := [.slice A_a0 a0.length c_a0, .func (.func f_a1) p_a1 q_a1]) Try.func81 rfl rfl rfl rfl ?_
  have H := Hp.start w
  have R0 := H.ext
  unfold slices_ContainsFunc_int at F
  refine CW.seq fun K1 hK1 => ?_
  refine CW.region ?_
  refine LW.pure rfl rfl (RV.assign rfl) ?_
  refine LW.nil (hK1 _ _ ?_)
  refine CW.seq fun K2 hK2 => ?_
  obtain ⟨r1, hr1, F⟩ := bnd_some F
  refine CW.region ?_
  refine LW.pure rfl rfl (RV.move rfl) ?_
  refine LW.pure rfl rfl (RV.move rfl) ?_
  refine LW.go rfl rfl (OW.call Tc106 rfl (slices_IndexFunc_int_ok (a0 := a0) (a1 := a1) (h_a0.ext R0) (fun x0 r hF w1 hE => h_a1 x0 r hF w1 (R0.trans hE)) hr1) ?_)
  rintro _ w2 ⟨rfl, E1⟩
  refine ⟨_, rfl, ?_⟩
  replace H := H.grow E1
  replace R0 := H.ext
  refine LW.pure rfl rfl (RV.geq rfl rfl) ?_
  refine LW.pure rfl rfl (RV.assign rfl) ?_
  refine LW.nil (hK2 _ _ ?_)
  refine CW.ret ?_
  obtain rfl := Option.some.inj F
  refine ⟨_, (ResOK.one rfl), ?_⟩
  refine ⟨(by first | rfl | simp), R0⟩
end Go.D1

set_option linter.unusedVariables false
set_option linter.unusedSimpArgs false
namespace Go.D1
open Go.Tb Go.Proofs Go.RowKit
theorem Tc76 : callable Try.prog 76 = true := by kernel_rfl
set_option maxRecDepth 20000 in
set_option maxHeartbeats 1000000 in
theorem level_residuals_ok {a0 : Survey} {A_a0_readings : Option Addr} {c_a0_readings : Nat} {w : World} {res : (List Rat)} (h_a0_readings : Sl w A_a0_readings c_a0_readings 4 (a0.readings.map encReading)) (F : level_residuals a0 = some res) : Calls Try.prog 76 #[.agg #[.int .i64 a0.points, .slice A_a0_readings a0.readings.length c_a0_readings]] w (fun e w' => ∃ (A1 : Option Addr) (c1 : Nat), e = .returned (.slice A1 res.length c1) ∧ Hp w w' [.own A1 c1 28 2 (List.map encRat res)]) := by
  refine calls_of_cw (args := [.agg #[.int .i64 a0.points, .slice A_a0_readings a0.readings.length c_a0_readings]]) Try.func76 rfl rfl rfl rfl ?_
  have H := Hp.start w
  have R0 := H.ext
  unfold level_residuals at F
  refine CW.seq fun K1 hK1 => ?_
  refine CW.region ?_
  refine LW.go rfl rfl (OW.box rfl fun b1 w1 N1 => ?_)
  replace H := H.new N1 N1.blk
  replace R0 := H.ext
  refine LW.pure rfl rfl (RV.assign rfl) ?_
  refine LW.nil (hK1 _ _ ?_)
  refine CW.seq fun K2 hK2 => ?_
  obtain ⟨r1, hr1, F⟩ := bnd_some F
  refine CW.region ?_
  refine LW.pure rfl rfl (RV.loadA [.int .i64 a0.points, .slice A_a0_readings a0.readings.length c_a0_readings] Tk24 rfl (H.blk 0 rfl).cells rfl rfl) ?_
  refine LW.go rfl rfl (OW.call Tc74 rfl (level_best_ok (a0 := a0) (h_a0_readings.ext R0) hr1) ?_)
  rintro _ w2 ⟨A15_0, c15_0, rfl, E1⟩
  refine ⟨_, rfl, ?_⟩
  replace H : Hp w w2 [.own A15_0 c15_0 28 2 (List.map encRat r1), .blk b1 24 [.int .i64 a0.points, .slice A_a0_readings a0.readings.length c_a0_readings]] := H.append E1
  replace R0 := H.ext
  refine LW.pure rfl rfl (RV.assign rfl) ?_
  refine LW.nil (hK2 _ _ ?_)
  refine CW.seq fun K3 hK3 => ?_
  refine CW.region ?_
  refine LW.pure rfl rfl (RV.assign rfl) ?_
  refine LW.nil (hK3 _ _ ?_)
  refine CW.seqJ (fun ρ wl1 => (∃ (l1 : List Rat) (Al1 : Option Addr) (cl1 : Nat), level_residuals_k1 l1 = some res ∧ ρ = [(2, .slice none 0 0), (4, .slice Al1 l1.length cl1)] ∧ Hp w wl1 [.own Al1 cl1 28 2 (List.map encRat l1)])) ?_ ?_
  ·
    rintro _ wl1 ⟨l1, Al1, cl1, F, rfl, H⟩
    have R0 := H.ext
    unfold level_residuals_k1 at F
    refine CW.seq fun K4 hK4 => ?_
    refine CW.region ?_
    refine LW.pure rfl rfl (RV.move rfl) ?_
    refine LW.pure rfl rfl (RV.assign rfl) ?_
    refine LW.nil (hK4 _ _ ?_)
    refine CW.ret ?_
    obtain rfl := Option.some.inj F
    refine ⟨_, (ResOK.one rfl), ?_⟩
    exact ⟨Al1, cl1, (by first | rfl | (simp; done) | (simp; omega)), H⟩
  ·
    intro K5 hK5 jK49
    refine CW.seq fun K6 hK6 => ?_
    refine CW.region ?_
    refine LW.pure rfl rfl (RV.fieldAddr Tf24_1 rfl) ?_
    refine LW.pure rfl rfl (RV.load1 Tk22 rfl ((H.blk 1 rfl).cells.off 1) rfl) ?_
    refine LW.pure rfl rfl (RV.len Ts22 rfl) ?_
    refine LW.pure rfl rfl (RV.move rfl) ?_
    refine LW.nil (hK6 _ _ ?_)
    refine CW.block ?_
    replace H := H.nilOwn 28 2
    replace R0 := H.ext
    replace H := H.pick (L' := [.own A15_0 c15_0 28 2 (List.map encRat r1), .own none 0 28 2 (List.map encRat (([] : List Rat)))]) [1, 0] (by decide) rfl
    replace R0 := H.ext
    refine CW.loop (fun meas ρ wl2 => ∃ (t12_1 : Int) (l2 : List Rat) (Al2 : Option Addr) (cl2 : Nat), level_residuals_L1 a0 r1 meas t12_1 l2 = some res ∧ ρ = [(2, .slice none 0 0), (3, .slice A15_0 r1.length c15_0), (4, .slice Al2 l2.length cl2), (10, .slice A_a0_readings a0.readings.length c_a0_readings), (11, .int .i64 ((a0.readings.length : Int))), (12, .int .i64 t12_1)] ∧ Hp w wl2 [.own A15_0 c15_0 28 2 (List.map encRat r1), .own Al2 cl2 28 2 (List.map encRat l2)]) FU ⟨_, ?_, ((0 : Int)), (([] : List Rat)), none, 0, F, rfl, H⟩ ?_
    · exact ⟨rfl, (look_slice rfl (by first | rfl | (simp; done) | omega | (simp; omega))), (look_slice rfl (by first | rfl | (simp; done) | omega | (simp; omega))), rfl, rfl, rfl, trivial⟩
    rintro mk1 _ wl2 ⟨t12_1, l2, Al2, cl2, F, rfl, H⟩
    have R0 := H.ext
    replace F := level_residuals_L1_s F
    obtain ⟨mk1, rfl, F⟩ := F
    generalize hrec1 : level_residuals_L1 a0 r1 mk1 = rec1 at F
    unfold level_residuals_B1 at F
    refine CW.seq fun K7 hK7 => ?_
    refine CW.region ?_
    refine LW.pure rfl rfl (RV.lss rfl rfl) ?_
    refine LW.nil (hK7 _ _ ?_)
    refine CW.seq fun K8 hK8 => ?_
    by_cases hp1 : t12_1 < ((a0.readings.length : Int))
    ·
      replace F := ite_y hp1 F
      have hq1 := dec_t hp1
      refine CW.condT rfl hq1 ?_
      refine CW.skip (hK8 _ _ ?_)
      refine CW.seq fun K9 hK9 => ?_
      refine CW.block ?_
      refine CW.seq fun K10 hK10 => ?_
      obtain ⟨x1, hbx1, hx1, F⟩ := ix_some F
      refine CW.region ?_
      refine LW.pure rfl rfl (RV.indexAddr Ts22 rfl rfl hbx1 (h_a0_readings.addr_ hx1)) ?_
      refine LW.pure rfl rfl (RV.loadA [.int .i64 x1.from_, .int .i64 x1.to_, .int .i64 x1.rise, .int .i64 x1.weight] Tk46 rfl ((h_a0_readings.at_ hx1).ext R0) rfl rfl) ?_
      refine LW.go rfl rfl (OW.alloc Tz46 fun b2 w3 N2 => ?_)
      replace H := H.new N2 N2.blk
      replace R0 := H.ext
      refine LW.go rfl rfl (OW.store Tk46 rfl rfl (H.blk 0 rfl) (off := 0) (vs := [.int .i64 x1.from_, .int .i64 x1.to_, .int .i64 x1.rise, .int .i64 x1.weight]) rfl rfl rfl rfl rfl fun w4 S1 => ?_)
      replace H : Hp w w4 [.blk b2 46 [.int .i64 x1.from_, .int .i64 x1.to_, .int .i64 x1.rise, .int .i64 x1.weight], .own A15_0 c15_0 28 2 (List.map encRat r1), .own Al2 cl2 28 2 (List.map encRat l2)] := H.stored 0 rfl S1
      replace R0 := H.ext
      refine LW.nil (hK10 _ _ ?_)
      obtain ⟨x2, hbx2, hx2, F⟩ := ix_some F
      obtain ⟨x3, hbx3, hx3, F⟩ := ix_some F
      obtain ⟨r2, hr2, F⟩ := bnd_some F
      obtain ⟨r3, hr3, F⟩ := bnd_some F
      obtain ⟨hg1, F⟩ := gd_some F
      have H0 := H
      have hz : w4.heap.size ≤ w4.heap.size := Nat.le_refl _
      refine CW.draw [17] (XB w4 [.blk b2 46 [.int .i64 x1.from_, .int .i64 x1.to_, .int .i64 x1.rise, .int .i64 x1.weight], .own A15_0 c15_0 28 2 (List.map encRat r1), .own Al2 cl2 28 2 (List.map encRat l2)] [2]) (.cons 0 1 (.cons 1 2 (.cons 2 2 (.cons 3 2 (.cons 4 2 (.cons 5 2 (.cons 6 2 (.cons 7 2 (.cons 8 2 (.cons 9 2 (.cons 10 2 (.cons 11 2 (.cons 12 2 (.cons 13 2 (.cons 14 0 (.cons 15 0 (.cons 16 0 (.cons 17 0 (.cons 18 2 .nil))))))))))))))))))) mixed (by kernel_rfl) fun w5 E2 => ?_
      replace H := H.grow E2
      replace R0 := H.ext
      replace hz := Nat.le_trans hz (Ext.size E2)
      refine DW.fix rfl rfl rfl (fun _ EQ => RV.move rfl) ?_
      refine DW.thru rfl rfl rfl (fun _ EQ => RV.fieldAddr Tf46_2 rfl) ?_
      refine DW.thru rfl rfl rfl (fun _ EQ => RV.load1 Tk3 rfl ((H.thruB 0 rfl EQ (H0.notX [2] 0 rfl (by decide))).cells.off 2) rfl) ?_
      refine DW.thru rfl rfl rfl (fun _ EQ => RV.build (vs := [.int .i64 x1.rise, .int .i64 1]) (cs := [.int .i64 x1.rise, .int .i64 1]) rfl (fun _ => by kernel_rfl)) ?_
      refine DW.thru rfl rfl rfl (fun _ EQ => RV.move rfl) ?_
      refine DW.thru rfl rfl rfl (fun _ EQ => RV.fieldAddr Tf46_1 rfl) ?_
      refine DW.thru rfl rfl rfl (fun _ EQ => RV.load1 Tk3 rfl ((H.thruB 0 rfl EQ (H0.notX [2] 0 rfl (by decide))).cells.off 1) rfl) ?_
      refine DW.thru rfl rfl rfl (fun _ EQ => RV.indexAddr Ts53 rfl rfl hbx2 ((H.own 1 rfl).sl.addr_ hx2)) ?_
      refine DW.thru rfl rfl rfl (fun _ EQ => RV.loadA [.int .i64 x2.num, .int .i64 x2.den] Tk28 rfl ((H.thruO 1 rfl EQ (H0.notX [2] 1 rfl (by decide))).sl.at_ hx2) rfl rfl) ?_
      refine DW.thru rfl rfl rfl (fun _ EQ => RV.move rfl) ?_
      refine DW.thru rfl rfl rfl (fun _ EQ => RV.fieldAddr Tf46_0 rfl) ?_
      refine DW.thru rfl rfl rfl (fun _ EQ => RV.load1 Tk3 rfl ((H.thruB 0 rfl EQ (H0.notX [2] 0 rfl (by decide))).cells.off 0) rfl) ?_
      refine DW.thru rfl rfl rfl (fun _ EQ => RV.indexAddr Ts53 rfl rfl hbx3 ((H.own 1 rfl).sl.addr_ hx3)) ?_
      refine DW.thru rfl rfl rfl (fun _ EQ => RV.loadA [.int .i64 x3.num, .int .i64 x3.den] Tk28 rfl ((H.thruO 1 rfl EQ (H0.notX [2] 1 rfl (by decide))).sl.at_ hx3) rfl rfl) ?_
      refine DW.sole rfl rfl rfl (OW.call Tc105 rfl (level_sub_ok (a0 := x2) (a1 := x3) hr2) ?_)
      rintro _ w6 ⟨rfl, E3⟩
      refine ⟨_, rfl, fun _ => E3, ModX.ext E3, ?_⟩
      replace H := H.grow E3
      replace R0 := H.ext
      replace hz := Nat.le_trans hz (Ext.size E3)
      refine DW.sole rfl rfl rfl (OW.call Tc105 rfl (level_sub_ok (a0 := (⟨x1.rise, 1⟩ : Rat)) (a1 := r2) hr3) ?_)
      rintro _ w7 ⟨rfl, E4⟩
      refine ⟨_, rfl, fun _ => E4, ModX.ext E4, ?_⟩
      replace H := H.grow E4
      replace R0 := H.ext
      replace hz := Nat.le_trans hz (Ext.size E4)
      refine DW.sole rfl rfl rfl (OW.buildSlice (e := 28) (vs := [.agg #[.int .i64 r3.num, .int .i64 r3.den]]) (cs := [.int .i64 r3.num, .int .i64 r3.den]) rfl (fun _ => by kernel_rfl) fun b3 w8 N3 => ?_)
      refine ⟨fun _ => N3.ext, ModX.ext N3.ext, ?_⟩
      have G0_b3 : w4.heap.size ≤ b3 := by rw [N3.at_]; exact hz
      replace H := H.made' (k := 2) (t := 28) (enc := encRat) (l := ([r3] : List Rat)) N3 N3.blk (fun _ => rfl) rfl (by first | decide | omega | (simp; done) | (simp; omega))
      replace R0 := H.ext
      replace hz := Nat.le_trans hz (Ext.size N3.ext)
      refine DW.sole rfl rfl rfl (OW.appendG (enc := encRat) (l := l2) (xs := ([r3] : List Rat)) Ts53 rfl (look_slice rfl (by first | rfl | (simp; done) | (simp; omega))) (H.own 3 rfl) (H.own 0 rfl).sl (fun _ => rfl) rfl rfl hg1 (by decide) fun A2 c2 w9 O1 M1 D1 => ?_)
      refine ⟨fun h => absurd h (by decide), M1.modx (XB.own_ 2 (by decide) rfl), ?_⟩
      replace H : Hp w w9 [.own (some ⟨b3, 0, none⟩) ((([r3] : List Rat)).length) 28 2 (List.map encRat (([r3] : List Rat))), .blk b2 46 [.int .i64 x1.from_, .int .i64 x1.to_, .int .i64 x1.rise, .int .i64 x1.weight], .own A15_0 c15_0 28 2 (List.map encRat r1), .own A2 c2 28 2 (List.map encRat ((l2 ++ ([r3] : List Rat))))] := H.mod 3 rfl M1 O1 D1
      replace R0 := H.ext
      replace hz := Nat.le_trans hz M1.size
      refine DW.thru rfl rfl rfl (fun _ EQ => RV.assign rfl) ?_
      refine DW.nil (hK9 _ _ ?_)
      obtain ⟨hg2, F⟩ := gd_some F
      refine CW.region ?_
      refine LW.pure rfl rfl (RV.add rfl rfl hg2) ?_
      refine LW.pure rfl rfl (RV.move rfl) ?_
      refine LW.nil ?_
      replace H := H.pick (L' := [.own A15_0 c15_0 28 2 (List.map encRat r1), .own A2 c2 28 2 (List.map encRat ((l2 ++ ([r3] : List Rat))))]) [2, 3] (by decide) rfl
      replace R0 := H.ext
      subst hrec1
      refine ⟨mk1, Nat.lt_succ_self _, _, ?_, (t12_1 + 1), ((l2 ++ ([r3] : List Rat))), A2, c2, F, rfl, H⟩
      exact ⟨rfl, (look_slice rfl (by first | rfl | (simp; done) | omega | (simp; omega))), (look_slice rfl (by first | rfl | (simp; done) | omega | (simp; omega))), rfl, rfl, rfl, trivial⟩
    ·
      replace F := ite_n hp1 F
      have hq1 := dec_f hp1
      refine CW.condF rfl hq1 ?_
      replace H := H.pick (L' := [.own Al2 cl2 28 2 (List.map encRat l2)]) [1] (by decide) rfl
      replace R0 := H.ext
      refine CW.exit (jK49 _ _ ⟨_, ?_, ⟨l2, Al2, cl2, F, rfl, H⟩⟩)
      exact ⟨rfl, (look_slice rfl (by first | rfl | (simp; done) | omega | (simp; omega))), trivial⟩
end Go.D1

set_option linter.unusedVariables false
set_option linter.unusedSimpArgs false
namespace Go.D1
open Go.Tb Go.Proofs Go.RowKit
theorem Tc38 : callable Try.prog 38 = true := by kernel_rfl
set_option maxRecDepth 20000 in
set_option maxHeartbeats 1000000 in
theorem level_Misfit_ok {a0 : Survey} {A_a0_readings : Option Addr} {c_a0_readings : Nat} {w : World} {res : Rat × Int} (h_a0_readings : Sl w A_a0_readings c_a0_readings 4 (a0.readings.map encReading)) (F : level_Misfit a0 = some res) : Calls Try.prog 38 #[.agg #[.int .i64 a0.points, .slice A_a0_readings a0.readings.length c_a0_readings]] w (Rt w (.tuple #[.agg #[.int .i64 res.1.num, .int .i64 res.1.den], .int .i64 res.2])) := by
  refine calls_of_cw (args := [.agg #[.int .i64 a0.points, .slice A_a0_readings a0.readings.length c_a0_readings]]) Try.func38 rfl rfl rfl rfl ?_
  have H := Hp.start w
  have R0 := H.ext
  unfold level_Misfit at F
  refine CW.seq fun K1 hK1 => ?_
  refine CW.region ?_
  refine LW.go rfl rfl (OW.box rfl fun b1 w1 N1 => ?_)
  replace H := H.new N1 N1.blk
  replace R0 := H.ext
  refine LW.go rfl rfl (OW.alloc Tz28 fun b2 w2 N2 => ?_)
  replace H := H.new N2 N2.blk
  replace R0 := H.ext
  refine LW.pure rfl rfl (RV.assign rfl) ?_
  refine LW.nil (hK1 _ _ ?_)
  refine CW.seq fun K2 hK2 => ?_
  refine CW.seq fun K3 hK3 => ?_
  obtain ⟨r5, hr5, F⟩ := bnd_some F
  refine CW.region ?_
  refine LW.pure rfl rfl (RV.loadA [.int .i64 a0.points, .slice A_a0_readings a0.readings.length c_a0_readings] Tk24 rfl (H.blk 1 rfl).cells rfl rfl) ?_
  refine LW.go rfl rfl (OW.call Tc25 rfl (level_Validate_ok (a0 := a0) (h_a0_readings.ext R0) hr5) ?_)
  rintro _ w3 ⟨rfl, E1⟩
  refine ⟨_, rfl, ?_⟩
  replace H := H.grow E1
  replace R0 := H.ext
  refine LW.pure rfl rfl (RV.assign rfl) ?_
  refine LW.nil (hK3 _ _ ?_)
  refine CW.seq fun K4 hK4 => ?_
  refine CW.region ?_
  refine LW.pure rfl rfl (RV.move rfl) ?_
  refine LW.pure rfl rfl (RV.nei rfl rfl) ?_
  refine LW.nil (hK4 _ _ ?_)
  by_cases hp1 : r5 = 0
  ·
    replace F := ite_y hp1 F
    have hq1 := dec_t hp1
    refine CW.condF rfl (not_f hq1) ?_
    refine CW.skip (hK2 _ _ ?_)
    refine CW.seq fun K5 hK5 => ?_
    obtain ⟨r3, hr3, F⟩ := bnd_some F
    refine CW.region ?_
    refine LW.pure rfl rfl (RV.loadA [.int .i64 a0.points, .slice A_a0_readings a0.readings.length c_a0_readings] Tk24 rfl (H.blk 1 rfl).cells rfl rfl) ?_
    refine LW.go rfl rfl (OW.call Tc76 rfl (level_residuals_ok (a0 := a0) (h_a0_readings.ext R0) hr3) ?_)
    rintro _ w4 ⟨A14_0, c14_0, rfl, E2⟩
    refine ⟨_, rfl, ?_⟩
    replace H : Hp w w4 [.own A14_0 c14_0 28 2 (List.map encRat r3), .blk b2 28 [.int .i64 0, .int .i64 0], .blk b1 24 [.int .i64 a0.points, .slice A_a0_readings a0.readings.length c_a0_readings]] := H.append E2
    replace R0 := H.ext
    refine LW.pure rfl rfl (RV.assign rfl) ?_
    refine LW.nil (hK5 _ _ ?_)
    refine CW.seq fun K6 hK6 => ?_
    refine CW.region ?_
    refine LW.pure rfl rfl (RV.assign rfl) ?_
    refine LW.nil (hK6 _ _ ?_)
    refine CW.seqJ (fun ρ wl1 => (∃ (t6_1 : Int), level_Misfit_k2 a0 r3 t6_1 = some res ∧ ρ = [(1, .pointer (some (⟨b1, 0, none⟩))), (2, .pointer (some (⟨b2, 0, none⟩))), (3, .int .i64 0), (5, .slice A14_0 r3.length c14_0), (6, .int .i64 t6_1)] ∧ Hp w wl1 [.own A14_0 c14_0 28 2 (List.map encRat r3), .blk b1 24 [.int .i64 a0.points, .slice A_a0_readings a0.readings.length c_a0_readings], .blk b2 28 [.int .i64 0, .int .i64 0]])) ?_ ?_
    ·
      rintro _ wl1 ⟨t6_1, F, rfl, H⟩
      have R0 := H.ext
      unfold level_Misfit_k2 at F
      refine CW.seq fun K7 hK7 => ?_
      refine CW.region ?_
      refine LW.pure rfl rfl (RV.assign rfl) ?_
      refine LW.nil (hK7 _ _ ?_)
      refine CW.seqJ (fun ρ wl2 => (∃ (t9_1 : Int), level_Misfit_k1 t6_1 t9_1 = some res ∧ ρ = [(2, .pointer (some (⟨b2, 0, none⟩))), (3, .int .i64 0), (6, .int .i64 t6_1), (9, .int .i64 t9_1)] ∧ Hp w wl2 [.blk b2 28 [.int .i64 0, .int .i64 0]])) ?_ ?_
      ·
        rintro _ wl2 ⟨t9_1, F, rfl, H⟩
        have R0 := H.ext
        unfold level_Misfit_k1 at F
        refine CW.seq fun K8 hK8 => ?_
        obtain ⟨r1, hr1, F⟩ := bnd_some F
        obtain ⟨r2, hr2, F⟩ := bnd_some F
        refine CW.region ?_
        refine LW.pure rfl rfl (RV.move rfl) ?_
        refine LW.pure rfl rfl (RV.move rfl) ?_
        refine LW.go rfl rfl (OW.call Tc80 rfl (level_ratio_ok (a0 := t9_1) (a1 := t6_1) hr1) ?_)
        rintro _ w5 ⟨rfl, E3⟩
        refine ⟨_, rfl, ?_⟩
        replace H := H.grow E3
        replace R0 := H.ext
        refine LW.pure rfl rfl (RV.move rfl) ?_
        refine LW.pure rfl rfl (RV.build (vs := [.int .i64 t6_1, .int .i64 1]) (cs := [.int .i64 t6_1, .int .i64 1]) rfl (fun _ => by kernel_rfl)) ?_
        refine LW.go rfl rfl (OW.call Tc79 rfl (level_div_ok (a0 := r1) (a1 := (⟨t6_1, 1⟩ : Rat)) hr2) ?_)
        rintro _ w6 ⟨rfl, E4⟩
        refine ⟨_, rfl, ?_⟩
        replace H := H.grow E4
        replace R0 := H.ext
        refine LW.go rfl rfl (OW.store Tk28 rfl rfl (H.blk 0 rfl) (off := 0) (vs := [.int .i64 r2.num, .int .i64 r2.den]) rfl rfl rfl rfl rfl fun w7 S1 => ?_)
        replace H : Hp w w7 [.blk b2 28 [.int .i64 r2.num, .int .i64 r2.den]] := H.stored 0 rfl S1
        replace R0 := H.ext
        refine LW.pure rfl rfl (RV.assign rfl) ?_
        refine LW.nil (hK8 _ _ ?_)
        refine CW.ret ?_
        obtain rfl := Option.some.inj F
        refine ⟨_, (ResOK.two ⟨_, rfl, run_loadVar_agg Tk28 (H.blk 0 rfl).cells (us := [.int .i64 r2.num, .int .i64 r2.den]) rfl rfl⟩ rfl), ?_⟩
        refine ⟨(by first | rfl | simp), R0⟩
      ·
        intro K9 hK9 jK107
        refine CW.seq fun K10 hK10 => ?_
        refine CW.region ?_
        refine LW.pure rfl rfl (RV.move rfl) ?_
        refine LW.pure rfl rfl (RV.len Ts53 rfl) ?_
        refine LW.pure rfl rfl (RV.move rfl) ?_
        refine LW.nil (hK10 _ _ ?_)
        refine CW.block ?_
        refine CW.loop (fun meas ρ wl3 => ∃ (t9_2 : Int) (t39_1 : Int), level_Misfit_L1 a0 r3 t6_1 meas t9_2 t39_1 = some res ∧ ρ = [(1, .pointer (some (⟨b1, 0, none⟩))), (2, .pointer (some (⟨b2, 0, none⟩))), (3, .int .i64 0), (6, .int .i64 t6_1), (9, .int .i64 t9_2), (37, .slice A14_0 r3.length c14_0), (38, .int .i64 ((r3.length : Int))), (39, .int .i64 t39_1)] ∧ Hp w wl3 [.own A14_0 c14_0 28 2 (List.map encRat r3), .blk b1 24 [.int .i64 a0.points, .slice A_a0_readings a0.readings.length c_a0_readings], .blk b2 28 [.int .i64 0, .int .i64 0]]) FU ⟨_, ?_, ((0 : Int)), ((0 : Int)), F, rfl, H⟩ ?_
        · exact ⟨rfl, rfl, rfl, rfl, rfl, (look_slice rfl (by first | rfl | (simp; done) | omega | (simp; omega))), rfl, rfl, trivial⟩
        rintro mk1 _ wl3 ⟨t9_2, t39_1, F, rfl, H⟩
        have R0 := H.ext
        replace F := level_Misfit_L1_s F
        obtain ⟨mk1, rfl, F⟩ := F
        generalize hrec1 : level_Misfit_L1 a0 r3 t6_1 mk1 = rec1 at F
        unfold level_Misfit_B1 at F
        refine CW.seq fun K11 hK11 => ?_
        refine CW.region ?_
        refine LW.pure rfl rfl (RV.lss rfl rfl) ?_
        refine LW.nil (hK11 _ _ ?_)
        refine CW.seq fun K12 hK12 => ?_
        by_cases hp2 : t39_1 < ((r3.length : Int))
        ·
          replace F := ite_y hp2 F
          have hq2 := dec_t hp2
          refine CW.condT rfl hq2 ?_
          refine CW.skip (hK12 _ _ ?_)
          refine CW.seq fun K13 hK13 => ?_
          refine CW.block ?_
          refine CW.seq fun K14 hK14 => ?_
          obtain ⟨x1, hbx1, hx1, F⟩ := ix_some F
          refine CW.region ?_
          refine LW.pure rfl rfl (RV.move rfl) ?_
          refine LW.pure rfl rfl (RV.indexAddr Ts53 rfl rfl hbx1 ((H.own 0 rfl).sl.addr_ hx1)) ?_
          refine LW.pure rfl rfl (RV.loadA [.int .i64 x1.num, .int .i64 x1.den] Tk28 rfl ((H.own 0 rfl).sl.at_ hx1) rfl rfl) ?_
          refine LW.go rfl rfl (OW.alloc Tz28 fun b3 w8 N3 => ?_)
          replace H := H.new N3 N3.blk
          replace R0 := H.ext
          refine LW.pure rfl rfl (RV.assign rfl) ?_
          refine LW.go rfl rfl (OW.store Tk28 rfl rfl (H.blk 0 rfl) (off := 0) (vs := [.int .i64 x1.num, .int .i64 x1.den]) rfl rfl rfl rfl rfl fun w9 S2 => ?_)
          replace H : Hp w w9 [.blk b3 28 [.int .i64 x1.num, .int .i64 x1.den], .own A14_0 c14_0 28 2 (List.map encRat r3), .blk b1 24 [.int .i64 a0.points, .slice A_a0_readings a0.readings.length c_a0_readings], .blk b2 28 [.int .i64 0, .int .i64 0]] := H.stored 0 rfl S2
          replace R0 := H.ext
          refine LW.nil (hK14 _ _ ?_)
          refine CW.seq fun K15 hK15 => ?_
          obtain ⟨hg1, F⟩ := gd_some F
          obtain ⟨hg2, F⟩ := gd_some F
          refine CW.draw [] (fun _ => True) (.cons 0 1 (.cons 1 1 (.cons 2 1 (.cons 3 1 (.cons 4 1 (.cons 5 1 (.cons 6 1 (.cons 7 1 .nil)))))))) mixed (by kernel_rfl) fun w10 E5 => ?_
          replace H := H.grow E5
          replace R0 := H.ext
          refine DW.fix rfl rfl rfl (fun _ EQ => RV.fieldAddr Tf28_0 rfl) ?_
          refine DW.fix rfl rfl rfl (fun _ EQ => RV.load1 Tk3 rfl (((H.grow EQ).blk 0 rfl).cells.off 0) rfl) ?_
          refine DW.fix rfl rfl rfl (fun _ EQ => RV.move rfl) ?_
          refine DW.fix rfl rfl rfl (fun _ EQ => RV.fieldAddr Tf28_1 rfl) ?_
          refine DW.fix rfl rfl rfl (fun _ EQ => RV.load1 Tk3 rfl (((H.grow EQ).blk 0 rfl).cells.off 1) rfl) ?_
          refine DW.fix rfl rfl rfl (fun _ EQ => RV.quo rfl rfl hg1) ?_
          refine DW.fix rfl rfl rfl (fun _ EQ => RV.mul rfl rfl hg2) ?_
          refine DW.fix rfl rfl rfl (fun _ EQ => RV.assign rfl) ?_
          refine DW.nil (hK15 _ _ ?_)
          obtain ⟨x2, hbx2, hx2, F⟩ := ix_some F
          obtain ⟨hg3, F⟩ := gd_some F
          obtain ⟨hg4, F⟩ := gd_some F
          obtain ⟨hg5, F⟩ := gd_some F
          refine CW.region ?_
          refine LW.pure rfl rfl (RV.move rfl) ?_
          refine LW.pure rfl rfl (RV.fieldAddr Tf24_1 rfl) ?_
          refine LW.pure rfl rfl (RV.load1 Tk22 rfl ((H.blk 2 rfl).cells.off 1) rfl) ?_
          refine LW.pure rfl rfl (RV.move rfl) ?_
          refine LW.pure rfl rfl (RV.indexAddr Ts22 rfl rfl hbx2 (h_a0_readings.addr_ hx2)) ?_
          refine LW.pure rfl rfl (RV.fieldAddr Tf46_3 rfl) ?_
          refine LW.pure rfl rfl (RV.load1 Tk3 rfl (((h_a0_readings.at_ hx2).ext R0).off 3) rfl) ?_
          refine LW.pure rfl rfl (RV.move rfl) ?_
          refine LW.pure rfl rfl (RV.mul rfl rfl hg3) ?_
          refine LW.pure rfl rfl (RV.move rfl) ?_
          refine LW.pure rfl rfl (RV.mul rfl rfl hg4) ?_
          refine LW.pure rfl rfl (RV.add rfl rfl hg5) ?_
          refine LW.pure rfl rfl (RV.assign rfl) ?_
          refine LW.nil (hK13 _ _ ?_)
          obtain ⟨hg6, F⟩ := gd_some F
          refine CW.region ?_
          refine LW.pure rfl rfl (RV.add rfl rfl hg6) ?_
          refine LW.pure rfl rfl (RV.move rfl) ?_
          refine LW.nil ?_
          replace H := H.pick (L' := [.own A14_0 c14_0 28 2 (List.map encRat r3), .blk b1 24 [.int .i64 a0.points, .slice A_a0_readings a0.readings.length c_a0_readings], .blk b2 28 [.int .i64 0, .int .i64 0]]) [1, 2, 3] (by decide) rfl
          replace R0 := H.ext
          subst hrec1
          refine ⟨mk1, Nat.lt_succ_self _, _, ?_, (t9_2 + ((x2.weight * (x1.num * (Int.tdiv t6_1 x1.den))) * (x1.num * (Int.tdiv t6_1 x1.den)))), (t39_1 + 1), F, rfl, H⟩
          exact ⟨rfl, rfl, rfl, rfl, rfl, (look_slice rfl (by first | rfl | (simp; done) | omega | (simp; omega))), rfl, rfl, trivial⟩
        ·
          replace F := ite_n hp2 F
          have hq2 := dec_f hp2
          refine CW.condF rfl hq2 ?_
          replace H := H.pick (L' := [.blk b2 28 [.int .i64 0, .int .i64 0]]) [2] (by decide) rfl
          replace R0 := H.ext
          refine CW.exit (jK107 _ _ ⟨_, ?_, ⟨t9_2, F, rfl, H⟩⟩)
          exact ⟨rfl, rfl, rfl, rfl, trivial⟩
    ·
      intro K16 hK16 jK124
      refine CW.seq fun K17 hK17 => ?_
      refine CW.region ?_
      refine LW.pure rfl rfl (RV.move rfl) ?_
      refine LW.pure rfl rfl (RV.len Ts53 rfl) ?_
      refine LW.pure rfl rfl (RV.move rfl) ?_
      refine LW.nil (hK17 _ _ ?_)
      refine CW.block ?_
      replace H := H.pick (L' := [.own A14_0 c14_0 28 2 (List.map encRat r3), .blk b1 24 [.int .i64 a0.points, .slice A_a0_readings a0.readings.length c_a0_readings], .blk b2 28 [.int .i64 0, .int .i64 0]]) [0, 2, 1] (by decide) rfl
      replace R0 := H.ext
      refine CW.loop (fun meas ρ wl4 => ∃ (t6_2 : Int) (t23_1 : Int), level_Misfit_L2 a0 r3 meas t6_2 t23_1 = some res ∧ ρ = [(1, .pointer (some (⟨b1, 0, none⟩))), (2, .pointer (some (⟨b2, 0, none⟩))), (3, .int .i64 0), (5, .slice A14_0 r3.length c14_0), (6, .int .i64 t6_2), (21, .slice A14_0 r3.length c14_0), (22, .int .i64 ((r3.length : Int))), (23, .int .i64 t23_1)] ∧ Hp w wl4 [.own A14_0 c14_0 28 2 (List.map encRat r3), .blk b1 24 [.int .i64 a0.points, .slice A_a0_readings a0.readings.length c_a0_readings], .blk b2 28 [.int .i64 0, .int .i64 0]]) FU ⟨_, ?_, ((1 : Int)), ((0 : Int)), F, rfl, H⟩ ?_
      · exact ⟨rfl, rfl, rfl, (look_slice rfl (by first | rfl | (simp; done) | omega | (simp; omega))), rfl, (look_slice rfl (by first | rfl | (simp; done) | omega | (simp; omega))), rfl, rfl, trivial⟩
      rintro mk2 _ wl4 ⟨t6_2, t23_1, F, rfl, H⟩
      have R0 := H.ext
      replace F := level_Misfit_L2_s F
      obtain ⟨mk2, rfl, F⟩ := F
      generalize hrec2 : level_Misfit_L2 a0 r3 mk2 = rec2 at F
      unfold level_Misfit_B2 at F
      refine CW.seq fun K18 hK18 => ?_
      refine CW.region ?_
      refine LW.pure rfl rfl (RV.lss rfl rfl) ?_
      refine LW.nil (hK18 _ _ ?_)
      refine CW.seq fun K19 hK19 => ?_
      by_cases hp3 : t23_1 < ((r3.length : Int))
      ·
        replace F := ite_y hp3 F
        have hq3 := dec_t hp3
        refine CW.condT rfl hq3 ?_
        refine CW.skip (hK19 _ _ ?_)
        refine CW.seq fun K20 hK20 => ?_
        refine CW.block ?_
        refine CW.seq fun K21 hK21 => ?_
        obtain ⟨x3, hbx3, hx3, F⟩ := ix_some F
        refine CW.region ?_
        refine LW.pure rfl rfl (RV.indexAddr Ts53 rfl rfl hbx3 ((H.own 0 rfl).sl.addr_ hx3)) ?_
        refine LW.pure rfl rfl (RV.loadA [.int .i64 x3.num, .int .i64 x3.den] Tk28 rfl ((H.own 0 rfl).sl.at_ hx3) rfl rfl) ?_
        refine LW.go rfl rfl (OW.alloc Tz28 fun b4 w11 N4 => ?_)
        replace H := H.new N4 N4.blk
        replace R0 := H.ext
        refine LW.go rfl rfl (OW.store Tk28 rfl rfl (H.blk 0 rfl) (off := 0) (vs := [.int .i64 x3.num, .int .i64 x3.den]) rfl rfl rfl rfl rfl fun w12 S3 => ?_)
        replace H : Hp w w12 [.blk b4 28 [.int .i64 x3.num, .int .i64 x3.den], .own A14_0 c14_0 28 2 (List.map encRat r3), .blk b1 24 [.int .i64 a0.points, .slice A_a0_readings a0.readings.length c_a0_readings], .blk b2 28 [.int .i64 0, .int .i64 0]] := H.stored 0 rfl S3
        replace R0 := H.ext
        refine LW.nil (hK21 _ _ ?_)
        obtain ⟨r4, hr4, F⟩ := bnd_some F
        obtain ⟨hg7, F⟩ := gd_some F
        obtain ⟨hg8, F⟩ := gd_some F
        refine CW.draw [] (fun _ => True) (.cons 0 1 (.cons 1 1 (.cons 2 1 (.cons 3 1 (.cons 6 1 (.cons 7 1 (.cons 4 0 (.cons 5 1 (.cons 8 1 (.cons 9 1 .nil)))))))))) mixed (by kernel_rfl) fun w13 E6 => ?_
        replace H := H.grow E6
        replace R0 := H.ext
        refine DW.fix rfl rfl rfl (fun _ EQ => RV.move rfl) ?_
        refine DW.fix rfl rfl rfl (fun _ EQ => RV.move rfl) ?_
        refine DW.fix rfl rfl rfl (fun _ EQ => RV.fieldAddr Tf28_1 rfl) ?_
        refine DW.fix rfl rfl rfl (fun _ EQ => RV.load1 Tk3 rfl (((H.grow EQ).blk 0 rfl).cells.off 1) rfl) ?_
        refine DW.fix rfl rfl rfl (fun _ EQ => RV.fieldAddr Tf28_1 rfl) ?_
        refine DW.fix rfl rfl rfl (fun _ EQ => RV.load1 Tk3 rfl (((H.grow EQ).blk 0 rfl).cells.off 1) rfl) ?_
        refine DW.sole rfl rfl rfl (OW.call Tc78 rfl (level_gcd_ok (a0 := t6_2) (a1 := x3.den) hr4) ?_)
        rintro _ w14 ⟨rfl, E7⟩
        refine ⟨_, rfl, fun _ => E7, ModX.ext E7, ?_⟩
        replace H := H.grow E7
        replace R0 := H.ext
        refine DW.fix rfl rfl rfl (fun _ EQ => RV.quo rfl rfl hg7) ?_
        refine DW.fix rfl rfl rfl (fun _ EQ => RV.mul rfl rfl hg8) ?_
        refine DW.fix rfl rfl rfl (fun _ EQ => RV.assign rfl) ?_
        refine DW.nil (hK20 _ _ ?_)
        obtain ⟨hg9, F⟩ := gd_some F
        refine CW.region ?_
        refine LW.pure rfl rfl (RV.add rfl rfl hg9) ?_
        refine LW.pure rfl rfl (RV.move rfl) ?_
        refine LW.nil ?_
        replace H := H.pick (L' := [.own A14_0 c14_0 28 2 (List.map encRat r3), .blk b1 24 [.int .i64 a0.points, .slice A_a0_readings a0.readings.length c_a0_readings], .blk b2 28 [.int .i64 0, .int .i64 0]]) [1, 2, 3] (by decide) rfl
        replace R0 := H.ext
        subst hrec2
        refine ⟨mk2, Nat.lt_succ_self _, _, ?_, ((Int.tdiv t6_2 r4) * x3.den), (t23_1 + 1), F, rfl, H⟩
        exact ⟨rfl, rfl, rfl, (look_slice rfl (by first | rfl | (simp; done) | omega | (simp; omega))), rfl, (look_slice rfl (by first | rfl | (simp; done) | omega | (simp; omega))), rfl, rfl, trivial⟩
      ·
        replace F := ite_n hp3 F
        have hq3 := dec_f hp3
        refine CW.condF rfl hq3 ?_
        refine CW.exit (jK124 _ _ ⟨_, ?_, ⟨t6_2, F, rfl, H⟩⟩)
        exact ⟨rfl, rfl, rfl, (look_slice rfl (by first | rfl | (simp; done) | omega | (simp; omega))), rfl, trivial⟩
  ·
    replace F := ite_n hp1 F
    have hq1 := dec_f hp1
    refine CW.condT rfl (not_t hq1) ?_
    refine CW.seq fun K22 hK22 => ?_
    refine CW.region ?_
    refine LW.pure rfl rfl (RV.build (vs := []) (cs := [.int .i64 0, .int .i64 0]) rfl (fun _ => by kernel_rfl)) ?_
    refine LW.pure rfl rfl (RV.move rfl) ?_
    refine LW.go rfl rfl (OW.store Tk28 rfl rfl (H.blk 0 rfl) (off := 0) (vs := [.int .i64 0, .int .i64 0]) rfl rfl rfl rfl rfl fun w15 S4 => ?_)
    replace H : Hp w w15 [.blk b2 28 [.int .i64 0, .int .i64 0], .blk b1 24 [.int .i64 a0.points, .slice A_a0_readings a0.readings.length c_a0_readings]] := H.stored 0 rfl S4
    replace R0 := H.ext
    refine LW.pure rfl rfl (RV.assign rfl) ?_
    refine LW.nil (hK22 _ _ ?_)
    refine CW.ret ?_
    obtain rfl := Option.some.inj F
    refine ⟨_, (ResOK.two ⟨_, rfl, run_loadVar_agg Tk28 (H.blk 0 rfl).cells (us := [.int .i64 0, .int .i64 0]) rfl rfl⟩ rfl), ?_⟩
    refine ⟨(by first | rfl | simp), R0⟩
end Go.D1

set_option linter.unusedVariables false
set_option linter.unusedSimpArgs false
namespace Go.D1
open Go.Tb Go.Proofs Go.RowKit
theorem Tc91 : callable Try.prog 91 = true := by kernel_rfl
set_option maxRecDepth 20000 in
set_option maxHeartbeats 1000000 in
theorem level_Raise_1_ok {a0 : Int} {w : World} {res : Bool} (F : level_Raise_1 a0 = some res) : Calls Try.prog 91 #[.int .i64 a0] w (Rt w (.bool res)) := by
  refine calls_of_cw (args := [.int .i64 a0]) Try.func91 rfl rfl rfl rfl ?_
  have H := Hp.start w
  have R0 := H.ext
  unfold level_Raise_1 at F
  refine CW.seq fun K1 hK1 => ?_
  refine CW.region ?_
  refine LW.pure rfl rfl (RV.assign rfl) ?_
  refine LW.nil (hK1 _ _ ?_)
  refine CW.seq fun K2 hK2 => ?_
  obtain ⟨r1, hr1, F⟩ := bnd_some F
  refine CW.region ?_
  refine LW.pure rfl rfl (RV.move rfl) ?_
  refine LW.go rfl rfl (OW.call Tc61 rfl (level_within_ok (a0 := a0) (a1 := (-1000 : Int)) (a2 := (1000 : Int)) hr1) ?_)
  rintro _ w1 ⟨rfl, E1⟩
  refine ⟨_, rfl, ?_⟩
  replace H := H.grow E1
  replace R0 := H.ext
  refine LW.pure rfl rfl (RV.not rfl) ?_
  refine LW.pure rfl rfl (RV.assign rfl) ?_
  refine LW.nil (hK2 _ _ ?_)
  refine CW.ret ?_
  obtain rfl := Option.some.inj F
  refine ⟨_, (ResOK.one rfl), ?_⟩
  refine ⟨(by first | rfl | simp), R0⟩
set_option maxRecDepth 20000 in
set_option maxHeartbeats 1000000 in
theorem level_Raise_ok {a0 : Survey} {a1 : List Int} {A_a0_readings : Option Addr} {c_a0_readings : Nat} {A_a1 : Option Addr} {c_a1 : Nat} {w : World} {res : Survey × Int} (h_a0_readings : Sl w A_a0_readings c_a0_readings 4 (a0.readings.map encReading)) (h_a1 : Sl w A_a1 c_a1 1 (a1.map encN)) (F : level_Raise a0 a1 = some res) : Calls Try.prog 57 #[.agg #[.int .i64 a0.points, .slice A_a0_readings a0.readings.length c_a0_readings], .slice A_a1 a1.length c_a1] w (fun e w' => ∃ (A0_readings : Option Addr) (c0_readings : Nat), e = .returned (.tuple #[.agg #[.int .i64 res.1.points, .slice A0_readings res.1.readings.length c0_readings], .int .i64 res.2]) ∧ Hp w w' [.own A0_readings c0_readings 46 4 (List.map encReading res.1.readings)]) := by
  refine calls_of_cw (args := [.agg #[.int .i64 a0.points, .slice A_a0_readings a0.readings.length c_a0_readings], .slice A_a1 a1.length c_a1]) Try.func57 rfl rfl rfl rfl ?_
  have H := Hp.start w
  have R0 := H.ext
  unfold level_Raise at F
  refine CW.seq fun K1 hK1 => ?_
  refine CW.region ?_
  refine LW.go rfl rfl (OW.box rfl fun b1 w1 N1 => ?_)
  replace H := H.new N1 N1.blk
  replace R0 := H.ext
  refine LW.go rfl rfl (OW.alloc Tz24 fun b2 w2 N2 => ?_)
  replace H := H.new N2 N2.blk
  replace R0 := H.ext
  refine LW.pure rfl rfl (RV.assign rfl) ?_
  refine LW.nil (hK1 _ _ ?_)
  refine CW.seq fun K2 hK2 => ?_
  refine CW.seq fun K3 hK3 => ?_
  obtain ⟨r3, hr3, F⟩ := bnd_some F
  refine CW.region ?_
  refine LW.pure rfl rfl (RV.loadA [.int .i64 a0.points, .slice A_a0_readings a0.readings.length c_a0_readings] Tk24 rfl (H.blk 1 rfl).cells rfl rfl) ?_
  refine LW.go rfl rfl (OW.call Tc25 rfl (level_Validate_ok (a0 := a0) (h_a0_readings.ext R0) hr3) ?_)
  rintro _ w3 ⟨rfl, E1⟩
  refine ⟨_, rfl, ?_⟩
  replace H := H.grow E1
  replace R0 := H.ext
  refine LW.pure rfl rfl (RV.assign rfl) ?_
  refine LW.nil (hK3 _ _ ?_)
  refine CW.seq fun K4 hK4 => ?_
  refine CW.region ?_
  refine LW.pure rfl rfl (RV.move rfl) ?_
  refine LW.pure rfl rfl (RV.nei rfl rfl) ?_
  refine LW.nil (hK4 _ _ ?_)
  by_cases hp1 : r3 = 0
  ·
    replace F := ite_y hp1 F
    have hq1 := dec_t hp1
    refine CW.condF rfl (not_f hq1) ?_
    refine CW.skip (hK2 _ _ ?_)
    refine CW.seq fun K5 hK5 => ?_
    refine CW.seqJ (fun ρ wl1 => (∃ (t24_1 : Bool), level_Raise_k3 a0 a1 t24_1 = some res ∧ ρ = [(1, .slice A_a1 a1.length c_a1), (2, .pointer (some (⟨b1, 0, none⟩))), (4, .pointer (some (⟨b2, 0, none⟩))), (5, .int .i64 0), (24, .bool t24_1)] ∧ Hp w wl1 [.blk b1 24 [.int .i64 a0.points, .slice A_a0_readings a0.readings.length c_a0_readings], .blk b2 24 [.int .i64 0, .slice none 0 0]])) ?_ ?_
    ·
      rintro _ wl1 ⟨t24_1, F, rfl, H⟩
      have R0 := H.ext
      unfold level_Raise_k3 at F
      by_cases hp2 : t24_1 = true
      ·
        replace F := ite_y hp2 F
        have hq2 : t24_1 = true := hp2
        refine CW.condT rfl hq2 ?_
        refine CW.seq fun K6 hK6 => ?_
        refine CW.region ?_
        refine LW.pure rfl rfl (RV.build (vs := []) (cs := [.int .i64 0, .slice none 0 0]) rfl (fun _ => by kernel_rfl)) ?_
        refine LW.go rfl rfl (OW.store Tk24 rfl rfl (H.blk 1 rfl) (off := 0) (vs := [.int .i64 0, .slice none 0 0]) rfl rfl rfl rfl rfl fun w4 S1 => ?_)
        replace H : Hp w w4 [.blk b1 24 [.int .i64 a0.points, .slice A_a0_readings a0.readings.length c_a0_readings], .blk b2 24 [.int .i64 0, .slice none 0 0]] := H.stored 1 rfl S1
        replace R0 := H.ext
        refine LW.pure rfl rfl (RV.assign rfl) ?_
        refine LW.nil (hK6 _ _ ?_)
        refine CW.ret ?_
        obtain rfl := Option.some.inj F
        refine ⟨_, (ResOK.two ⟨_, rfl, run_loadVar_agg Tk24 (H.blk 1 rfl).cells (us := [.int .i64 0, .slice none 0 0]) rfl rfl⟩ rfl), ?_⟩
        replace H := H.nilOwn 46 4
        replace R0 := H.ext
        replace H := H.pick (L' := [.own none 0 46 4 (List.map encReading (([] : List Reading)))]) [0] (by decide) rfl
        replace R0 := H.ext
        exact ⟨none, 0, (by first | rfl | (simp; done) | (simp; omega)), H⟩
      ·
        replace F := ite_n hp2 F
        have hq2 : t24_1 = false := raw_f hp2
        refine CW.condF rfl hq2 ?_
        refine CW.skip (hK5 _ _ ?_)
        refine CW.seqJ (fun ρ wl2 => (∃ (l2 : List Reading) (bk1 : Nat) (Al2 : Option Addr) (cl2 : Nat), level_Raise_k2 a0 a1 l2 = some res ∧ ρ = [(1, .slice A_a1 a1.length c_a1), (4, .pointer (some (⟨b2, 0, none⟩))), (5, .int .i64 0), (7, .pointer (some (⟨bk1, 0, none⟩)))] ∧ Hp w wl2 [.own Al2 cl2 46 4 (List.map encReading l2), .blk b2 24 [.int .i64 0, .slice none 0 0], .blk bk1 24 [.int .i64 a0.points, .slice Al2 l2.length cl2]])) ?_ ?_
        ·
          rintro _ wl2 ⟨l2, bk1, Al2, cl2, F, rfl, H⟩
          have R0 := H.ext
          unfold level_Raise_k2 at F
          refine CW.seqJ (fun ρ wl3 => (∃ (l1 : List Reading), level_Raise_k1 a0 l1 = some res ∧ ρ = [(4, .pointer (some (⟨b2, 0, none⟩))), (5, .int .i64 0), (7, .pointer (some (⟨bk1, 0, none⟩)))] ∧ Hp w wl3 [.own Al2 cl2 46 4 (List.map encReading l1), .blk b2 24 [.int .i64 0, .slice none 0 0], .blk bk1 24 [.int .i64 a0.points, .slice Al2 l1.length cl2]])) ?_ ?_
          ·
            rintro _ wl3 ⟨l1, F, rfl, H⟩
            have R0 := H.ext
            unfold level_Raise_k1 at F
            refine CW.seq fun K7 hK7 => ?_
            refine CW.region ?_
            refine LW.pure rfl rfl (RV.loadA [.int .i64 a0.points, .slice Al2 l1.length cl2] Tk24 rfl (H.blk 2 rfl).cells rfl rfl) ?_
            refine LW.go rfl rfl (OW.store Tk24 rfl rfl (H.blk 1 rfl) (off := 0) (vs := [.int .i64 a0.points, .slice Al2 l1.length cl2]) rfl rfl rfl rfl rfl fun w5 S2 => ?_)
            replace H : Hp w w5 [.own Al2 cl2 46 4 (List.map encReading l1), .blk b2 24 [.int .i64 a0.points, .slice Al2 l1.length cl2], .blk bk1 24 [.int .i64 a0.points, .slice Al2 l1.length cl2]] := H.stored 1 rfl S2
            replace R0 := H.ext
            refine LW.pure rfl rfl (RV.assign rfl) ?_
            refine LW.nil (hK7 _ _ ?_)
            refine CW.ret ?_
            obtain rfl := Option.some.inj F
            refine ⟨_, (ResOK.two ⟨_, rfl, run_loadVar_agg Tk24 (H.blk 1 rfl).cells (us := [.int .i64 a0.points, .slice Al2 l1.length cl2]) rfl rfl⟩ rfl), ?_⟩
            replace H := H.pick (L' := [.own Al2 cl2 46 4 (List.map encReading l1)]) [0] (by decide) rfl
            replace R0 := H.ext
            exact ⟨Al2, cl2, (by first | rfl | (simp; done) | (simp; omega)), H⟩
          ·
            intro K8 hK8 jK85
            refine CW.seq fun K9 hK9 => ?_
            refine CW.region ?_
            refine LW.pure rfl rfl (RV.fieldAddr Tf24_1 rfl) ?_
            refine LW.pure rfl rfl (RV.load1 Tk22 rfl ((H.blk 2 rfl).cells.off 1) rfl) ?_
            refine LW.pure rfl rfl (RV.len Ts22 rfl) ?_
            refine LW.pure rfl rfl (RV.move rfl) ?_
            refine LW.nil (hK9 _ _ ?_)
            refine CW.block ?_
            refine CW.loop (fun meas ρ wl4 => ∃ (t35_1 : Int) (l3 : List Reading), level_Raise_L1 a0 a1 l2 meas t35_1 l3 = some res ∧ ρ = [(1, .slice A_a1 a1.length c_a1), (4, .pointer (some (⟨b2, 0, none⟩))), (5, .int .i64 0), (7, .pointer (some (⟨bk1, 0, none⟩))), (33, .slice Al2 l3.length cl2), (34, .int .i64 ((l2.length : Int))), (35, .int .i64 t35_1)] ∧ Hp w wl4 [.own Al2 cl2 46 4 (List.map encReading l3), .blk b2 24 [.int .i64 0, .slice none 0 0], .blk bk1 24 [.int .i64 a0.points, .slice Al2 l3.length cl2]]) FU ⟨_, ?_, ((0 : Int)), l2, F, rfl, H⟩ ?_
            · exact ⟨rfl, rfl, rfl, rfl, (look_slice rfl (by first | rfl | (simp; done) | omega | (simp; omega))), rfl, rfl, trivial⟩
            rintro mk1 _ wl4 ⟨t35_1, l3, F, rfl, H⟩
            have R0 := H.ext
            replace F := level_Raise_L1_s F
            obtain ⟨mk1, rfl, F⟩ := F
            generalize hrec1 : level_Raise_L1 a0 a1 l2 mk1 = rec1 at F
            unfold level_Raise_B1 at F
            refine CW.seq fun K10 hK10 => ?_
            refine CW.region ?_
            refine LW.pure rfl rfl (RV.lss rfl rfl) ?_
            refine LW.nil (hK10 _ _ ?_)
            refine CW.seq fun K11 hK11 => ?_
            by_cases hp3 : t35_1 < ((l2.length : Int))
            ·
              replace F := ite_y hp3 F
              have hq3 := dec_t hp3
              refine CW.condT rfl hq3 ?_
              refine CW.skip (hK11 _ _ ?_)
              refine CW.seq fun K12 hK12 => ?_
              refine CW.block ?_
              refine CW.seq fun K13 hK13 => ?_
              obtain ⟨x1, hbx1, hx1, F⟩ := ix_some F
              refine CW.region ?_
              refine LW.pure rfl rfl (RV.move rfl) ?_
              refine LW.pure rfl rfl (RV.indexAddr Ts22 rfl rfl hbx1 ((H.own 0 rfl).sl.addr_ hx1)) ?_
              refine LW.pure rfl rfl (RV.loadA [.int .i64 x1.from_, .int .i64 x1.to_, .int .i64 x1.rise, .int .i64 x1.weight] Tk46 rfl ((H.own 0 rfl).sl.at_ hx1) rfl rfl) ?_
              refine LW.go rfl rfl (OW.alloc Tz46 fun b3 w6 N3 => ?_)
              replace H := H.new N3 N3.blk
              replace R0 := H.ext
              refine LW.pure rfl rfl (RV.assign rfl) ?_
              refine LW.go rfl rfl (OW.store Tk46 rfl rfl (H.blk 0 rfl) (off := 0) (vs := [.int .i64 x1.from_, .int .i64 x1.to_, .int .i64 x1.rise, .int .i64 x1.weight]) rfl rfl rfl rfl rfl fun w7 S3 => ?_)
              replace H : Hp w w7 [.blk b3 46 [.int .i64 x1.from_, .int .i64 x1.to_, .int .i64 x1.rise, .int .i64 x1.weight], .own Al2 cl2 46 4 (List.map encReading l3), .blk b2 24 [.int .i64 0, .slice none 0 0], .blk bk1 24 [.int .i64 a0.points, .slice Al2 l3.length cl2]] := H.stored 0 rfl S3
              replace R0 := H.ext
              refine LW.nil (hK13 _ _ ?_)
              refine CW.seq fun K14 hK14 => ?_
              obtain ⟨x2, hbx2, hx2, F⟩ := ix_some F
              obtain ⟨x3, hbx3, hx3, F⟩ := ix_some F
              obtain ⟨x4, hbx4, hx4, F⟩ := ix_some F
              obtain ⟨hg1, F⟩ := gd_some F
              obtain ⟨hg2, F⟩ := gd_some F
              obtain ⟨x5, hbx5, hx5, F⟩ := ix_some F
              refine CW.draw [20] (fun _ => True) (.cons 0 1 (.cons 1 1 (.cons 2 1 (.cons 3 1 (.cons 4 1 (.cons 5 1 (.cons 6 1 (.cons 7 1 (.cons 8 1 (.cons 9 1 (.cons 10 1 (.cons 11 1 (.cons 12 1 (.cons 13 1 (.cons 14 1 (.cons 15 1 (.cons 16 1 (.cons 17 1 (.cons 18 2 (.cons 19 1 (.cons 20 0 .nil))))))))))))))))))))) mixed (by kernel_rfl) fun w8 E2 => ?_
              replace H := H.grow E2
              replace R0 := H.ext
              refine DW.fix rfl rfl rfl (fun _ EQ => RV.fieldAddr Tf24_1 rfl) ?_
              refine DW.fix rfl rfl rfl (fun _ EQ => RV.load1 Tk22 rfl (((H.grow EQ).blk 3 rfl).cells.off 1) rfl) ?_
              refine DW.fix rfl rfl rfl (fun _ EQ => RV.move rfl) ?_
              refine DW.fix rfl rfl rfl (fun _ EQ => RV.indexAddr Ts22 rfl rfl hbx2 ((H.own 1 rfl).sl.addr_ hx2)) ?_
              refine DW.fix rfl rfl rfl (fun _ EQ => RV.fieldAddr Tf46_2 rfl) ?_
              refine DW.fix rfl rfl rfl (fun _ EQ => RV.load1 Tk3 rfl ((((H.grow EQ).own 1 rfl).sl.at_ hx2).off 2) rfl) ?_
              refine DW.fix rfl rfl rfl (fun _ EQ => RV.move rfl) ?_
              refine DW.fix rfl rfl rfl (fun _ EQ => RV.fieldAddr Tf46_1 rfl) ?_
              refine DW.fix rfl rfl rfl (fun _ EQ => RV.load1 Tk3 rfl (((H.grow EQ).blk 0 rfl).cells.off 1) rfl) ?_
              refine DW.fix rfl rfl rfl (fun _ EQ => RV.indexAddr Ts39 rfl rfl hbx3 (h_a1.addr_ hx3)) ?_
              refine DW.fix rfl rfl rfl (fun _ EQ => RV.load1 Tk3 rfl ((h_a1.at_ hx3).ext (R0.trans EQ)) rfl) ?_
              refine DW.fix rfl rfl rfl (fun _ EQ => RV.move rfl) ?_
              refine DW.fix rfl rfl rfl (fun _ EQ => RV.fieldAddr Tf46_0 rfl) ?_
              refine DW.fix rfl rfl rfl (fun _ EQ => RV.load1 Tk3 rfl (((H.grow EQ).blk 0 rfl).cells.off 0) rfl) ?_
              refine DW.fix rfl rfl rfl (fun _ EQ => RV.indexAddr Ts39 rfl rfl hbx4 (h_a1.addr_ hx4)) ?_
              refine DW.fix rfl rfl rfl (fun _ EQ => RV.load1 Tk3 rfl ((h_a1.at_ hx4).ext (R0.trans EQ)) rfl) ?_
              refine DW.fix rfl rfl rfl (fun _ EQ => RV.sub rfl rfl hg1) ?_
              refine DW.fix rfl rfl rfl (fun _ EQ => RV.add rfl rfl hg2) ?_
              refine DW.thru rfl rfl rfl (fun _ EQ => RV.indexAddr Ts22 rfl rfl hbx5 ((H.own 1 rfl).sl.addr_ hx5)) ?_
              refine DW.fix rfl rfl rfl (fun _ EQ => RV.fieldAddr Tf46_2 rfl) ?_
              refine DW.sole rfl rfl rfl (OW.storeO (enc := encReading) (vs := [.int .i64 (x2.rise + (x3 - x4))]) 2 ((⟨x5.from_, x5.to_, x2.rise + (x3 - x4), x5.weight⟩ : Reading)) Tk3 rfl rfl (H.own 1 rfl) (fun _ => rfl) rfl hx5 rfl rfl (by decide) rfl rfl fun w9 M1 O1 => ?_)
              refine ⟨fun h => absurd h (by decide), M1.modx (fun _ _ => trivial), ?_⟩
              replace H : Hp w w9 [.blk b3 46 [.int .i64 x1.from_, .int .i64 x1.to_, .int .i64 x1.rise, .int .i64 x1.weight], .own Al2 cl2 46 4 (List.map encReading ((l3.set (Int.toNat t35_1) ((⟨x5.from_, x5.to_, x2.rise + (x3 - x4), x5.weight⟩ : Reading))))), .blk b2 24 [.int .i64 0, .slice none 0 0], .blk bk1 24 [.int .i64 a0.points, .slice Al2 l3.length cl2]] := H.mod 1 rfl M1 O1 (.inl rfl)
              replace R0 := H.ext
              refine DW.nil (hK14 _ _ ?_)
              refine CW.seq fun K15 hK15 => ?_
              obtain ⟨x6, hbx6, hx6, F⟩ := ix_some F
              obtain ⟨r1, hr1, F⟩ := bnd_some F
              refine CW.region ?_
              refine LW.pure rfl rfl (RV.fieldAddr Tf24_1 rfl) ?_
              refine LW.pure rfl rfl (RV.load1 Tk22 rfl ((H.blk 3 rfl).cells.off 1) rfl) ?_
              refine LW.pure rfl rfl (RV.move rfl) ?_
              refine LW.pure rfl rfl (RV.indexAddr Ts22 rfl rfl (by first | exact hbx6 | (simp at hbx6 ⊢; omega)) ((H.own 1 rfl).sl.addr_ hx6)) ?_
              refine LW.pure rfl rfl (RV.fieldAddr Tf46_2 rfl) ?_
              refine LW.pure rfl rfl (RV.load1 Tk3 rfl (((H.own 1 rfl).sl.at_ hx6).off 2) rfl) ?_
              refine LW.go rfl rfl (OW.call Tc61 rfl (level_within_ok (a0 := x6.rise) (a1 := (-1000 : Int)) (a2 := (1000 : Int)) hr1) ?_)
              rintro _ w10 ⟨rfl, E3⟩
              refine ⟨_, rfl, ?_⟩
              replace H := H.grow E3
              replace R0 := H.ext
              refine LW.pure rfl rfl (RV.not rfl) ?_
              refine LW.nil (hK15 _ _ ?_)
              by_cases hp4 : r1 = true
              ·
                replace F := ite_y hp4 F
                have hq4 : r1 = true := hp4
                refine CW.condF rfl (not_f hq4) ?_
                refine CW.skip (hK12 _ _ ?_)
                obtain ⟨hg3, F⟩ := gd_some F
                refine CW.region ?_
                refine LW.pure rfl rfl (RV.add rfl rfl hg3) ?_
                refine LW.pure rfl rfl (RV.move rfl) ?_
                refine LW.nil ?_
                replace H := H.pick (L' := [.own Al2 cl2 46 4 (List.map encReading ((l3.set (Int.toNat t35_1) ((⟨x5.from_, x5.to_, x2.rise + (x3 - x4), x5.weight⟩ : Reading))))), .blk b2 24 [.int .i64 0, .slice none 0 0], .blk bk1 24 [.int .i64 a0.points, .slice Al2 l3.length cl2]]) [1, 2, 3] (by decide) rfl
                replace R0 := H.ext
                have hce1 : l3.length = ((l3.set (Int.toNat t35_1) ((⟨x5.from_, x5.to_, x2.rise + (x3 - x4), x5.weight⟩ : Reading)))).length := by first | omega | (simp; done) | (simp; omega) | rfl | assumption
                replace H := H.cast (L' := [.own Al2 cl2 46 4 (List.map encReading ((l3.set (Int.toNat t35_1) ((⟨x5.from_, x5.to_, x2.rise + (x3 - x4), x5.weight⟩ : Reading))))), .blk b2 24 [.int .i64 0, .slice none 0 0], .blk bk1 24 [.int .i64 a0.points, .slice Al2 (((l3.set (Int.toNat t35_1) ((⟨x5.from_, x5.to_, x2.rise + (x3 - x4), x5.weight⟩ : Reading)))).length) cl2]]) (by first | (rw [hce1]; done) | simp [hce1] | rfl)
                subst hrec1
                refine ⟨mk1, Nat.lt_succ_self _, _, ?_, (t35_1 + 1), ((l3.set (Int.toNat t35_1) ((⟨x5.from_, x5.to_, x2.rise + (x3 - x4), x5.weight⟩ : Reading)))), F, rfl, H⟩
                exact ⟨rfl, rfl, rfl, rfl, (look_slice rfl (by first | rfl | (simp; done) | omega | (simp; omega))), rfl, rfl, trivial⟩
              ·
                replace F := ite_n hp4 F
                have hq4 : r1 = false := raw_f hp4
                refine CW.condT rfl (not_t hq4) ?_
                refine CW.seq fun K16 hK16 => ?_
                refine CW.region ?_
                refine LW.pure rfl rfl (RV.build (vs := []) (cs := [.int .i64 0, .slice none 0 0]) rfl (fun _ => by kernel_rfl)) ?_
                refine LW.go rfl rfl (OW.store Tk24 rfl rfl (H.blk 2 rfl) (off := 0) (vs := [.int .i64 0, .slice none 0 0]) rfl rfl rfl rfl rfl fun w11 S4 => ?_)
                replace H : Hp w w11 [.blk b3 46 [.int .i64 x1.from_, .int .i64 x1.to_, .int .i64 x1.rise, .int .i64 x1.weight], .own Al2 cl2 46 4 (List.map encReading ((l3.set (Int.toNat t35_1) ((⟨x5.from_, x5.to_, x2.rise + (x3 - x4), x5.weight⟩ : Reading))))), .blk b2 24 [.int .i64 0, .slice none 0 0], .blk bk1 24 [.int .i64 a0.points, .slice Al2 l3.length cl2]] := H.stored 2 rfl S4
                replace R0 := H.ext
                refine LW.pure rfl rfl (RV.assign rfl) ?_
                refine LW.nil (hK16 _ _ ?_)
                refine CW.ret ?_
                obtain rfl := Option.some.inj F
                refine ⟨_, (ResOK.two ⟨_, rfl, run_loadVar_agg Tk24 (H.blk 2 rfl).cells (us := [.int .i64 0, .slice none 0 0]) rfl rfl⟩ rfl), ?_⟩
                replace H := H.nilOwn 46 4
                replace R0 := H.ext
                replace H := H.pick (L' := [.own none 0 46 4 (List.map encReading (([] : List Reading)))]) [0] (by decide) rfl
                replace R0 := H.ext
                exact ⟨none, 0, (by first | rfl | (simp; done) | (simp; omega)), H⟩
            ·
              replace F := ite_n hp3 F
              have hq3 := dec_f hp3
              refine CW.condF rfl hq3 ?_
              refine CW.exit (jK85 _ _ ⟨_, ?_, ⟨l3, F, rfl, H⟩⟩)
              exact ⟨rfl, rfl, rfl, trivial⟩
        ·
          intro K17 hK17 jK108
          obtain ⟨r2, hr2, F⟩ := bnd_some F
          refine CW.draw [7] (fun _ => True) (.cons 0 1 (.cons 1 1 (.cons 2 1 (.cons 3 1 (.alt 4 (.cons 5 1 (.cons 6 0 (.cons 7 0 .nil))) (.cons 6 0 (.cons 4 0 (.cons 5 1 (.cons 7 0 .nil))))))))) mixed (by kernel_rfl) fun w12 E4 => ?_
          replace H := H.grow E4
          replace R0 := H.ext
          refine DW.fix rfl rfl rfl (fun _ EQ => RV.fieldAddr Tf24_0 rfl) ?_
          refine DW.fix rfl rfl rfl (fun _ EQ => RV.load1 Tk3 rfl (((H.grow EQ).blk 0 rfl).cells.off 0) rfl) ?_
          refine DW.fix rfl rfl rfl (fun _ EQ => RV.fieldAddr Tf24_1 rfl) ?_
          refine DW.fix rfl rfl rfl (fun _ EQ => RV.load1 Tk22 rfl (((H.grow EQ).blk 0 rfl).cells.off 1) rfl) ?_
          refine DW.alt ?_ ?_
          ·
            refine DW.sole rfl rfl rfl (OW.call Tc70 rfl (slices_Clone_Reading_ok (a0 := a0.readings) (h_a0_readings.ext R0) hr2) ?_)
            rintro _ w13 ⟨A24_0, c24_0, rfl, E5⟩
            refine ⟨_, rfl, fun _ => E5.ext, ModX.ext E5.ext, ?_⟩
            replace H : Hp w w13 [.own A24_0 c24_0 46 4 (List.map encReading r2), .blk b1 24 [.int .i64 a0.points, .slice A_a0_readings a0.readings.length c_a0_readings], .blk b2 24 [.int .i64 0, .slice none 0 0]] := H.append E5
            replace R0 := H.ext
            refine DW.fix rfl rfl rfl (fun _ EQ => RV.build (vs := [.int .i64 a0.points, .slice A24_0 r2.length c24_0]) (cs := [.int .i64 a0.points, .slice A24_0 r2.length c24_0]) rfl (fun _ => by kernel_rfl)) ?_
            refine DW.sole rfl rfl rfl (OW.alloc Tz24 fun b4 w14 N4 => ?_)
            refine ⟨fun _ => N4.ext, ModX.ext N4.ext, ?_⟩
            replace H := H.new N4 N4.blk
            replace R0 := H.ext
            refine DW.sole rfl rfl rfl (OW.store Tk24 rfl rfl (H.blk 0 rfl) (off := 0) (vs := [.int .i64 a0.points, .slice A24_0 r2.length c24_0]) rfl rfl rfl rfl rfl fun w15 S5 => ?_)
            refine ⟨fun h => absurd h (by decide), S5.modx trivial, ?_⟩
            replace H : Hp w w15 [.blk b4 24 [.int .i64 a0.points, .slice A24_0 r2.length c24_0], .own A24_0 c24_0 46 4 (List.map encReading r2), .blk b1 24 [.int .i64 a0.points, .slice A_a0_readings a0.readings.length c_a0_readings], .blk b2 24 [.int .i64 0, .slice none 0 0]] := H.stored 0 rfl S5
            replace R0 := H.ext
            replace H := H.pick (L' := [.own A24_0 c24_0 46 4 (List.map encReading r2), .blk b2 24 [.int .i64 0, .slice none 0 0], .blk b4 24 [.int .i64 a0.points, .slice A24_0 r2.length c24_0]]) [1, 3, 0] (by decide) rfl
            replace R0 := H.ext
            refine DW.nil (jK108 _ _ ⟨_, ?_, ⟨r2, b4, A24_0, c24_0, F, rfl, H⟩⟩)
            exact ⟨rfl, rfl, rfl, rfl, trivial⟩
          ·
            refine DW.sole rfl rfl rfl (OW.alloc Tz24 fun b5 w16 N5 => ?_)
            refine ⟨fun _ => N5.ext, ModX.ext N5.ext, ?_⟩
            replace H := H.new N5 N5.blk
            replace R0 := H.ext
            refine DW.sole rfl rfl rfl (OW.call Tc70 rfl (slices_Clone_Reading_ok (a0 := a0.readings) (h_a0_readings.ext R0) hr2) ?_)
            rintro _ w17 ⟨A25_0, c25_0, rfl, E6⟩
            refine ⟨_, rfl, fun _ => E6.ext, ModX.ext E6.ext, ?_⟩
            replace H : Hp w w17 [.own A25_0 c25_0 46 4 (List.map encReading r2), .blk b5 24 [.int .i64 0, .slice none 0 0], .blk b1 24 [.int .i64 a0.points, .slice A_a0_readings a0.readings.length c_a0_readings], .blk b2 24 [.int .i64 0, .slice none 0 0]] := H.append E6
            replace R0 := H.ext
            refine DW.fix rfl rfl rfl (fun _ EQ => RV.build (vs := [.int .i64 a0.points, .slice A25_0 r2.length c25_0]) (cs := [.int .i64 a0.points, .slice A25_0 r2.length c25_0]) rfl (fun _ => by kernel_rfl)) ?_
            refine DW.sole rfl rfl rfl (OW.store Tk24 rfl rfl (H.blk 1 rfl) (off := 0) (vs := [.int .i64 a0.points, .slice A25_0 r2.length c25_0]) rfl rfl rfl rfl rfl fun w18 S6 => ?_)
            refine ⟨fun h => absurd h (by decide), S6.modx trivial, ?_⟩
            replace H : Hp w w18 [.own A25_0 c25_0 46 4 (List.map encReading r2), .blk b5 24 [.int .i64 a0.points, .slice A25_0 r2.length c25_0], .blk b1 24 [.int .i64 a0.points, .slice A_a0_readings a0.readings.length c_a0_readings], .blk b2 24 [.int .i64 0, .slice none 0 0]] := H.stored 1 rfl S6
            replace R0 := H.ext
            replace H := H.pick (L' := [.own A25_0 c25_0 46 4 (List.map encReading r2), .blk b2 24 [.int .i64 0, .slice none 0 0], .blk b5 24 [.int .i64 a0.points, .slice A25_0 r2.length c25_0]]) [0, 3, 1] (by decide) rfl
            replace R0 := H.ext
            refine DW.nil (jK108 _ _ ⟨_, ?_, ⟨r2, b5, A25_0, c25_0, F, rfl, H⟩⟩)
            exact ⟨rfl, rfl, rfl, rfl, trivial⟩
    ·
      intro K18 hK18 jK109
      by_cases hp5 : ((a1.length : Int)) = a0.points
      ·
        replace F := ite_y hp5 F
        have hq5 := dec_t hp5
        obtain ⟨r4, hr4, F⟩ := bnd_some F
        refine CW.region ?_
        refine LW.pure rfl rfl (RV.move rfl) ?_
        refine LW.pure rfl rfl (RV.len Ts39 rfl) ?_
        refine LW.pure rfl rfl (RV.fieldAddr Tf24_0 rfl) ?_
        refine LW.pure rfl rfl (RV.load1 Tk3 rfl ((H.blk 1 rfl).cells.off 0) rfl) ?_
        refine LW.pure rfl rfl (RV.nei rfl rfl) ?_
        refine LW.pure rfl rfl (RV.move rfl) ?_
        refine LW.pureYB rfl rfl rfl rfl (not_f hq5) (RV.move rfl) ?_
        refine LW.yesB rfl rfl rfl rfl (not_f hq5) (OW.call Tc81 rfl (slices_ContainsFunc_int_ok (a0 := a1) (a1 := level_Raise_1) (h_a1.ext R0) (fun x7 r hF w19 hE => CallsV.of Tc91 (level_Raise_1_ok (a0 := x7) hF)) hr4) ?_)
        rintro _ w20 ⟨rfl, E7⟩
        refine ⟨_, rfl, ?_⟩
        replace H := H.grow E7
        replace R0 := H.ext
        refine LW.pure rfl rfl (RV.pickFB rfl (not_f hq5) rfl) ?_
        replace H := H.pick (L' := [.blk b1 24 [.int .i64 a0.points, .slice A_a0_readings a0.readings.length c_a0_readings], .blk b2 24 [.int .i64 0, .slice none 0 0]]) [1, 0] (by decide) rfl
        replace R0 := H.ext
        refine LW.nil (jK109 _ _ ⟨_, ?_, ⟨r4, F, rfl, H⟩⟩)
        exact ⟨rfl, rfl, rfl, rfl, rfl, trivial⟩
      ·
        replace F := ite_n hp5 F
        have hq5 := dec_f hp5
        refine CW.region ?_
        refine LW.pure rfl rfl (RV.move rfl) ?_
        refine LW.pure rfl rfl (RV.len Ts39 rfl) ?_
        refine LW.pure rfl rfl (RV.fieldAddr Tf24_0 rfl) ?_
        refine LW.pure rfl rfl (RV.load1 Tk3 rfl ((H.blk 1 rfl).cells.off 0) rfl) ?_
        refine LW.pure rfl rfl (RV.nei rfl rfl) ?_
        refine LW.pure rfl rfl (RV.move rfl) ?_
        refine LW.noB rfl rfl rfl rfl (ne_beq (v := true) (not_t hq5) rfl) ?_
        refine LW.noB rfl rfl rfl rfl (ne_beq (v := true) (not_t hq5) rfl) ?_
        refine LW.pure rfl rfl (RV.pickTB rfl (not_t hq5) rfl) ?_
        replace H := H.pick (L' := [.blk b1 24 [.int .i64 a0.points, .slice A_a0_readings a0.readings.length c_a0_readings], .blk b2 24 [.int .i64 0, .slice none 0 0]]) [1, 0] (by decide) rfl
        replace R0 := H.ext
        refine LW.nil (jK109 _ _ ⟨_, ?_, ⟨true, F, rfl, H⟩⟩)
        exact ⟨rfl, rfl, rfl, rfl, rfl, trivial⟩
  ·
    replace F := ite_n hp1 F
    have hq1 := dec_f hp1
    refine CW.condT rfl (not_t hq1) ?_
    refine CW.seq fun K19 hK19 => ?_
    refine CW.region ?_
    refine LW.pure rfl rfl (RV.build (vs := []) (cs := [.int .i64 0, .slice none 0 0]) rfl (fun _ => by kernel_rfl)) ?_
    refine LW.pure rfl rfl (RV.move rfl) ?_
    refine LW.go rfl rfl (OW.store Tk24 rfl rfl (H.blk 0 rfl) (off := 0) (vs := [.int .i64 0, .slice none 0 0]) rfl rfl rfl rfl rfl fun w21 S7 => ?_)
    replace H : Hp w w21 [.blk b2 24 [.int .i64 0, .slice none 0 0], .blk b1 24 [.int .i64 a0.points, .slice A_a0_readings a0.readings.length c_a0_readings]] := H.stored 0 rfl S7
    replace R0 := H.ext
    refine LW.pure rfl rfl (RV.assign rfl) ?_
    refine LW.nil (hK19 _ _ ?_)
    refine CW.ret ?_
    obtain rfl := Option.some.inj F
    refine ⟨_, (ResOK.two ⟨_, rfl, run_loadVar_agg Tk24 (H.blk 0 rfl).cells (us := [.int .i64 0, .slice none 0 0]) rfl rfl⟩ rfl), ?_⟩
    replace H := H.nilOwn 46 4
    replace R0 := H.ext
    replace H := H.pick (L' := [.own none 0 46 4 (List.map encReading (([] : List Reading)))]) [0] (by decide) rfl
    replace R0 := H.ext
    exact ⟨none, 0, (by first | rfl | (simp; done) | (simp; omega)), H⟩
set_option maxRecDepth 20000 in
set_option maxHeartbeats 1000000 in
theorem ref01_Raise_ok {a0 : Survey} {a1 : List Int} {A_a0_readings : Option Addr} {c_a0_readings : Nat} {A_a1 : Option Addr} {c_a1 : Nat} {w : World} {res : Survey × Int} (h_a0_readings : Sl w A_a0_readings c_a0_readings 4 (a0.readings.map encReading)) (h_a1 : Sl w A_a1 c_a1 1 (a1.map encN)) (F : ref01_Raise a0 a1 = some res) : Calls Try.prog 58 #[.agg #[.int .i64 a0.points, .slice A_a0_readings a0.readings.length c_a0_readings], .slice A_a1 a1.length c_a1] w (fun e w' => ∃ (A0_readings : Option Addr) (c0_readings : Nat), e = .returned (.tuple #[.agg #[.int .i64 res.1.points, .slice A0_readings res.1.readings.length c0_readings], .int .i64 res.2]) ∧ Hp w w' [.own A0_readings c0_readings 46 4 (List.map encReading res.1.readings)]) := by
  refine calls_of_cw (args := [.agg #[.int .i64 a0.points, .slice A_a0_readings a0.readings.length c_a0_readings], .slice A_a1 a1.length c_a1]) Try.func58 rfl rfl rfl rfl ?_
  have H := Hp.start w
  have R0 := H.ext
  unfold ref01_Raise at F
  refine CW.seq fun K1 hK1 => ?_
  refine CW.region ?_
  refine LW.go rfl rfl (OW.box rfl fun b1 w1 N1 => ?_)
  replace H := H.new N1 N1.blk
  replace R0 := H.ext
  refine LW.go rfl rfl (OW.alloc Tz24 fun b2 w2 N2 => ?_)
  replace H := H.new N2 N2.blk
  replace R0 := H.ext
  refine LW.pure rfl rfl (RV.assign rfl) ?_
  refine LW.nil (hK1 _ _ ?_)
  refine CW.seq fun K2 hK2 => ?_
  refine CW.seq fun K3 hK3 => ?_
  obtain ⟨r4, hr4, F⟩ := bnd_some F
  refine CW.region ?_
  refine LW.pure rfl rfl (RV.loadA [.int .i64 a0.points, .slice A_a0_readings a0.readings.length c_a0_readings] Tk24 rfl (H.blk 1 rfl).cells rfl rfl) ?_
  refine LW.go rfl rfl (OW.call Tc26 rfl (ref01_Validate_ok (a0 := a0) (h_a0_readings.ext R0) hr4) ?_)
  rintro _ w3 ⟨rfl, E1⟩
  refine ⟨_, rfl, ?_⟩
  replace H := H.grow E1
  replace R0 := H.ext
  refine LW.pure rfl rfl (RV.assign rfl) ?_
  refine LW.nil (hK3 _ _ ?_)
  refine CW.seq fun K4 hK4 => ?_
  refine CW.region ?_
  refine LW.pure rfl rfl (RV.move rfl) ?_
  refine LW.pure rfl rfl (RV.nei rfl rfl) ?_
  refine LW.nil (hK4 _ _ ?_)
  by_cases hp1 : r4 = 0
  ·
    replace F := ite_y hp1 F
    have hq1 := dec_t hp1
    refine CW.condF rfl (not_f hq1) ?_
    refine CW.skip (hK2 _ _ ?_)
    refine CW.seq fun K5 hK5 => ?_
    refine CW.seq fun K6 hK6 => ?_
    refine CW.region ?_
    refine LW.pure rfl rfl (RV.move rfl) ?_
    refine LW.pure rfl rfl (RV.len Ts39 rfl) ?_
    refine LW.pure rfl rfl (RV.fieldAddr Tf24_0 rfl) ?_
    refine LW.pure rfl rfl (RV.load1 Tk3 rfl ((H.blk 1 rfl).cells.off 0) rfl) ?_
    refine LW.pure rfl rfl (RV.nei rfl rfl) ?_
    refine LW.nil (hK6 _ _ ?_)
    by_cases hp2 : ((a1.length : Int)) = a0.points
    ·
      replace F := ite_y hp2 F
      have hq2 := dec_t hp2
      refine CW.condF rfl (not_f hq2) ?_
      refine CW.skip (hK5 _ _ ?_)
      refine CW.seqJ (fun ρ wl1 => (ref01_Raise_k2 a0 a1 = some res ∧ ρ = [(1, .slice A_a1 a1.length c_a1), (2, .pointer (some (⟨b1, 0, none⟩))), (4, .pointer (some (⟨b2, 0, none⟩))), (5, .int .i64 0)] ∧ Hp w wl1 [.blk b1 24 [.int .i64 a0.points, .slice A_a0_readings a0.readings.length c_a0_readings], .blk b2 24 [.int .i64 0, .slice none 0 0]])) ?_ ?_
      ·
        rintro _ wl1 ⟨F, rfl, H⟩
        have R0 := H.ext
        unfold ref01_Raise_k2 at F
        refine CW.seq fun K7 hK7 => ?_
        obtain ⟨r1, hr1, F⟩ := bnd_some F
        refine CW.region ?_
        refine LW.pure rfl rfl (RV.loadA [.int .i64 a0.points, .slice A_a0_readings a0.readings.length c_a0_readings] Tk24 rfl (H.blk 0 rfl).cells rfl rfl) ?_
        refine LW.go rfl rfl (OW.call Tc46 rfl (ref01_Copy_ok (a0 := a0) (h_a0_readings.ext R0) hr1) ?_)
        rintro _ w4 ⟨A21_0_readings, c21_0_readings, rfl, E2⟩
        refine ⟨_, rfl, ?_⟩
        replace H : Hp w w4 [.own A21_0_readings c21_0_readings 46 4 (List.map encReading r1.readings), .blk b1 24 [.int .i64 a0.points, .slice A_a0_readings a0.readings.length c_a0_readings], .blk b2 24 [.int .i64 0, .slice none 0 0]] := H.append E2
        replace R0 := H.ext
        refine LW.go rfl rfl (OW.alloc Tz24 fun b3 w5 N3 => ?_)
        replace H := H.new N3 N3.blk
        replace R0 := H.ext
        refine LW.go rfl rfl (OW.store Tk24 rfl rfl (H.blk 0 rfl) (off := 0) (vs := [.int .i64 r1.points, .slice A21_0_readings r1.readings.length c21_0_readings]) rfl rfl rfl rfl rfl fun w6 S1 => ?_)
        replace H : Hp w w6 [.blk b3 24 [.int .i64 r1.points, .slice A21_0_readings r1.readings.length c21_0_readings], .own A21_0_readings c21_0_readings 46 4 (List.map encReading r1.readings), .blk b1 24 [.int .i64 a0.points, .slice A_a0_readings a0.readings.length c_a0_readings], .blk b2 24 [.int .i64 0, .slice none 0 0]] := H.stored 0 rfl S1
        replace R0 := H.ext
        refine LW.nil (hK7 _ _ ?_)
        refine CW.seqJ (fun ρ wl2 => (∃ (l1 : List Reading), ref01_Raise_k1 r1 l1 = some res ∧ ρ = [(4, .pointer (some (⟨b2, 0, none⟩))), (5, .int .i64 0), (8, .pointer (some (⟨b3, 0, none⟩)))] ∧ Hp w wl2 [.own A21_0_readings c21_0_readings 46 4 (List.map encReading l1), .blk b2 24 [.int .i64 0, .slice none 0 0], .blk b3 24 [.int .i64 r1.points, .slice A21_0_readings l1.length c21_0_readings]])) ?_ ?_
        ·
          rintro _ wl2 ⟨l1, F, rfl, H⟩
          have R0 := H.ext
          unfold ref01_Raise_k1 at F
          refine CW.seq fun K8 hK8 => ?_
          refine CW.region ?_
          refine LW.pure rfl rfl (RV.loadA [.int .i64 r1.points, .slice A21_0_readings l1.length c21_0_readings] Tk24 rfl (H.blk 2 rfl).cells rfl rfl) ?_
          refine LW.go rfl rfl (OW.store Tk24 rfl rfl (H.blk 1 rfl) (off := 0) (vs := [.int .i64 r1.points, .slice A21_0_readings l1.length c21_0_readings]) rfl rfl rfl rfl rfl fun w7 S2 => ?_)
          replace H : Hp w w7 [.own A21_0_readings c21_0_readings 46 4 (List.map encReading l1), .blk b2 24 [.int .i64 r1.points, .slice A21_0_readings l1.length c21_0_readings], .blk b3 24 [.int .i64 r1.points, .slice A21_0_readings l1.length c21_0_readings]] := H.stored 1 rfl S2
          replace R0 := H.ext
          refine LW.pure rfl rfl (RV.assign rfl) ?_
          refine LW.nil (hK8 _ _ ?_)
          refine CW.ret ?_
          obtain rfl := Option.some.inj F
          refine ⟨_, (ResOK.two ⟨_, rfl, run_loadVar_agg Tk24 (H.blk 1 rfl).cells (us := [.int .i64 r1.points, .slice A21_0_readings l1.length c21_0_readings]) rfl rfl⟩ rfl), ?_⟩
          replace H := H.pick (L' := [.own A21_0_readings c21_0_readings 46 4 (List.map encReading l1)]) [0] (by decide) rfl
          replace R0 := H.ext
          exact ⟨A21_0_readings, c21_0_readings, (by first | rfl | (simp; done) | (simp; omega)), H⟩
        ·
          intro K9 hK9 jK135
          refine CW.seq fun K10 hK10 => ?_
          refine CW.region ?_
          refine LW.pure rfl rfl (RV.assign rfl) ?_
          refine LW.nil (hK10 _ _ ?_)
          refine CW.block ?_
          replace H := H.pick (L' := [.own A21_0_readings c21_0_readings 46 4 (List.map encReading r1.readings), .blk b2 24 [.int .i64 0, .slice none 0 0], .blk b3 24 [.int .i64 r1.points, .slice A21_0_readings r1.readings.length c21_0_readings]]) [1, 3, 0] (by decide) rfl
          replace R0 := H.ext
          refine CW.loop (fun meas ρ wl3 => ∃ (t9_1 : Int) (l2 : List Reading), ref01_Raise_L1 a1 r1 meas t9_1 l2 = some res ∧ ρ = [(1, .slice A_a1 a1.length c_a1), (4, .pointer (some (⟨b2, 0, none⟩))), (5, .int .i64 0), (8, .pointer (some (⟨b3, 0, none⟩))), (9, .int .i64 t9_1)] ∧ Hp w wl3 [.own A21_0_readings c21_0_readings 46 4 (List.map encReading l2), .blk b2 24 [.int .i64 0, .slice none 0 0], .blk b3 24 [.int .i64 r1.points, .slice A21_0_readings l2.length c21_0_readings]]) FU ⟨_, ?_, ((0 : Int)), r1.readings, F, rfl, H⟩ ?_
          · exact ⟨rfl, rfl, rfl, rfl, rfl, trivial⟩
          rintro mk1 _ wl3 ⟨t9_1, l2, F, rfl, H⟩
          have R0 := H.ext
          replace F := ref01_Raise_L1_s F
          obtain ⟨mk1, rfl, F⟩ := F
          generalize hrec1 : ref01_Raise_L1 a1 r1 mk1 = rec1 at F
          unfold ref01_Raise_B1 at F
          refine CW.seq fun K11 hK11 => ?_
          refine CW.seq fun K12 hK12 => ?_
          refine CW.region ?_
          refine LW.pure rfl rfl (RV.move rfl) ?_
          refine LW.pure rfl rfl (RV.fieldAddr Tf24_1 rfl) ?_
          refine LW.pure rfl rfl (RV.load1 Tk22 rfl ((H.blk 2 rfl).cells.off 1) rfl) ?_
          refine LW.pure rfl rfl (RV.len Ts22 rfl) ?_
          refine LW.pure rfl rfl (RV.lss rfl rfl) ?_
          refine LW.nil (hK12 _ _ ?_)
          by_cases hp3 : t9_1 < ((l2.length : Int))
          ·
            replace F := ite_y hp3 F
            have hq3 := dec_t hp3
            refine CW.condT rfl hq3 ?_
            refine CW.skip (hK11 _ _ ?_)
            refine CW.seq fun K13 hK13 => ?_
            refine CW.block ?_
            refine CW.seq fun K14 hK14 => ?_
            obtain ⟨x1, hbx1, hx1, F⟩ := ix_some F
            refine CW.region ?_
            refine LW.pure rfl rfl (RV.fieldAddr Tf24_1 rfl) ?_
            refine LW.pure rfl rfl (RV.load1 Tk22 rfl ((H.blk 2 rfl).cells.off 1) rfl) ?_
            refine LW.pure rfl rfl (RV.move rfl) ?_
            refine LW.pure rfl rfl (RV.indexAddr Ts22 rfl rfl hbx1 ((H.own 0 rfl).sl.addr_ hx1)) ?_
            refine LW.pure rfl rfl (RV.loadA [.int .i64 x1.from_, .int .i64 x1.to_, .int .i64 x1.rise, .int .i64 x1.weight] Tk46 rfl ((H.own 0 rfl).sl.at_ hx1) rfl rfl) ?_
            refine LW.go rfl rfl (OW.alloc Tz46 fun b4 w8 N4 => ?_)
            replace H := H.new N4 N4.blk
            replace R0 := H.ext
            refine LW.go rfl rfl (OW.store Tk46 rfl rfl (H.blk 0 rfl) (off := 0) (vs := [.int .i64 x1.from_, .int .i64 x1.to_, .int .i64 x1.rise, .int .i64 x1.weight]) rfl rfl rfl rfl rfl fun w9 S3 => ?_)
            replace H : Hp w w9 [.blk b4 46 [.int .i64 x1.from_, .int .i64 x1.to_, .int .i64 x1.rise, .int .i64 x1.weight], .own A21_0_readings c21_0_readings 46 4 (List.map encReading l2), .blk b2 24 [.int .i64 0, .slice none 0 0], .blk b3 24 [.int .i64 r1.points, .slice A21_0_readings l2.length c21_0_readings]] := H.stored 0 rfl S3
            replace R0 := H.ext
            refine LW.nil (hK14 _ _ ?_)
            refine CW.seq fun K15 hK15 => ?_
            obtain ⟨x2, hbx2, hx2, F⟩ := ix_some F
            obtain ⟨hg1, F⟩ := gd_some F
            obtain ⟨x3, hbx3, hx3, F⟩ := ix_some F
            obtain ⟨hg2, F⟩ := gd_some F
            obtain ⟨x4, hbx4, hx4, F⟩ := ix_some F
            refine CW.draw [19] (fun _ => True) (.cons 0 1 (.cons 1 1 (.cons 2 1 (.cons 3 1 (.cons 4 1 (.cons 5 1 (.cons 6 1 (.cons 7 1 (.cons 8 1 (.cons 9 1 (.cons 10 1 (.cons 11 1 (.cons 12 1 (.cons 13 1 (.cons 14 1 (.cons 15 1 (.cons 16 1 (.cons 17 2 (.cons 18 1 (.cons 19 0 .nil)))))))))))))))))))) mixed (by kernel_rfl) fun w10 E3 => ?_
            replace H := H.grow E3
            replace R0 := H.ext
            refine DW.fix rfl rfl rfl (fun _ EQ => RV.fieldAddr Tf24_1 rfl) ?_
            refine DW.fix rfl rfl rfl (fun _ EQ => RV.load1 Tk22 rfl (((H.grow EQ).blk 3 rfl).cells.off 1) rfl) ?_
            refine DW.fix rfl rfl rfl (fun _ EQ => RV.move rfl) ?_
            refine DW.fix rfl rfl rfl (fun _ EQ => RV.fieldAddr Tf46_2 rfl) ?_
            refine DW.fix rfl rfl rfl (fun _ EQ => RV.load1 Tk3 rfl (((H.grow EQ).blk 0 rfl).cells.off 2) rfl) ?_
            refine DW.fix rfl rfl rfl (fun _ EQ => RV.move rfl) ?_
            refine DW.fix rfl rfl rfl (fun _ EQ => RV.fieldAddr Tf46_1 rfl) ?_
            refine DW.fix rfl rfl rfl (fun _ EQ => RV.load1 Tk3 rfl (((H.grow EQ).blk 0 rfl).cells.off 1) rfl) ?_
            refine DW.fix rfl rfl rfl (fun _ EQ => RV.indexAddr Ts39 rfl rfl hbx2 (h_a1.addr_ hx2)) ?_
            refine DW.fix rfl rfl rfl (fun _ EQ => RV.load1 Tk3 rfl ((h_a1.at_ hx2).ext (R0.trans EQ)) rfl) ?_
            refine DW.fix rfl rfl rfl (fun _ EQ => RV.add rfl rfl hg1) ?_
            refine DW.fix rfl rfl rfl (fun _ EQ => RV.move rfl) ?_
            refine DW.fix rfl rfl rfl (fun _ EQ => RV.fieldAddr Tf46_0 rfl) ?_
            refine DW.fix rfl rfl rfl (fun _ EQ => RV.load1 Tk3 rfl (((H.grow EQ).blk 0 rfl).cells.off 0) rfl) ?_
            refine DW.fix rfl rfl rfl (fun _ EQ => RV.indexAddr Ts39 rfl rfl hbx3 (h_a1.addr_ hx3)) ?_
            refine DW.fix rfl rfl rfl (fun _ EQ => RV.load1 Tk3 rfl ((h_a1.at_ hx3).ext (R0.trans EQ)) rfl) ?_
            refine DW.fix rfl rfl rfl (fun _ EQ => RV.sub rfl rfl hg2) ?_
            refine DW.thru rfl rfl rfl (fun _ EQ => RV.indexAddr Ts22 rfl rfl hbx4 ((H.own 1 rfl).sl.addr_ hx4)) ?_
            refine DW.fix rfl rfl rfl (fun _ EQ => RV.fieldAddr Tf46_2 rfl) ?_
            refine DW.sole rfl rfl rfl (OW.storeO (enc := encReading) (vs := [.int .i64 ((x1.rise + x2) - x3)]) 2 ((⟨x4.from_, x4.to_, (x1.rise + x2) - x3, x4.weight⟩ : Reading)) Tk3 rfl rfl (H.own 1 rfl) (fun _ => rfl) rfl hx4 rfl rfl (by decide) rfl rfl fun w11 M1 O1 => ?_)
            refine ⟨fun h => absurd h (by decide), M1.modx (fun _ _ => trivial), ?_⟩
            replace H : Hp w w11 [.blk b4 46 [.int .i64 x1.from_, .int .i64 x1.to_, .int .i64 x1.rise, .int .i64 x1.weight], .own A21_0_readings c21_0_readings 46 4 (List.map encReading ((l2.set (Int.toNat t9_1) ((⟨x4.from_, x4.to_, (x1.rise + x2) - x3, x4.weight⟩ : Reading))))), .blk b2 24 [.int .i64 0, .slice none 0 0], .blk b3 24 [.int .i64 r1.points, .slice A21_0_readings l2.length c21_0_readings]] := H.mod 1 rfl M1 O1 (.inl rfl)
            replace R0 := H.ext
            refine DW.nil (hK15 _ _ ?_)
            refine CW.seq fun K16 hK16 => ?_
            obtain ⟨x5, hbx5, hx5, F⟩ := ix_some F
            obtain ⟨r2, hr2, F⟩ := bnd_some F
            refine CW.region ?_
            refine LW.pure rfl rfl (RV.fieldAddr Tf24_1 rfl) ?_
            refine LW.pure rfl rfl (RV.load1 Tk22 rfl ((H.blk 3 rfl).cells.off 1) rfl) ?_
            refine LW.pure rfl rfl (RV.move rfl) ?_
            refine LW.pure rfl rfl (RV.indexAddr Ts22 rfl rfl (by first | exact hbx5 | (simp at hbx5 ⊢; omega)) ((H.own 1 rfl).sl.addr_ hx5)) ?_
            refine LW.pure rfl rfl (RV.fieldAddr Tf46_2 rfl) ?_
            refine LW.pure rfl rfl (RV.load1 Tk3 rfl (((H.own 1 rfl).sl.at_ hx5).off 2) rfl) ?_
            refine LW.go rfl rfl (OW.call Tc69 rfl (ref01_within_ok (a0 := x5.rise) (a1 := (-1000 : Int)) (a2 := (1000 : Int)) hr2) ?_)
            rintro _ w12 ⟨rfl, E4⟩
            refine ⟨_, rfl, ?_⟩
            replace H := H.grow E4
            replace R0 := H.ext
            refine LW.pure rfl rfl (RV.not rfl) ?_
            refine LW.nil (hK16 _ _ ?_)
            by_cases hp4 : r2 = true
            ·
              replace F := ite_y hp4 F
              have hq4 : r2 = true := hp4
              refine CW.condF rfl (not_f hq4) ?_
              refine CW.skip (hK13 _ _ ?_)
              obtain ⟨hg3, F⟩ := gd_some F
              refine CW.region ?_
              refine LW.pure rfl rfl (RV.move rfl) ?_
              refine LW.pure rfl rfl (RV.add rfl rfl hg3) ?_
              refine LW.pure rfl rfl (RV.assign rfl) ?_
              refine LW.nil ?_
              replace H := H.pick (L' := [.own A21_0_readings c21_0_readings 46 4 (List.map encReading ((l2.set (Int.toNat t9_1) ((⟨x4.from_, x4.to_, (x1.rise + x2) - x3, x4.weight⟩ : Reading))))), .blk b2 24 [.int .i64 0, .slice none 0 0], .blk b3 24 [.int .i64 r1.points, .slice A21_0_readings l2.length c21_0_readings]]) [1, 2, 3] (by decide) rfl
              replace R0 := H.ext
              have hce1 : l2.length = ((l2.set (Int.toNat t9_1) ((⟨x4.from_, x4.to_, (x1.rise + x2) - x3, x4.weight⟩ : Reading)))).length := by first | omega | (simp; done) | (simp; omega) | rfl | assumption
              replace H := H.cast (L' := [.own A21_0_readings c21_0_readings 46 4 (List.map encReading ((l2.set (Int.toNat t9_1) ((⟨x4.from_, x4.to_, (x1.rise + x2) - x3, x4.weight⟩ : Reading))))), .blk b2 24 [.int .i64 0, .slice none 0 0], .blk b3 24 [.int .i64 r1.points, .slice A21_0_readings (((l2.set (Int.toNat t9_1) ((⟨x4.from_, x4.to_, (x1.rise + x2) - x3, x4.weight⟩ : Reading)))).length) c21_0_readings]]) (by first | (rw [hce1]; done) | simp [hce1] | rfl)
              subst hrec1
              refine ⟨mk1, Nat.lt_succ_self _, _, ?_, (t9_1 + 1), ((l2.set (Int.toNat t9_1) ((⟨x4.from_, x4.to_, (x1.rise + x2) - x3, x4.weight⟩ : Reading)))), F, rfl, H⟩
              exact ⟨rfl, rfl, rfl, rfl, rfl, trivial⟩
            ·
              replace F := ite_n hp4 F
              have hq4 : r2 = false := raw_f hp4
              refine CW.condT rfl (not_t hq4) ?_
              refine CW.seq fun K17 hK17 => ?_
              refine CW.region ?_
              refine LW.pure rfl rfl (RV.build (vs := []) (cs := [.int .i64 0, .slice none 0 0]) rfl (fun _ => by kernel_rfl)) ?_
              refine LW.go rfl rfl (OW.store Tk24 rfl rfl (H.blk 2 rfl) (off := 0) (vs := [.int .i64 0, .slice none 0 0]) rfl rfl rfl rfl rfl fun w13 S4 => ?_)
              replace H : Hp w w13 [.blk b4 46 [.int .i64 x1.from_, .int .i64 x1.to_, .int .i64 x1.rise, .int .i64 x1.weight], .own A21_0_readings c21_0_readings 46 4 (List.map encReading ((l2.set (Int.toNat t9_1) ((⟨x4.from_, x4.to_, (x1.rise + x2) - x3, x4.weight⟩ : Reading))))), .blk b2 24 [.int .i64 0, .slice none 0 0], .blk b3 24 [.int .i64 r1.points, .slice A21_0_readings l2.length c21_0_readings]] := H.stored 2 rfl S4
              replace R0 := H.ext
              refine LW.pure rfl rfl (RV.assign rfl) ?_
              refine LW.nil (hK17 _ _ ?_)
              refine CW.ret ?_
              obtain rfl := Option.some.inj F
              refine ⟨_, (ResOK.two ⟨_, rfl, run_loadVar_agg Tk24 (H.blk 2 rfl).cells (us := [.int .i64 0, .slice none 0 0]) rfl rfl⟩ rfl), ?_⟩
              replace H := H.nilOwn 46 4
              replace R0 := H.ext
              replace H := H.pick (L' := [.own none 0 46 4 (List.map encReading (([] : List Reading)))]) [0] (by decide) rfl
              replace R0 := H.ext
              exact ⟨none, 0, (by first | rfl | (simp; done) | (simp; omega)), H⟩
          ·
            replace F := ite_n hp3 F
            have hq3 := dec_f hp3
            refine CW.condF rfl hq3 ?_
            refine CW.exit (jK135 _ _ ⟨_, ?_, ⟨l2, F, rfl, H⟩⟩)
            exact ⟨rfl, rfl, rfl, trivial⟩
      ·
        intro K18 hK18 jK158
        refine CW.seq fun K19 hK19 => ?_
        refine CW.region ?_
        refine LW.pure rfl rfl (RV.assign rfl) ?_
        refine LW.nil (hK19 _ _ ?_)
        refine CW.block ?_
        replace H := H.pick (L' := [.blk b1 24 [.int .i64 a0.points, .slice A_a0_readings a0.readings.length c_a0_readings], .blk b2 24 [.int .i64 0, .slice none 0 0]]) [1, 0] (by decide) rfl
        replace R0 := H.ext
        refine CW.loop (fun meas ρ wl4 => ∃ (t7_1 : Int), ref01_Raise_L2 a0 a1 meas t7_1 = some res ∧ ρ = [(1, .slice A_a1 a1.length c_a1), (2, .pointer (some (⟨b1, 0, none⟩))), (4, .pointer (some (⟨b2, 0, none⟩))), (5, .int .i64 0), (7, .int .i64 t7_1)] ∧ Hp w wl4 [.blk b1 24 [.int .i64 a0.points, .slice A_a0_readings a0.readings.length c_a0_readings], .blk b2 24 [.int .i64 0, .slice none 0 0]]) FU ⟨_, ?_, ((0 : Int)), F, rfl, H⟩ ?_
        · exact ⟨rfl, rfl, rfl, rfl, rfl, trivial⟩
        rintro mk2 _ wl4 ⟨t7_1, F, rfl, H⟩
        have R0 := H.ext
        replace F := ref01_Raise_L2_s F
        obtain ⟨mk2, rfl, F⟩ := F
        generalize hrec2 : ref01_Raise_L2 a0 a1 mk2 = rec2 at F
        unfold ref01_Raise_B2 at F
        refine CW.seq fun K20 hK20 => ?_
        refine CW.seq fun K21 hK21 => ?_
        refine CW.region ?_
        refine LW.pure rfl rfl (RV.move rfl) ?_
        refine LW.pure rfl rfl (RV.move rfl) ?_
        refine LW.pure rfl rfl (RV.len Ts39 rfl) ?_
        refine LW.pure rfl rfl (RV.lss rfl rfl) ?_
        refine LW.nil (hK21 _ _ ?_)
        by_cases hp5 : t7_1 < ((a1.length : Int))
        ·
          replace F := ite_y hp5 F
          have hq5 := dec_t hp5
          refine CW.condT rfl hq5 ?_
          refine CW.skip (hK20 _ _ ?_)
          refine CW.seq fun K22 hK22 => ?_
          refine CW.block ?_
          refine CW.seq fun K23 hK23 => ?_
          obtain ⟨x6, hbx6, hx6, F⟩ := ix_some F
          obtain ⟨r3, hr3, F⟩ := bnd_some F
          refine CW.region ?_
          refine LW.pure rfl rfl (RV.move rfl) ?_
          refine LW.pure rfl rfl (RV.move rfl) ?_
          refine LW.pure rfl rfl (RV.indexAddr Ts39 rfl rfl hbx6 (h_a1.addr_ hx6)) ?_
          refine LW.pure rfl rfl (RV.load1 Tk3 rfl ((h_a1.at_ hx6).ext R0) rfl) ?_
          refine LW.go rfl rfl (OW.call Tc69 rfl (ref01_within_ok (a0 := x6) (a1 := (-1000 : Int)) (a2 := (1000 : Int)) hr3) ?_)
          rintro _ w14 ⟨rfl, E5⟩
          refine ⟨_, rfl, ?_⟩
          replace H := H.grow E5
          replace R0 := H.ext
          refine LW.pure rfl rfl (RV.not rfl) ?_
          refine LW.nil (hK23 _ _ ?_)
          by_cases hp6 : r3 = true
          ·
            replace F := ite_y hp6 F
            have hq6 : r3 = true := hp6
            refine CW.condF rfl (not_f hq6) ?_
            refine CW.skip (hK22 _ _ ?_)
            obtain ⟨hg4, F⟩ := gd_some F
            refine CW.region ?_
            refine LW.pure rfl rfl (RV.move rfl) ?_
            refine LW.pure rfl rfl (RV.add rfl rfl hg4) ?_
            refine LW.pure rfl rfl (RV.assign rfl) ?_
            refine LW.nil ?_
            subst hrec2
            refine ⟨mk2, Nat.lt_succ_self _, _, ?_, (t7_1 + 1), F, rfl, H⟩
            exact ⟨rfl, rfl, rfl, rfl, rfl, trivial⟩
          ·
            replace F := ite_n hp6 F
            have hq6 : r3 = false := raw_f hp6
            refine CW.condT rfl (not_t hq6) ?_
            refine CW.seq fun K24 hK24 => ?_
            refine CW.region ?_
            refine LW.pure rfl rfl (RV.build (vs := []) (cs := [.int .i64 0, .slice none 0 0]) rfl (fun _ => by kernel_rfl)) ?_
            refine LW.go rfl rfl (OW.store Tk24 rfl rfl (H.blk 1 rfl) (off := 0) (vs := [.int .i64 0, .slice none 0 0]) rfl rfl rfl rfl rfl fun w15 S5 => ?_)
            replace H : Hp w w15 [.blk b1 24 [.int .i64 a0.points, .slice A_a0_readings a0.readings.length c_a0_readings], .blk b2 24 [.int .i64 0, .slice none 0 0]] := H.stored 1 rfl S5
            replace R0 := H.ext
            refine LW.pure rfl rfl (RV.assign rfl) ?_
            refine LW.nil (hK24 _ _ ?_)
            refine CW.ret ?_
            obtain rfl := Option.some.inj F
            refine ⟨_, (ResOK.two ⟨_, rfl, run_loadVar_agg Tk24 (H.blk 1 rfl).cells (us := [.int .i64 0, .slice none 0 0]) rfl rfl⟩ rfl), ?_⟩
            replace H := H.nilOwn 46 4
            replace R0 := H.ext
            replace H := H.pick (L' := [.own none 0 46 4 (List.map encReading (([] : List Reading)))]) [0] (by decide) rfl
            replace R0 := H.ext
            exact ⟨none, 0, (by first | rfl | (simp; done) | (simp; omega)), H⟩
        ·
          replace F := ite_n hp5 F
          have hq5 := dec_f hp5
          refine CW.condF rfl hq5 ?_
          refine CW.exit (jK158 _ _ ⟨_, ?_, ⟨F, rfl, H⟩⟩)
          exact ⟨rfl, rfl, rfl, rfl, trivial⟩
    ·
      replace F := ite_n hp2 F
      have hq2 := dec_f hp2
      refine CW.condT rfl (not_t hq2) ?_
      refine CW.seq fun K25 hK25 => ?_
      refine CW.region ?_
      refine LW.pure rfl rfl (RV.build (vs := []) (cs := [.int .i64 0, .slice none 0 0]) rfl (fun _ => by kernel_rfl)) ?_
      refine LW.go rfl rfl (OW.store Tk24 rfl rfl (H.blk 0 rfl) (off := 0) (vs := [.int .i64 0, .slice none 0 0]) rfl rfl rfl rfl rfl fun w16 S6 => ?_)
      replace H : Hp w w16 [.blk b2 24 [.int .i64 0, .slice none 0 0], .blk b1 24 [.int .i64 a0.points, .slice A_a0_readings a0.readings.length c_a0_readings]] := H.stored 0 rfl S6
      replace R0 := H.ext
      refine LW.pure rfl rfl (RV.assign rfl) ?_
      refine LW.nil (hK25 _ _ ?_)
      refine CW.ret ?_
      obtain rfl := Option.some.inj F
      refine ⟨_, (ResOK.two ⟨_, rfl, run_loadVar_agg Tk24 (H.blk 0 rfl).cells (us := [.int .i64 0, .slice none 0 0]) rfl rfl⟩ rfl), ?_⟩
      replace H := H.nilOwn 46 4
      replace R0 := H.ext
      replace H := H.pick (L' := [.own none 0 46 4 (List.map encReading (([] : List Reading)))]) [0] (by decide) rfl
      replace R0 := H.ext
      exact ⟨none, 0, (by first | rfl | (simp; done) | (simp; omega)), H⟩
  ·
    replace F := ite_n hp1 F
    have hq1 := dec_f hp1
    refine CW.condT rfl (not_t hq1) ?_
    refine CW.seq fun K26 hK26 => ?_
    refine CW.region ?_
    refine LW.pure rfl rfl (RV.build (vs := []) (cs := [.int .i64 0, .slice none 0 0]) rfl (fun _ => by kernel_rfl)) ?_
    refine LW.pure rfl rfl (RV.move rfl) ?_
    refine LW.go rfl rfl (OW.store Tk24 rfl rfl (H.blk 0 rfl) (off := 0) (vs := [.int .i64 0, .slice none 0 0]) rfl rfl rfl rfl rfl fun w17 S7 => ?_)
    replace H : Hp w w17 [.blk b2 24 [.int .i64 0, .slice none 0 0], .blk b1 24 [.int .i64 a0.points, .slice A_a0_readings a0.readings.length c_a0_readings]] := H.stored 0 rfl S7
    replace R0 := H.ext
    refine LW.pure rfl rfl (RV.assign rfl) ?_
    refine LW.nil (hK26 _ _ ?_)
    refine CW.ret ?_
    obtain rfl := Option.some.inj F
    refine ⟨_, (ResOK.two ⟨_, rfl, run_loadVar_agg Tk24 (H.blk 0 rfl).cells (us := [.int .i64 0, .slice none 0 0]) rfl rfl⟩ rfl), ?_⟩
    replace H := H.nilOwn 46 4
    replace R0 := H.ext
    replace H := H.pick (L' := [.own none 0 46 4 (List.map encReading (([] : List Reading)))]) [0] (by decide) rfl
    replace R0 := H.ext
    exact ⟨none, 0, (by first | rfl | (simp; done) | (simp; omega)), H⟩
end Go.D1
