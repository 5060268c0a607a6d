/- Lemmas and walks that the proof of this claim uses: D1m27, Tb22, D1p1, D1p2, D1p3. -/
import Derived.Test.YtgnlfgkmkkjkoaaTopHeights4
set_option linter.unusedVariables false
set_option linter.unusedSimpArgs false
namespace Go.D1
open Go.Tb Go.Proofs Go.RowKit
theorem Tf74_0 : tyF Try.prog 74 0 = some 0 := by kernel_rfl
theorem Tf74_1 : tyF Try.prog 74 1 = some 1 := by kernel_rfl
theorem Tf74_2 : tyF Try.prog 74 2 = some 2 := by kernel_rfl
set_option maxRecDepth 20000 in
set_option maxHeartbeats 1000000 in
theorem top_TopHeights_ok {a0 : Survey} {a1 : Claim} {a2 : Reading} {A_a0_readings : Option Addr} {c_a0_readings : Nat} {A_a1_heights : Option Addr} {c_a1_heights : Nat} {w : World} {res : Bool} (h_a0_readings : Sl w A_a0_readings c_a0_readings 4 (a0.readings.map encReading)) (h_a1_heights : Sl w A_a1_heights c_a1_heights 1 (a1.heights.map encN)) (F : top_TopHeights a0 a1 a2 = some res) : Calls Try.prog 16 #[.agg #[.int .i64 a0.points, .slice A_a0_readings a0.readings.length c_a0_readings], .agg #[.slice A_a1_heights a1.heights.length c_a1_heights, .int .i64 a1.i, .int .i64 a1.j], .agg #[.int .i64 a2.from_, .int .i64 a2.to_, .int .i64 a2.rise, .int .i64 a2.weight]] w (Rt w (.bool res)) := by
  refine calls_of_cw (args := [.agg #[.int .i64 a0.points, .slice A_a0_readings a0.readings.length c_a0_readings], .agg #[.slice A_a1_heights a1.heights.length c_a1_heights, .int .i64 a1.i, .int .i64 a1.j], .agg #[.int .i64 a2.from_, .int .i64 a2.to_, .int .i64 a2.rise, .int .i64 a2.weight]]) Try.func16 rfl rfl rfl rfl ?_
  have H := Hp.start w
  have R0 := H.ext
  unfold top_TopHeights at F
  refine CW.seq fun K1 hK1 => ?_
  refine CW.region ?_
  refine LW.go rfl rfl (OW.box rfl fun b1 w1 N1 => ?_)
  replace H := H.new N1 N1.blk
  replace R0 := H.ext
  refine LW.go rfl rfl (OW.box rfl fun b2 w2 N2 => ?_)
  replace H := H.new N2 N2.blk
  replace R0 := H.ext
  refine LW.go rfl rfl (OW.box rfl fun b3 w3 N3 => ?_)
  replace H := H.new N3 N3.blk
  replace R0 := H.ext
  refine LW.pure rfl rfl (RV.assign rfl) ?_
  refine LW.nil (hK1 _ _ ?_)
  refine CW.seq fun K2 hK2 => ?_
  refine CW.region ?_
  refine LW.pure rfl rfl (RV.build (vs := [.int .i64 0, .int .i64 1, .int .i64 1]) (cs := [.int .i64 0, .int .i64 1, .int .i64 0, .int .i64 1]) rfl (fun _ => by kernel_rfl)) ?_
  refine LW.pure rfl rfl (RV.build (vs := [.int .i64 1, .int .i64 2, .int .i64 1]) (cs := [.int .i64 1, .int .i64 2, .int .i64 0, .int .i64 1]) rfl (fun _ => by kernel_rfl)) ?_
  refine LW.pure rfl rfl (RV.build (vs := [.int .i64 0, .int .i64 2, .int .i64 1]) (cs := [.int .i64 0, .int .i64 2, .int .i64 0, .int .i64 1]) rfl (fun _ => by kernel_rfl)) ?_
  refine LW.go rfl rfl (OW.buildSlice (e := 46) (vs := [.agg #[.int .i64 0, .int .i64 1, .int .i64 0, .int .i64 1], .agg #[.int .i64 1, .int .i64 2, .int .i64 0, .int .i64 1], .agg #[.int .i64 0, .int .i64 2, .int .i64 0, .int .i64 1]]) (cs := [.int .i64 0, .int .i64 1, .int .i64 0, .int .i64 1, .int .i64 1, .int .i64 2, .int .i64 0, .int .i64 1, .int .i64 0, .int .i64 2, .int .i64 0, .int .i64 1]) rfl (fun _ => by kernel_rfl) fun b4 w4 N4 => ?_)
  replace H := H.made' (k := 4) (t := 46) (enc := encReading) (l := ([(⟨0, 1, 0, 1⟩ : Reading), (⟨1, 2, 0, 1⟩ : Reading), (⟨0, 2, 0, 1⟩ : Reading)] : List Reading)) N4 N4.blk (fun _ => rfl) rfl (by first | decide | omega | (simp; done) | (simp; omega))
  replace R0 := H.ext
  refine LW.pure rfl rfl (RV.build (vs := [.int .i64 3, .slice (some ⟨b4, 0, none⟩) 3 ((([(⟨0, 1, 0, 1⟩ : Reading), (⟨1, 2, 0, 1⟩ : Reading), (⟨0, 2, 0, 1⟩ : Reading)] : List Reading)).length)]) (cs := [.int .i64 3, .slice (some ⟨b4, 0, none⟩) 3 ((([(⟨0, 1, 0, 1⟩ : Reading), (⟨1, 2, 0, 1⟩ : Reading), (⟨0, 2, 0, 1⟩ : Reading)] : List Reading)).length)]) rfl (fun _ => by kernel_rfl)) ?_
  refine LW.go rfl rfl (OW.alloc Tz24 fun b5 w5 N5 => ?_)
  replace H := H.new N5 N5.blk
  replace R0 := H.ext
  refine LW.go rfl rfl (OW.store Tk24 rfl rfl (H.blk 0 rfl) (off := 0) (vs := [.int .i64 3, .slice (some ⟨b4, 0, none⟩) 3 ((([(⟨0, 1, 0, 1⟩ : Reading), (⟨1, 2, 0, 1⟩ : Reading), (⟨0, 2, 0, 1⟩ : Reading)] : List Reading)).length)]) rfl rfl rfl rfl rfl fun w6 S1 => ?_)
  replace H : Hp w w6 [.blk b5 24 [.int .i64 3, .slice (some ⟨b4, 0, none⟩) 3 ((([(⟨0, 1, 0, 1⟩ : Reading), (⟨1, 2, 0, 1⟩ : Reading), (⟨0, 2, 0, 1⟩ : Reading)] : List Reading)).length)], .own (some ⟨b4, 0, none⟩) ((([(⟨0, 1, 0, 1⟩ : Reading), (⟨1, 2, 0, 1⟩ : Reading), (⟨0, 2, 0, 1⟩ : Reading)] : List Reading)).length) 46 4 (List.map encReading (([(⟨0, 1, 0, 1⟩ : Reading), (⟨1, 2, 0, 1⟩ : Reading), (⟨0, 2, 0, 1⟩ : Reading)] : List Reading))), .blk b3 46 [.int .i64 a2.from_, .int .i64 a2.to_, .int .i64 a2.rise, .int .i64 a2.weight], .blk b2 74 [.slice A_a1_heights a1.heights.length c_a1_heights, .int .i64 a1.i, .int .i64 a1.j], .blk b1 24 [.int .i64 a0.points, .slice A_a0_readings a0.readings.length c_a0_readings]] := H.stored 0 rfl S1
  replace R0 := H.ext
  refine LW.nil (hK2 _ _ ?_)
  refine CW.seq fun K3 hK3 => ?_
  refine CW.seq fun K4 hK4 => ?_
  obtain ⟨r10, hr10, F⟩ := bnd_some F
  refine CW.region ?_
  refine LW.pure rfl rfl (RV.loadA [.int .i64 3, .slice (some ⟨b4, 0, none⟩) 3 ((([(⟨0, 1, 0, 1⟩ : Reading), (⟨1, 2, 0, 1⟩ : Reading), (⟨0, 2, 0, 1⟩ : Reading)] : List Reading)).length)] Tk24 rfl (H.blk 0 rfl).cells rfl rfl) ?_
  refine LW.go rfl rfl (OW.call Tc19 (evs_cast rfl (by first | rfl | (simp; done) | (simp; omega))) (level_Error_ok (a0 := (⟨3, ([(⟨0, 1, 0, 1⟩ : Reading), (⟨1, 2, 0, 1⟩ : Reading), (⟨0, 2, 0, 1⟩ : Reading)] : List Reading)⟩ : Survey)) (a1 := (0 : Int)) (a2 := (2 : Int)) (H.own 1 rfl).sl hr10) ?_)
  rintro _ w7 ⟨rfl, E1⟩
  refine ⟨_, rfl, ?_⟩
  replace H := H.grow E1
  replace R0 := H.ext
  refine LW.pure rfl rfl (RV.move rfl) ?_
  refine LW.pure rfl rfl (RV.extract rfl rfl) ?_
  refine LW.pure rfl rfl (RV.extract rfl rfl) ?_
  refine LW.go rfl rfl (OW.alloc Tz28 fun b6 w8 N6 => ?_)
  replace H := H.new N6 N6.blk
  replace R0 := H.ext
  refine LW.go rfl rfl (OW.store Tk28 rfl rfl (H.blk 0 rfl) (off := 0) (vs := [.int .i64 r10.1.num, .int .i64 r10.1.den]) rfl rfl rfl rfl rfl fun w9 S2 => ?_)
  replace H : Hp w w9 [.blk b6 28 [.int .i64 r10.1.num, .int .i64 r10.1.den], .blk b5 24 [.int .i64 3, .slice (some ⟨b4, 0, none⟩) 3 ((([(⟨0, 1, 0, 1⟩ : Reading), (⟨1, 2, 0, 1⟩ : Reading), (⟨0, 2, 0, 1⟩ : Reading)] : List Reading)).length)], .own (some ⟨b4, 0, none⟩) ((([(⟨0, 1, 0, 1⟩ : Reading), (⟨1, 2, 0, 1⟩ : Reading), (⟨0, 2, 0, 1⟩ : Reading)] : List Reading)).length) 46 4 (List.map encReading (([(⟨0, 1, 0, 1⟩ : Reading), (⟨1, 2, 0, 1⟩ : Reading), (⟨0, 2, 0, 1⟩ : Reading)] : List Reading))), .blk b3 46 [.int .i64 a2.from_, .int .i64 a2.to_, .int .i64 a2.rise, .int .i64 a2.weight], .blk b2 74 [.slice A_a1_heights a1.heights.length c_a1_heights, .int .i64 a1.i, .int .i64 a1.j], .blk b1 24 [.int .i64 a0.points, .slice A_a0_readings a0.readings.length c_a0_readings]] := H.stored 0 rfl S2
  replace R0 := H.ext
  refine LW.pure rfl rfl (RV.assign rfl) ?_
  refine LW.nil (hK4 _ _ ?_)
  refine CW.seqJ (fun ρ wl1 => (∃ (t46_1 : Bool), top_TopHeights_k13 a0 a1 a2 t46_1 = some res ∧ ρ = [(3, .pointer (some (⟨b1, 0, none⟩))), (4, .pointer (some (⟨b2, 0, none⟩))), (5, .pointer (some (⟨b3, 0, none⟩))), (6, .bool false), (46, .bool t46_1)] ∧ Hp w wl1 [.blk b1 24 [.int .i64 a0.points, .slice A_a0_readings a0.readings.length c_a0_readings], .blk b2 74 [.slice A_a1_heights a1.heights.length c_a1_heights, .int .i64 a1.i, .int .i64 a1.j], .blk b3 46 [.int .i64 a2.from_, .int .i64 a2.to_, .int .i64 a2.rise, .int .i64 a2.weight]])) ?_ ?_
  ·
    rintro _ wl1 ⟨t46_1, F, rfl, H⟩
    have R0 := H.ext
    unfold top_TopHeights_k13 at F
    by_cases hp1 : t46_1 = true
    ·
      replace F := ite_y hp1 F
      have hq1 : t46_1 = true := hp1
      refine CW.condT rfl hq1 ?_
      refine CW.seq fun K5 hK5 => ?_
      refine CW.region ?_
      refine LW.pure rfl rfl (RV.assign rfl) ?_
      refine LW.nil (hK5 _ _ ?_)
      refine CW.ret ?_
      obtain rfl := Option.some.inj F
      refine ⟨_, (ResOK.one rfl), ?_⟩
      refine ⟨(by first | rfl | simp), R0⟩
    ·
      replace F := ite_n hp1 F
      have hq1 : t46_1 = false := raw_f hp1
      refine CW.condF rfl hq1 ?_
      refine CW.skip (hK3 _ _ ?_)
      refine CW.seq fun K6 hK6 => ?_
      refine CW.seqJ (fun ρ wl2 => (∃ (t54_1 : Bool), top_TopHeights_k12 a0 a1 a2 t54_1 = some res ∧ ρ = [(3, .pointer (some (⟨b1, 0, none⟩))), (4, .pointer (some (⟨b2, 0, none⟩))), (5, .pointer (some (⟨b3, 0, none⟩))), (6, .bool false), (54, .bool t54_1)] ∧ Hp w wl2 [.blk b1 24 [.int .i64 a0.points, .slice A_a0_readings a0.readings.length c_a0_readings], .blk b2 74 [.slice A_a1_heights a1.heights.length c_a1_heights, .int .i64 a1.i, .int .i64 a1.j], .blk b3 46 [.int .i64 a2.from_, .int .i64 a2.to_, .int .i64 a2.rise, .int .i64 a2.weight]])) ?_ ?_
      ·
        rintro _ wl2 ⟨t54_1, F, rfl, H⟩
        have R0 := H.ext
        unfold top_TopHeights_k12 at F
        by_cases hp2 : t54_1 = true
        ·
          replace F := ite_y hp2 F
          have hq2 : t54_1 = true := hp2
          refine CW.condT rfl hq2 ?_
          refine CW.seq fun K7 hK7 => ?_
          refine CW.region ?_
          refine LW.pure rfl rfl (RV.assign rfl) ?_
          refine LW.nil (hK7 _ _ ?_)
          refine CW.ret ?_
          obtain rfl := Option.some.inj F
          refine ⟨_, (ResOK.one rfl), ?_⟩
          refine ⟨(by first | rfl | simp), R0⟩
        ·
          replace F := ite_n hp2 F
          have hq2 : t54_1 = false := raw_f hp2
          refine CW.condF rfl hq2 ?_
          refine CW.skip (hK6 _ _ ?_)
          refine CW.seq fun K8 hK8 => ?_
          obtain ⟨r3, hr3, F⟩ := bnd_some F
          refine CW.region ?_
          refine LW.pure rfl rfl (RV.loadA [.int .i64 a0.points, .slice A_a0_readings a0.readings.length c_a0_readings] Tk24 rfl (H.blk 0 rfl).cells rfl rfl) ?_
          refine LW.go rfl rfl (OW.call Tc21 rfl (level_Parts_ok (a0 := a0) (h_a0_readings.ext R0) hr3) ?_)
          rintro _ w10 ⟨A26_0, c26_0, hs26_0, rfl, E2⟩
          refine ⟨_, rfl, ?_⟩
          replace H : Hp w w10 [.tab A26_0 c26_0 39 hs26_0 3 1 (encM encN r3.1), .blk b1 24 [.int .i64 a0.points, .slice A_a0_readings a0.readings.length c_a0_readings], .blk b2 74 [.slice A_a1_heights a1.heights.length c_a1_heights, .int .i64 a1.i, .int .i64 a1.j], .blk b3 46 [.int .i64 a2.from_, .int .i64 a2.to_, .int .i64 a2.rise, .int .i64 a2.weight]] := H.append E2
          replace R0 := H.ext
          refine LW.pure rfl rfl (RV.move rfl) ?_
          refine LW.pure rfl rfl (RV.extract rfl rfl) ?_
          refine LW.pure rfl rfl (RV.extract rfl rfl) ?_
          refine LW.pure rfl rfl (RV.assign rfl) ?_
          refine LW.pure rfl rfl (RV.assign rfl) ?_
          refine LW.nil (hK8 _ _ ?_)
          refine CW.seq fun K9 hK9 => ?_
          obtain ⟨r4, hr4, F⟩ := bnd_some F
          refine CW.region ?_
          refine LW.pure rfl rfl (RV.loadA [.int .i64 a0.points, .slice A_a0_readings a0.readings.length c_a0_readings] Tk24 rfl (H.blk 1 rfl).cells rfl rfl) ?_
          refine LW.go rfl rfl (OW.call Tc38 rfl (level_Misfit_ok (a0 := a0) (h_a0_readings.ext R0) hr4) ?_)
          rintro _ w11 ⟨rfl, E3⟩
          refine ⟨_, rfl, ?_⟩
          replace H := H.grow E3
          replace R0 := H.ext
          refine LW.pure rfl rfl (RV.move rfl) ?_
          refine LW.pure rfl rfl (RV.extract rfl rfl) ?_
          refine LW.pure rfl rfl (RV.extract rfl rfl) ?_
          refine LW.go rfl rfl (OW.alloc Tz28 fun b7 w12 N7 => ?_)
          replace H := H.new N7 N7.blk
          replace R0 := H.ext
          refine LW.go rfl rfl (OW.store Tk28 rfl rfl (H.blk 0 rfl) (off := 0) (vs := [.int .i64 r4.1.num, .int .i64 r4.1.den]) rfl rfl rfl rfl rfl fun w13 S3 => ?_)
          replace H : Hp w w13 [.blk b7 28 [.int .i64 r4.1.num, .int .i64 r4.1.den], .tab A26_0 c26_0 39 hs26_0 3 1 (encM encN r3.1), .blk b1 24 [.int .i64 a0.points, .slice A_a0_readings a0.readings.length c_a0_readings], .blk b2 74 [.slice A_a1_heights a1.heights.length c_a1_heights, .int .i64 a1.i, .int .i64 a1.j], .blk b3 46 [.int .i64 a2.from_, .int .i64 a2.to_, .int .i64 a2.rise, .int .i64 a2.weight]] := H.stored 0 rfl S3
          replace R0 := H.ext
          refine LW.pure rfl rfl (RV.assign rfl) ?_
          refine LW.nil (hK9 _ _ ?_)
          refine CW.seq fun K10 hK10 => ?_
          refine CW.seqJ (fun ρ wl3 => (∃ (t70_1 : Bool), top_TopHeights_k11 a0 a1 a2 r3 r4 t70_1 = some res ∧ ρ = [(3, .pointer (some (⟨b1, 0, none⟩))), (4, .pointer (some (⟨b2, 0, none⟩))), (5, .pointer (some (⟨b3, 0, none⟩))), (6, .bool false), (10, .slice A26_0 r3.1.length c26_0), (11, .int .i64 r3.2), (12, .pointer (some (⟨b7, 0, none⟩))), (13, .int .i64 r4.2), (70, .bool t70_1)] ∧ Hp w wl3 [.tab A26_0 c26_0 39 hs26_0 3 1 (encM encN r3.1), .blk b1 24 [.int .i64 a0.points, .slice A_a0_readings a0.readings.length c_a0_readings], .blk b2 74 [.slice A_a1_heights a1.heights.length c_a1_heights, .int .i64 a1.i, .int .i64 a1.j], .blk b3 46 [.int .i64 a2.from_, .int .i64 a2.to_, .int .i64 a2.rise, .int .i64 a2.weight], .blk b7 28 [.int .i64 r4.1.num, .int .i64 r4.1.den]])) ?_ ?_
          ·
            rintro _ wl3 ⟨t70_1, F, rfl, H⟩
            have R0 := H.ext
            unfold top_TopHeights_k11 at F
            by_cases hp3 : t70_1 = true
            ·
              replace F := ite_y hp3 F
              have hq3 : t70_1 = true := hp3
              refine CW.condT rfl hq3 ?_
              refine CW.seq fun K11 hK11 => ?_
              refine CW.region ?_
              refine LW.pure rfl rfl (RV.move rfl) ?_
              refine LW.pure rfl rfl (RV.move rfl) ?_
              refine LW.pure rfl rfl (RV.eqi rfl rfl) ?_
              refine LW.pure rfl rfl (RV.assign rfl) ?_
              refine LW.nil (hK11 _ _ ?_)
              refine CW.ret ?_
              obtain rfl := Option.some.inj F
              refine ⟨_, (ResOK.one rfl), ?_⟩
              refine ⟨(by first | rfl | simp), R0⟩
            ·
              replace F := ite_n hp3 F
              have hq3 : t70_1 = false := raw_f hp3
              refine CW.condF rfl hq3 ?_
              refine CW.skip (hK10 _ _ ?_)
              refine CW.seq fun K12 hK12 => ?_
              refine CW.seqJ (fun ρ wl4 => (∃ (t86_1 : Bool), top_TopHeights_k10 a0 a1 a2 r3 r4 t86_1 = some res ∧ ρ = [(3, .pointer (some (⟨b1, 0, none⟩))), (4, .pointer (some (⟨b2, 0, none⟩))), (5, .pointer (some (⟨b3, 0, none⟩))), (6, .bool false), (10, .slice A26_0 r3.1.length c26_0), (12, .pointer (some (⟨b7, 0, none⟩))), (86, .bool t86_1)] ∧ Hp w wl4 [.tab A26_0 c26_0 39 hs26_0 3 1 (encM encN r3.1), .blk b1 24 [.int .i64 a0.points, .slice A_a0_readings a0.readings.length c_a0_readings], .blk b2 74 [.slice A_a1_heights a1.heights.length c_a1_heights, .int .i64 a1.i, .int .i64 a1.j], .blk b3 46 [.int .i64 a2.from_, .int .i64 a2.to_, .int .i64 a2.rise, .int .i64 a2.weight], .blk b7 28 [.int .i64 r4.1.num, .int .i64 r4.1.den]])) ?_ ?_
              ·
                rintro _ wl4 ⟨t86_1, F, rfl, H⟩
                have R0 := H.ext
                unfold top_TopHeights_k10 at F
                by_cases hp4 : t86_1 = true
                ·
                  replace F := ite_y hp4 F
                  have hq4 : t86_1 = true := hp4
                  refine CW.condT rfl hq4 ?_
                  refine CW.seq fun K13 hK13 => ?_
                  refine CW.region ?_
                  refine LW.pure rfl rfl (RV.assign rfl) ?_
                  refine LW.nil (hK13 _ _ ?_)
                  refine CW.ret ?_
                  obtain rfl := Option.some.inj F
                  refine ⟨_, (ResOK.one rfl), ?_⟩
                  refine ⟨(by first | rfl | simp), R0⟩
                ·
                  replace F := ite_n hp4 F
                  have hq4 : t86_1 = false := raw_f hp4
                  refine CW.condF rfl hq4 ?_
                  refine CW.skip (hK12 _ _ ?_)
                  refine CW.seqJ (fun ρ wl5 => (top_TopHeights_k4 a0 a1 a2 r3 r4 = some res ∧ ρ = [(3, .pointer (some (⟨b1, 0, none⟩))), (4, .pointer (some (⟨b2, 0, none⟩))), (5, .pointer (some (⟨b3, 0, none⟩))), (6, .bool false), (10, .slice A26_0 r3.1.length c26_0), (12, .pointer (some (⟨b7, 0, none⟩)))] ∧ Hp w wl5 [.tab A26_0 c26_0 39 hs26_0 3 1 (encM encN r3.1), .blk b1 24 [.int .i64 a0.points, .slice A_a0_readings a0.readings.length c_a0_readings], .blk b2 74 [.slice A_a1_heights a1.heights.length c_a1_heights, .int .i64 a1.i, .int .i64 a1.j], .blk b3 46 [.int .i64 a2.from_, .int .i64 a2.to_, .int .i64 a2.rise, .int .i64 a2.weight], .blk b7 28 [.int .i64 r4.1.num, .int .i64 r4.1.den]])) ?_ ?_
                  ·
                    rintro _ wl5 ⟨F, rfl, H⟩
                    have R0 := H.ext
                    unfold top_TopHeights_k4 at F
                    refine CW.seq fun K14 hK14 => ?_
                    refine CW.region ?_
                    refine LW.pure rfl rfl (RV.build (vs := [.int .i64 0, .int .i64 1]) (cs := [.int .i64 0, .int .i64 1]) rfl (fun _ => by kernel_rfl)) ?_
                    refine LW.go rfl rfl (OW.alloc Tz28 fun b8 w14 N8 => ?_)
                    replace H := H.new N8 N8.blk
                    replace R0 := H.ext
                    refine LW.go rfl rfl (OW.store Tk28 rfl rfl (H.blk 0 rfl) (off := 0) (vs := [.int .i64 0, .int .i64 1]) rfl rfl rfl rfl rfl fun w15 S4 => ?_)
                    replace H : Hp w w15 [.blk b8 28 [.int .i64 0, .int .i64 1], .tab A26_0 c26_0 39 hs26_0 3 1 (encM encN r3.1), .blk b1 24 [.int .i64 a0.points, .slice A_a0_readings a0.readings.length c_a0_readings], .blk b2 74 [.slice A_a1_heights a1.heights.length c_a1_heights, .int .i64 a1.i, .int .i64 a1.j], .blk b3 46 [.int .i64 a2.from_, .int .i64 a2.to_, .int .i64 a2.rise, .int .i64 a2.weight], .blk b7 28 [.int .i64 r4.1.num, .int .i64 r4.1.den]] := H.stored 0 rfl S4
                    replace R0 := H.ext
                    refine LW.nil (hK14 _ _ ?_)
                    refine CW.seqJ (fun ρ wl6 => (∃ (c4_0_1 : Int) (c4_1_1 : Int), top_TopHeights_k2 a0 a1 a2 r3 r4 c4_0_1 c4_1_1 = some res ∧ ρ = [(3, .pointer (some (⟨b1, 0, none⟩))), (4, .pointer (some (⟨b2, 0, none⟩))), (5, .pointer (some (⟨b3, 0, none⟩))), (6, .bool false), (10, .slice A26_0 r3.1.length c26_0), (12, .pointer (some (⟨b7, 0, none⟩))), (19, .pointer (some (⟨b8, 0, none⟩)))] ∧ Hp w wl6 [.tab A26_0 c26_0 39 hs26_0 3 1 (encM encN r3.1), .blk b1 24 [.int .i64 a0.points, .slice A_a0_readings a0.readings.length c_a0_readings], .blk b2 74 [.slice A_a1_heights a1.heights.length c_a1_heights, .int .i64 a1.i, .int .i64 a1.j], .blk b3 46 [.int .i64 a2.from_, .int .i64 a2.to_, .int .i64 a2.rise, .int .i64 a2.weight], .blk b7 28 [.int .i64 r4.1.num, .int .i64 r4.1.den], .blk b8 28 [.int .i64 c4_0_1, .int .i64 c4_1_1]])) ?_ ?_
                    ·
                      rintro _ wl6 ⟨c4_0_1, c4_1_1, F, rfl, H⟩
                      have R0 := H.ext
                      unfold top_TopHeights_k2 at F
                      refine CW.seq fun K15 hK15 => ?_
                      refine CW.seq fun K16 hK16 => ?_
                      obtain ⟨hg1, F⟩ := gd_some F
                      refine CW.region ?_
                      refine LW.pure rfl rfl (RV.loadA [.int .i64 c4_0_1, .int .i64 c4_1_1] Tk28 rfl (H.blk 5 rfl).cells rfl rfl) ?_
                      refine LW.pure rfl rfl (RV.fieldAddr Tf24_0 rfl) ?_
                      refine LW.pure rfl rfl (RV.load1 Tk3 rfl ((H.blk 1 rfl).cells.off 0) rfl) ?_
                      refine LW.pure rfl rfl (RV.move rfl) ?_
                      refine LW.pure rfl rfl (RV.len Ts36 rfl) ?_
                      refine LW.pure rfl rfl (RV.sub rfl rfl hg1) ?_
                      refine LW.pure rfl rfl (RV.build (vs := [.int .i64 (a0.points - ((r3.1.length : Int))), .int .i64 1]) (cs := [.int .i64 (a0.points - ((r3.1.length : Int))), .int .i64 1]) rfl (fun _ => by kernel_rfl)) ?_
                      refine LW.pure rfl rfl (RV.neA Te28g (Te28 _ _ _ _ ) rfl rfl) ?_
                      refine LW.nil (hK16 _ _ ?_)
                      by_cases hp5 : ((c4_0_1 == a0.points - ((r3.1.length : Int))) && (c4_1_1 == 1)) = true
                      ·
                        replace F := ite_y hp5 F
                        have hq5 : ((c4_0_1 == a0.points - ((r3.1.length : Int))) && (c4_1_1 == 1)) = true := hp5
                        refine CW.condF rfl (not_f hq5) ?_
                        refine CW.skip (hK15 _ _ ?_)
                        refine CW.seq fun K17 hK17 => ?_
                        obtain ⟨r5, hr5, F⟩ := bnd_some F
                        refine CW.region ?_
                        refine LW.pure rfl rfl (RV.loadA [.int .i64 a0.points, .slice A_a0_readings a0.readings.length c_a0_readings] Tk24 rfl (H.blk 1 rfl).cells rfl rfl) ?_
                        refine LW.pure rfl rfl (RV.loadA [.int .i64 a2.from_, .int .i64 a2.to_, .int .i64 a2.rise, .int .i64 a2.weight] Tk46 rfl (H.blk 3 rfl).cells rfl rfl) ?_
                        refine LW.go rfl rfl (OW.call Tc29 rfl (level_With_ok (a0 := a0) (a1 := a2) (h_a0_readings.ext R0) hr5) ?_)
                        rintro _ w16 ⟨A36_0_readings, c36_0_readings, rfl, E4⟩
                        refine ⟨_, rfl, ?_⟩
                        replace H : Hp w w16 [.own A36_0_readings c36_0_readings 46 4 (List.map encReading r5.1.readings), .tab A26_0 c26_0 39 hs26_0 3 1 (encM encN r3.1), .blk b1 24 [.int .i64 a0.points, .slice A_a0_readings a0.readings.length c_a0_readings], .blk b2 74 [.slice A_a1_heights a1.heights.length c_a1_heights, .int .i64 a1.i, .int .i64 a1.j], .blk b3 46 [.int .i64 a2.from_, .int .i64 a2.to_, .int .i64 a2.rise, .int .i64 a2.weight], .blk b7 28 [.int .i64 r4.1.num, .int .i64 r4.1.den], .blk b8 28 [.int .i64 c4_0_1, .int .i64 c4_1_1]] := H.append E4
                        replace R0 := H.ext
                        refine LW.pure rfl rfl (RV.move rfl) ?_
                        refine LW.pure rfl rfl (RV.extract rfl rfl) ?_
                        refine LW.pure rfl rfl (RV.extract rfl rfl) ?_
                        refine LW.go rfl rfl (OW.alloc Tz24 fun b9 w17 N9 => ?_)
                        replace H := H.new N9 N9.blk
                        replace R0 := H.ext
                        refine LW.go rfl rfl (OW.store Tk24 rfl rfl (H.blk 0 rfl) (off := 0) (vs := [.int .i64 r5.1.points, .slice A36_0_readings r5.1.readings.length c36_0_readings]) rfl rfl rfl rfl rfl fun w18 S5 => ?_)
                        replace H : Hp w w18 [.blk b9 24 [.int .i64 r5.1.points, .slice A36_0_readings r5.1.readings.length c36_0_readings], .own A36_0_readings c36_0_readings 46 4 (List.map encReading r5.1.readings), .tab A26_0 c26_0 39 hs26_0 3 1 (encM encN r3.1), .blk b1 24 [.int .i64 a0.points, .slice A_a0_readings a0.readings.length c_a0_readings], .blk b2 74 [.slice A_a1_heights a1.heights.length c_a1_heights, .int .i64 a1.i, .int .i64 a1.j], .blk b3 46 [.int .i64 a2.from_, .int .i64 a2.to_, .int .i64 a2.rise, .int .i64 a2.weight], .blk b7 28 [.int .i64 r4.1.num, .int .i64 r4.1.den], .blk b8 28 [.int .i64 c4_0_1, .int .i64 c4_1_1]] := H.stored 0 rfl S5
                        replace R0 := H.ext
                        refine LW.pure rfl rfl (RV.assign rfl) ?_
                        refine LW.nil (hK17 _ _ ?_)
                        refine CW.seq fun K18 hK18 => ?_
                        obtain ⟨r1, hr1, F⟩ := bnd_some F
                        refine CW.region ?_
                        refine LW.pure rfl rfl (RV.loadA [.int .i64 a0.points, .slice A_a0_readings a0.readings.length c_a0_readings] Tk24 rfl (H.blk 3 rfl).cells rfl rfl) ?_
                        refine LW.pure rfl rfl (RV.fieldAddr Tf74_1 rfl) ?_
                        refine LW.pure rfl rfl (RV.load1 Tk3 rfl ((H.blk 4 rfl).cells.off 1) rfl) ?_
                        refine LW.pure rfl rfl (RV.fieldAddr Tf74_2 rfl) ?_
                        refine LW.pure rfl rfl (RV.load1 Tk3 rfl ((H.blk 4 rfl).cells.off 2) rfl) ?_
                        refine LW.go rfl rfl (OW.call Tc19 rfl (level_Error_ok (a0 := a0) (a1 := a1.i) (a2 := a1.j) (h_a0_readings.ext R0) hr1) ?_)
                        rintro _ w19 ⟨rfl, E5⟩
                        refine ⟨_, rfl, ?_⟩
                        replace H := H.grow E5
                        replace R0 := H.ext
                        refine LW.pure rfl rfl (RV.move rfl) ?_
                        refine LW.pure rfl rfl (RV.extract rfl rfl) ?_
                        refine LW.pure rfl rfl (RV.extract rfl rfl) ?_
                        refine LW.go rfl rfl (OW.alloc Tz28 fun b10 w20 N10 => ?_)
                        replace H := H.new N10 N10.blk
                        replace R0 := H.ext
                        refine LW.go rfl rfl (OW.store Tk28 rfl rfl (H.blk 0 rfl) (off := 0) (vs := [.int .i64 r1.1.num, .int .i64 r1.1.den]) rfl rfl rfl rfl rfl fun w21 S6 => ?_)
                        replace H : Hp w w21 [.blk b10 28 [.int .i64 r1.1.num, .int .i64 r1.1.den], .blk b9 24 [.int .i64 r5.1.points, .slice A36_0_readings r5.1.readings.length c36_0_readings], .own A36_0_readings c36_0_readings 46 4 (List.map encReading r5.1.readings), .tab A26_0 c26_0 39 hs26_0 3 1 (encM encN r3.1), .blk b1 24 [.int .i64 a0.points, .slice A_a0_readings a0.readings.length c_a0_readings], .blk b2 74 [.slice A_a1_heights a1.heights.length c_a1_heights, .int .i64 a1.i, .int .i64 a1.j], .blk b3 46 [.int .i64 a2.from_, .int .i64 a2.to_, .int .i64 a2.rise, .int .i64 a2.weight], .blk b7 28 [.int .i64 r4.1.num, .int .i64 r4.1.den], .blk b8 28 [.int .i64 c4_0_1, .int .i64 c4_1_1]] := H.stored 0 rfl S6
                        replace R0 := H.ext
                        refine LW.pure rfl rfl (RV.assign rfl) ?_
                        refine LW.nil (hK18 _ _ ?_)
                        refine CW.seq fun K19 hK19 => ?_
                        obtain ⟨r2, hr2, F⟩ := bnd_some F
                        refine CW.region ?_
                        refine LW.pure rfl rfl (RV.loadA [.int .i64 r5.1.points, .slice A36_0_readings r5.1.readings.length c36_0_readings] Tk24 rfl (H.blk 1 rfl).cells rfl rfl) ?_
                        refine LW.pure rfl rfl (RV.fieldAddr Tf74_1 rfl) ?_
                        refine LW.pure rfl rfl (RV.load1 Tk3 rfl ((H.blk 5 rfl).cells.off 1) rfl) ?_
                        refine LW.pure rfl rfl (RV.fieldAddr Tf74_2 rfl) ?_
                        refine LW.pure rfl rfl (RV.load1 Tk3 rfl ((H.blk 5 rfl).cells.off 2) rfl) ?_
                        refine LW.go rfl rfl (OW.call Tc19 rfl (level_Error_ok (a0 := r5.1) (a1 := a1.i) (a2 := a1.j) (H.own 2 rfl).sl hr2) ?_)
                        rintro _ w22 ⟨rfl, E6⟩
                        refine ⟨_, rfl, ?_⟩
                        replace H := H.grow E6
                        replace R0 := H.ext
                        refine LW.pure rfl rfl (RV.move rfl) ?_
                        refine LW.pure rfl rfl (RV.extract rfl rfl) ?_
                        refine LW.pure rfl rfl (RV.extract rfl rfl) ?_
                        refine LW.go rfl rfl (OW.alloc Tz28 fun b11 w23 N11 => ?_)
                        replace H := H.new N11 N11.blk
                        replace R0 := H.ext
                        refine LW.go rfl rfl (OW.store Tk28 rfl rfl (H.blk 0 rfl) (off := 0) (vs := [.int .i64 r2.1.num, .int .i64 r2.1.den]) rfl rfl rfl rfl rfl fun w24 S7 => ?_)
                        replace H : Hp w w24 [.blk b11 28 [.int .i64 r2.1.num, .int .i64 r2.1.den], .blk b10 28 [.int .i64 r1.1.num, .int .i64 r1.1.den], .blk b9 24 [.int .i64 r5.1.points, .slice A36_0_readings r5.1.readings.length c36_0_readings], .own A36_0_readings c36_0_readings 46 4 (List.map encReading r5.1.readings), .tab A26_0 c26_0 39 hs26_0 3 1 (encM encN r3.1), .blk b1 24 [.int .i64 a0.points, .slice A_a0_readings a0.readings.length c_a0_readings], .blk b2 74 [.slice A_a1_heights a1.heights.length c_a1_heights, .int .i64 a1.i, .int .i64 a1.j], .blk b3 46 [.int .i64 a2.from_, .int .i64 a2.to_, .int .i64 a2.rise, .int .i64 a2.weight], .blk b7 28 [.int .i64 r4.1.num, .int .i64 r4.1.den], .blk b8 28 [.int .i64 c4_0_1, .int .i64 c4_1_1]] := H.stored 0 rfl S7
                        replace R0 := H.ext
                        refine LW.pure rfl rfl (RV.assign rfl) ?_
                        refine LW.nil (hK19 _ _ ?_)
                        refine CW.seq fun K20 hK20 => ?_
                        obtain ⟨r6, hr6, F⟩ := bnd_some F
                        refine CW.region ?_
                        refine LW.pure rfl rfl (RV.loadA [.int .i64 r5.1.points, .slice A36_0_readings r5.1.readings.length c36_0_readings] Tk24 rfl (H.blk 2 rfl).cells rfl rfl) ?_
                        refine LW.go rfl rfl (OW.call Tc38 rfl (level_Misfit_ok (a0 := r5.1) (H.own 3 rfl).sl hr6) ?_)
                        rintro _ w25 ⟨rfl, E7⟩
                        refine ⟨_, rfl, ?_⟩
                        replace H := H.grow E7
                        replace R0 := H.ext
                        refine LW.pure rfl rfl (RV.move rfl) ?_
                        refine LW.pure rfl rfl (RV.extract rfl rfl) ?_
                        refine LW.pure rfl rfl (RV.extract rfl rfl) ?_
                        refine LW.go rfl rfl (OW.alloc Tz28 fun b12 w26 N12 => ?_)
                        replace H := H.new N12 N12.blk
                        replace R0 := H.ext
                        refine LW.go rfl rfl (OW.store Tk28 rfl rfl (H.blk 0 rfl) (off := 0) (vs := [.int .i64 r6.1.num, .int .i64 r6.1.den]) rfl rfl rfl rfl rfl fun w27 S8 => ?_)
                        replace H : Hp w w27 [.blk b12 28 [.int .i64 r6.1.num, .int .i64 r6.1.den], .blk b11 28 [.int .i64 r2.1.num, .int .i64 r2.1.den], .blk b10 28 [.int .i64 r1.1.num, .int .i64 r1.1.den], .blk b9 24 [.int .i64 r5.1.points, .slice A36_0_readings r5.1.readings.length c36_0_readings], .own A36_0_readings c36_0_readings 46 4 (List.map encReading r5.1.readings), .tab A26_0 c26_0 39 hs26_0 3 1 (encM encN r3.1), .blk b1 24 [.int .i64 a0.points, .slice A_a0_readings a0.readings.length c_a0_readings], .blk b2 74 [.slice A_a1_heights a1.heights.length c_a1_heights, .int .i64 a1.i, .int .i64 a1.j], .blk b3 46 [.int .i64 a2.from_, .int .i64 a2.to_, .int .i64 a2.rise, .int .i64 a2.weight], .blk b7 28 [.int .i64 r4.1.num, .int .i64 r4.1.den], .blk b8 28 [.int .i64 c4_0_1, .int .i64 c4_1_1]] := H.stored 0 rfl S8
                        replace R0 := H.ext
                        refine LW.pure rfl rfl (RV.assign rfl) ?_
                        refine LW.nil (hK20 _ _ ?_)
                        refine CW.seq fun K21 hK21 => ?_
                        refine CW.seq fun K22 hK22 => ?_
                        refine CW.region ?_
                        refine LW.pure rfl rfl (RV.move rfl) ?_
                        refine LW.pure rfl rfl (RV.nei rfl rfl) ?_
                        refine LW.nil (hK22 _ _ ?_)
                        by_cases hp6 : r5.2 = 0
                        ·
                          replace F := ite_y hp6 F
                          have hq6 := dec_t hp6
                          refine CW.condF rfl (not_f hq6) ?_
                          refine CW.skip (hK21 _ _ ?_)
                          refine CW.seq fun K23 hK23 => ?_
                          refine CW.seqJ (fun ρ wl7 => (∃ (t297_1 : Bool), top_TopHeights_k1 r1 r2 t297_1 = some res ∧ ρ = [(6, .bool false), (24, .pointer (some (⟨b10, 0, none⟩))), (25, .int .i64 r1.2), (26, .pointer (some (⟨b11, 0, none⟩))), (27, .int .i64 r2.2), (297, .bool t297_1)] ∧ Hp w wl7 [.blk b10 28 [.int .i64 r1.1.num, .int .i64 r1.1.den], .blk b11 28 [.int .i64 r2.1.num, .int .i64 r2.1.den]])) ?_ ?_
                          ·
                            rintro _ wl7 ⟨t297_1, F, rfl, H⟩
                            have R0 := H.ext
                            unfold top_TopHeights_k1 at F
                            by_cases hp7 : t297_1 = true
                            ·
                              replace F := ite_y hp7 F
                              have hq7 : t297_1 = true := hp7
                              refine CW.condT rfl hq7 ?_
                              refine CW.seq fun K24 hK24 => ?_
                              refine CW.region ?_
                              refine LW.pure rfl rfl (RV.assign rfl) ?_
                              refine LW.nil (hK24 _ _ ?_)
                              refine CW.ret ?_
                              obtain rfl := Option.some.inj F
                              refine ⟨_, (ResOK.one rfl), ?_⟩
                              refine ⟨(by first | rfl | simp), R0⟩
                            ·
                              replace F := ite_n hp7 F
                              have hq7 : t297_1 = false := raw_f hp7
                              refine CW.condF rfl hq7 ?_
                              refine CW.skip (hK23 _ _ ?_)
                              refine CW.seq fun K25 hK25 => ?_
                              by_cases hp8 : r1.2 = 0
                              ·
                                replace F := ite_y hp8 F
                                have hq8 := dec_t hp8
                                by_cases hp9 : r2.2 = 0
                                ·
                                  replace F := ite_y hp9 F
                                  have hq9 := dec_t hp9
                                  by_cases hp10 : (0 : Int) < r1.1.den
                                  ·
                                    replace F := ite_y hp10 F
                                    have hq10 := dec_t hp10
                                    by_cases hp11 : (0 : Int) < r2.1.den
                                    ·
                                      replace F := ite_y hp11 F
                                      have hq11 := dec_t hp11
                                      obtain ⟨hg2, F⟩ := gd_some F
                                      obtain ⟨hg3, F⟩ := gd_some F
                                      refine CW.region ?_
                                      refine LW.pure rfl rfl (RV.move rfl) ?_
                                      refine LW.pure rfl rfl (RV.nei rfl rfl) ?_
                                      refine LW.pure rfl rfl (RV.move rfl) ?_
                                      refine LW.pureYB rfl rfl rfl rfl (not_f hq8) (RV.move rfl) ?_
                                      refine LW.pureYB rfl rfl rfl rfl (not_f hq8) (RV.eqi rfl rfl) ?_
                                      refine LW.pureYB rfl rfl rfl rfl (not_f hq8) (RV.move rfl) ?_
                                      refine LW.pureYB rfl rfl rfl rfl hq9 (RV.fieldAddr Tf28_1 rfl) ?_
                                      refine LW.pureYB rfl rfl rfl rfl hq9 (RV.load1 Tk3 rfl ((H.blk 0 rfl).cells.off 1) rfl) ?_
                                      refine LW.pureYB rfl rfl rfl rfl hq9 (RV.gtr rfl rfl) ?_
                                      refine LW.pureYB rfl rfl rfl rfl (not_f hq8) (RV.pickTB rfl hq9 rfl) ?_
                                      refine LW.pureYB rfl rfl rfl rfl (not_f hq8) (RV.move rfl) ?_
                                      refine LW.pureYB rfl rfl rfl rfl hq10 (RV.fieldAddr Tf28_1 rfl) ?_
                                      refine LW.pureYB rfl rfl rfl rfl hq10 (RV.load1 Tk3 rfl ((H.blk 1 rfl).cells.off 1) rfl) ?_
                                      refine LW.pureYB rfl rfl rfl rfl hq10 (RV.gtr rfl rfl) ?_
                                      refine LW.pureYB rfl rfl rfl rfl (not_f hq8) (RV.pickTB rfl hq10 rfl) ?_
                                      refine LW.pureYB rfl rfl rfl rfl (not_f hq8) (RV.move rfl) ?_
                                      refine LW.pureYB rfl rfl rfl rfl hq11 (RV.fieldAddr Tf28_0 rfl) ?_
                                      refine LW.pureYB rfl rfl rfl rfl hq11 (RV.load1 Tk3 rfl ((H.blk 1 rfl).cells.off 0) rfl) ?_
                                      refine LW.pureYB rfl rfl rfl rfl hq11 (RV.fieldAddr Tf28_1 rfl) ?_
                                      refine LW.pureYB rfl rfl rfl rfl hq11 (RV.load1 Tk3 rfl ((H.blk 0 rfl).cells.off 1) rfl) ?_
                                      refine LW.pureYB rfl rfl rfl rfl hq11 (RV.mul rfl rfl hg2) ?_
                                      refine LW.pureYB rfl rfl rfl rfl hq11 (RV.fieldAddr Tf28_0 rfl) ?_
                                      refine LW.pureYB rfl rfl rfl rfl hq11 (RV.load1 Tk3 rfl ((H.blk 0 rfl).cells.off 0) rfl) ?_
                                      refine LW.pureYB rfl rfl rfl rfl hq11 (RV.fieldAddr Tf28_1 rfl) ?_
                                      refine LW.pureYB rfl rfl rfl rfl hq11 (RV.load1 Tk3 rfl ((H.blk 1 rfl).cells.off 1) rfl) ?_
                                      refine LW.pureYB rfl rfl rfl rfl hq11 (RV.mul rfl rfl hg3) ?_
                                      refine LW.pureYB rfl rfl rfl rfl hq11 (RV.leq rfl rfl) ?_
                                      refine LW.pureYB rfl rfl rfl rfl (not_f hq8) (RV.pickTB rfl hq11 rfl) ?_
                                      refine LW.pure rfl rfl (RV.pickFB rfl (not_f hq8) rfl) ?_
                                      refine LW.pure rfl rfl (RV.assign rfl) ?_
                                      refine LW.nil (hK25 _ _ ?_)
                                      refine CW.ret ?_
                                      obtain rfl := Option.some.inj F
                                      refine ⟨_, (ResOK.one rfl), ?_⟩
                                      refine ⟨(by first | rfl | simp), R0⟩
                                    ·
                                      replace F := ite_n hp11 F
                                      have hq11 := dec_f hp11
                                      refine CW.region ?_
                                      refine LW.pure rfl rfl (RV.move rfl) ?_
                                      refine LW.pure rfl rfl (RV.nei rfl rfl) ?_
                                      refine LW.pure rfl rfl (RV.move rfl) ?_
                                      refine LW.pureYB rfl rfl rfl rfl (not_f hq8) (RV.move rfl) ?_
                                      refine LW.pureYB rfl rfl rfl rfl (not_f hq8) (RV.eqi rfl rfl) ?_
                                      refine LW.pureYB rfl rfl rfl rfl (not_f hq8) (RV.move rfl) ?_
                                      refine LW.pureYB rfl rfl rfl rfl hq9 (RV.fieldAddr Tf28_1 rfl) ?_
                                      refine LW.pureYB rfl rfl rfl rfl hq9 (RV.load1 Tk3 rfl ((H.blk 0 rfl).cells.off 1) rfl) ?_
                                      refine LW.pureYB rfl rfl rfl rfl hq9 (RV.gtr rfl rfl) ?_
                                      refine LW.pureYB rfl rfl rfl rfl (not_f hq8) (RV.pickTB rfl hq9 rfl) ?_
                                      refine LW.pureYB rfl rfl rfl rfl (not_f hq8) (RV.move rfl) ?_
                                      refine LW.pureYB rfl rfl rfl rfl hq10 (RV.fieldAddr Tf28_1 rfl) ?_
                                      refine LW.pureYB rfl rfl rfl rfl hq10 (RV.load1 Tk3 rfl ((H.blk 1 rfl).cells.off 1) rfl) ?_
                                      refine LW.pureYB rfl rfl rfl rfl hq10 (RV.gtr rfl rfl) ?_
                                      refine LW.pureYB rfl rfl rfl rfl (not_f hq8) (RV.pickTB rfl hq10 rfl) ?_
                                      refine LW.pureYB rfl rfl rfl rfl (not_f hq8) (RV.move rfl) ?_
                                      refine LW.noB rfl rfl rfl rfl (ne_beq (v := false) hq11 rfl) ?_
                                      refine LW.noB rfl rfl rfl rfl (ne_beq (v := false) hq11 rfl) ?_
                                      refine LW.noB rfl rfl rfl rfl (ne_beq (v := false) hq11 rfl) ?_
                                      refine LW.noB rfl rfl rfl rfl (ne_beq (v := false) hq11 rfl) ?_
                                      refine LW.noB rfl rfl rfl rfl (ne_beq (v := false) hq11 rfl) ?_
                                      refine LW.noB rfl rfl rfl rfl (ne_beq (v := false) hq11 rfl) ?_
                                      refine LW.noB rfl rfl rfl rfl (ne_beq (v := false) hq11 rfl) ?_
                                      refine LW.noB rfl rfl rfl rfl (ne_beq (v := false) hq11 rfl) ?_
                                      refine LW.noB rfl rfl rfl rfl (ne_beq (v := false) hq11 rfl) ?_
                                      refine LW.noB rfl rfl rfl rfl (ne_beq (v := false) hq11 rfl) ?_
                                      refine LW.noB rfl rfl rfl rfl (ne_beq (v := false) hq11 rfl) ?_
                                      refine LW.pureYB rfl rfl rfl rfl (not_f hq8) (RV.pickFB rfl hq11 rfl) ?_
                                      refine LW.pure rfl rfl (RV.pickFB rfl (not_f hq8) rfl) ?_
                                      refine LW.pure rfl rfl (RV.assign rfl) ?_
                                      refine LW.nil (hK25 _ _ ?_)
                                      refine CW.ret ?_
                                      obtain rfl := Option.some.inj F
                                      refine ⟨_, (ResOK.one rfl), ?_⟩
                                      refine ⟨(by first | rfl | simp), R0⟩
                                  ·
                                    replace F := ite_n hp10 F
                                    have hq10 := dec_f hp10
                                    refine CW.region ?_
                                    refine LW.pure rfl rfl (RV.move rfl) ?_
                                    refine LW.pure rfl rfl (RV.nei rfl rfl) ?_
                                    refine LW.pure rfl rfl (RV.move rfl) ?_
                                    refine LW.pureYB rfl rfl rfl rfl (not_f hq8) (RV.move rfl) ?_
                                    refine LW.pureYB rfl rfl rfl rfl (not_f hq8) (RV.eqi rfl rfl) ?_
                                    refine LW.pureYB rfl rfl rfl rfl (not_f hq8) (RV.move rfl) ?_
                                    refine LW.pureYB rfl rfl rfl rfl hq9 (RV.fieldAddr Tf28_1 rfl) ?_
                                    refine LW.pureYB rfl rfl rfl rfl hq9 (RV.load1 Tk3 rfl ((H.blk 0 rfl).cells.off 1) rfl) ?_
                                    refine LW.pureYB rfl rfl rfl rfl hq9 (RV.gtr rfl rfl) ?_
                                    refine LW.pureYB rfl rfl rfl rfl (not_f hq8) (RV.pickTB rfl hq9 rfl) ?_
                                    refine LW.pureYB rfl rfl rfl rfl (not_f hq8) (RV.move rfl) ?_
                                    refine LW.noB rfl rfl rfl rfl (ne_beq (v := false) hq10 rfl) ?_
                                    refine LW.noB rfl rfl rfl rfl (ne_beq (v := false) hq10 rfl) ?_
                                    refine LW.noB rfl rfl rfl rfl (ne_beq (v := false) hq10 rfl) ?_
                                    refine LW.pureYB rfl rfl rfl rfl (not_f hq8) (RV.pickFB rfl hq10 rfl) ?_
                                    refine LW.pureYB rfl rfl rfl rfl (not_f hq8) (RV.move rfl) ?_
                                    refine LW.noB rfl rfl rfl rfl (ne_beq (v := false) rfl rfl) ?_
                                    refine LW.noB rfl rfl rfl rfl (ne_beq (v := false) rfl rfl) ?_
                                    refine LW.noB rfl rfl rfl rfl (ne_beq (v := false) rfl rfl) ?_
                                    refine LW.noB rfl rfl rfl rfl (ne_beq (v := false) rfl rfl) ?_
                                    refine LW.noB rfl rfl rfl rfl (ne_beq (v := false) rfl rfl) ?_
                                    refine LW.noB rfl rfl rfl rfl (ne_beq (v := false) rfl rfl) ?_
                                    refine LW.noB rfl rfl rfl rfl (ne_beq (v := false) rfl rfl) ?_
                                    refine LW.noB rfl rfl rfl rfl (ne_beq (v := false) rfl rfl) ?_
                                    refine LW.noB rfl rfl rfl rfl (ne_beq (v := false) rfl rfl) ?_
                                    refine LW.noB rfl rfl rfl rfl (ne_beq (v := false) rfl rfl) ?_
                                    refine LW.noB rfl rfl rfl rfl (ne_beq (v := false) rfl rfl) ?_
                                    refine LW.pureYB rfl rfl rfl rfl (not_f hq8) (RV.pickFB rfl rfl rfl) ?_
                                    refine LW.pure rfl rfl (RV.pickFB rfl (not_f hq8) rfl) ?_
                                    refine LW.pure rfl rfl (RV.assign rfl) ?_
                                    refine LW.nil (hK25 _ _ ?_)
                                    refine CW.ret ?_
                                    obtain rfl := Option.some.inj F
                                    refine ⟨_, (ResOK.one rfl), ?_⟩
                                    refine ⟨(by first | rfl | simp), R0⟩
                                ·
                                  replace F := ite_n hp9 F
                                  have hq9 := dec_f hp9
                                  refine CW.region ?_
                                  refine LW.pure rfl rfl (RV.move rfl) ?_
                                  refine LW.pure rfl rfl (RV.nei rfl rfl) ?_
                                  refine LW.pure rfl rfl (RV.move rfl) ?_
                                  refine LW.pureYB rfl rfl rfl rfl (not_f hq8) (RV.move rfl) ?_
                                  refine LW.pureYB rfl rfl rfl rfl (not_f hq8) (RV.eqi rfl rfl) ?_
                                  refine LW.pureYB rfl rfl rfl rfl (not_f hq8) (RV.move rfl) ?_
                                  refine LW.noB rfl rfl rfl rfl (ne_beq (v := false) hq9 rfl) ?_
                                  refine LW.noB rfl rfl rfl rfl (ne_beq (v := false) hq9 rfl) ?_
                                  refine LW.noB rfl rfl rfl rfl (ne_beq (v := false) hq9 rfl) ?_
                                  refine LW.pureYB rfl rfl rfl rfl (not_f hq8) (RV.pickFB rfl hq9 rfl) ?_
                                  refine LW.pureYB rfl rfl rfl rfl (not_f hq8) (RV.move rfl) ?_
                                  refine LW.noB rfl rfl rfl rfl (ne_beq (v := false) rfl rfl) ?_
                                  refine LW.noB rfl rfl rfl rfl (ne_beq (v := false) rfl rfl) ?_
                                  refine LW.noB rfl rfl rfl rfl (ne_beq (v := false) rfl rfl) ?_
                                  refine LW.pureYB rfl rfl rfl rfl (not_f hq8) (RV.pickFB rfl rfl rfl) ?_
                                  refine LW.pureYB rfl rfl rfl rfl (not_f hq8) (RV.move rfl) ?_
                                  refine LW.noB rfl rfl rfl rfl (ne_beq (v := false) rfl rfl) ?_
                                  refine LW.noB rfl rfl rfl rfl (ne_beq (v := false) rfl rfl) ?_
                                  refine LW.noB rfl rfl rfl rfl (ne_beq (v := false) rfl rfl) ?_
                                  refine LW.noB rfl rfl rfl rfl (ne_beq (v := false) rfl rfl) ?_
                                  refine LW.noB rfl rfl rfl rfl (ne_beq (v := false) rfl rfl) ?_
                                  refine LW.noB rfl rfl rfl rfl (ne_beq (v := false) rfl rfl) ?_
                                  refine LW.noB rfl rfl rfl rfl (ne_beq (v := false) rfl rfl) ?_
                                  refine LW.noB rfl rfl rfl rfl (ne_beq (v := false) rfl rfl) ?_
                                  refine LW.noB rfl rfl rfl rfl (ne_beq (v := false) rfl rfl) ?_
                                  refine LW.noB rfl rfl rfl rfl (ne_beq (v := false) rfl rfl) ?_
                                  refine LW.noB rfl rfl rfl rfl (ne_beq (v := false) rfl rfl) ?_
                                  refine LW.pureYB rfl rfl rfl rfl (not_f hq8) (RV.pickFB rfl rfl rfl) ?_
                                  refine LW.pure rfl rfl (RV.pickFB rfl (not_f hq8) rfl) ?_
                                  refine LW.pure rfl rfl (RV.assign rfl) ?_
                                  refine LW.nil (hK25 _ _ ?_)
                                  refine CW.ret ?_
                                  obtain rfl := Option.some.inj F
                                  refine ⟨_, (ResOK.one rfl), ?_⟩
                                  refine ⟨(by first | rfl | simp), R0⟩
                              ·
                                replace F := ite_n hp8 F
                                have hq8 := dec_f hp8
                                refine CW.region ?_
                                refine LW.pure rfl rfl (RV.move rfl) ?_
                                refine LW.pure rfl rfl (RV.nei rfl rfl) ?_
                                refine LW.pure rfl rfl (RV.move rfl) ?_
                                refine LW.noB rfl rfl rfl rfl (ne_beq (v := true) (not_t hq8) rfl) ?_
                                refine LW.noB rfl rfl rfl rfl (ne_beq (v := true) (not_t hq8) rfl) ?_
                                refine LW.noB rfl rfl rfl rfl (ne_beq (v := true) (not_t hq8) rfl) ?_
                                refine LW.noU rfl rfl rfl rfl ?_
                                refine LW.noU rfl rfl rfl rfl ?_
                                refine LW.noU rfl rfl rfl rfl ?_
                                refine LW.noB rfl rfl rfl rfl (ne_beq (v := true) (not_t hq8) rfl) ?_
                                refine LW.noB rfl rfl rfl rfl (ne_beq (v := true) (not_t hq8) rfl) ?_
                                refine LW.noU rfl rfl rfl rfl ?_
                                refine LW.noU rfl rfl rfl rfl ?_
                                refine LW.noU rfl rfl rfl rfl ?_
                                refine LW.noB rfl rfl rfl rfl (ne_beq (v := true) (not_t hq8) rfl) ?_
                                refine LW.noB rfl rfl rfl rfl (ne_beq (v := true) (not_t hq8) rfl) ?_
                                refine LW.noU rfl rfl rfl rfl ?_
                                refine LW.noU rfl rfl rfl rfl ?_
                                refine LW.noU rfl rfl rfl rfl ?_
                                refine LW.noU rfl rfl rfl rfl ?_
                                refine LW.noU rfl rfl rfl rfl ?_
                                refine LW.noU rfl rfl rfl rfl ?_
                                refine LW.noU rfl rfl rfl rfl ?_
                                refine LW.noU rfl rfl rfl rfl ?_
                                refine LW.noU rfl rfl rfl rfl ?_
                                refine LW.noU rfl rfl rfl rfl ?_
                                refine LW.noU rfl rfl rfl rfl ?_
                                refine LW.noB rfl rfl rfl rfl (ne_beq (v := true) (not_t hq8) rfl) ?_
                                refine LW.pure rfl rfl (RV.pickTB rfl (not_t hq8) rfl) ?_
                                refine LW.pure rfl rfl (RV.assign rfl) ?_
                                refine LW.nil (hK25 _ _ ?_)
                                refine CW.ret ?_
                                obtain rfl := Option.some.inj F
                                refine ⟨_, (ResOK.one rfl), ?_⟩
                                refine ⟨(by first | rfl | simp), R0⟩
                          ·
                            intro K26 hK26 jK339
                            by_cases hp12 : r6.2 = 0
                            ·
                              replace F := ite_y hp12 F
                              have hq12 := dec_t hp12
                              by_cases hp13 : r6.1.den < 1
                              ·
                                replace F := ite_y hp13 F
                                have hq13 := dec_t hp13
                                refine CW.draw [] (fun _ => True) (.cons 0 1 (.cons 1 1 (.cons 2 1 (.cons 3 1 (.cons 4 1 (.cons 5 1 (.cons 6 1 (.cons 7 1 (.cons 8 1 (.cons 9 1 (.cons 10 1 (.cons 11 1 (.cons 12 1 (.cons 13 1 (.cons 14 1 (.cons 15 1 (.cons 16 1 (.cons 17 1 (.cons 18 1 (.cons 19 1 (.cons 20 1 .nil))))))))))))))))))))) mixed (by kernel_rfl) fun w28 E8 => ?_
                                replace H := H.grow E8
                                replace R0 := H.ext
                                refine DW.fix rfl rfl rfl (fun _ EQ => RV.move rfl) ?_
                                refine DW.fix rfl rfl rfl (fun _ EQ => RV.nei rfl rfl) ?_
                                refine DW.fix rfl rfl rfl (fun _ EQ => RV.move rfl) ?_
                                refine DW.fixYB rfl rfl rfl rfl rfl (not_f hq12) (fun _ EQ => RV.fieldAddr Tf28_1 rfl) ?_
                                refine DW.fixYB rfl rfl rfl rfl rfl (not_f hq12) (fun _ EQ => RV.load1 Tk3 rfl (((H.grow EQ).blk 0 rfl).cells.off 1) rfl) ?_
                                refine DW.fixYB rfl rfl rfl rfl rfl (not_f hq12) (fun _ EQ => RV.lss rfl rfl) ?_
                                refine DW.fix rfl rfl rfl (fun _ EQ => RV.pickFB rfl (not_f hq12) rfl) ?_
                                refine DW.fix rfl rfl rfl (fun _ EQ => RV.move rfl) ?_
                                refine DW.fixNB rfl rfl rfl rfl rfl (ne_beq (v := true) hq13 rfl) ?_
                                refine DW.fixNB rfl rfl rfl rfl rfl (ne_beq (v := true) hq13 rfl) ?_
                                refine DW.fixNB rfl rfl rfl rfl rfl (ne_beq (v := true) hq13 rfl) ?_
                                refine DW.fixNB rfl rfl rfl rfl rfl (ne_beq (v := true) hq13 rfl) ?_
                                refine DW.fixNB rfl rfl rfl rfl rfl (ne_beq (v := true) hq13 rfl) ?_
                                refine DW.fixNB rfl rfl rfl rfl rfl (ne_beq (v := true) hq13 rfl) ?_
                                refine DW.fixNB rfl rfl rfl rfl rfl (ne_beq (v := true) hq13 rfl) ?_
                                refine DW.fixNB rfl rfl rfl rfl rfl (ne_beq (v := true) hq13 rfl) ?_
                                refine DW.fixNB rfl rfl rfl rfl rfl (ne_beq (v := true) hq13 rfl) ?_
                                refine DW.fixNB rfl rfl rfl rfl rfl (ne_beq (v := true) hq13 rfl) ?_
                                refine DW.fixNB rfl rfl rfl rfl rfl (ne_beq (v := true) hq13 rfl) ?_
                                refine DW.fixNB rfl rfl rfl rfl rfl (ne_beq (v := true) hq13 rfl) ?_
                                refine DW.fix rfl rfl rfl (fun _ EQ => RV.pickTB rfl hq13 rfl) ?_
                                replace H := H.pick (L' := [.blk b10 28 [.int .i64 r1.1.num, .int .i64 r1.1.den], .blk b11 28 [.int .i64 r2.1.num, .int .i64 r2.1.den]]) [2, 1] (by decide) rfl
                                replace R0 := H.ext
                                refine DW.nil (jK339 _ _ ⟨_, ?_, ⟨true, F, rfl, H⟩⟩)
                                exact ⟨rfl, rfl, rfl, rfl, rfl, rfl, trivial⟩
                              ·
                                replace F := ite_n hp13 F
                                have hq13 := dec_f hp13
                                obtain ⟨hg4, F⟩ := gd_some F
                                obtain ⟨hg5, F⟩ := gd_some F
                                obtain ⟨hg6, F⟩ := gd_some F
                                refine CW.draw [] (fun _ => True) (.cons 0 1 (.cons 1 1 (.cons 2 1 (.cons 3 1 (.cons 4 1 (.cons 5 1 (.cons 6 1 (.cons 7 1 (.cons 8 1 (.cons 9 1 (.cons 10 1 (.cons 11 1 (.cons 12 1 (.cons 13 1 (.cons 14 1 (.cons 15 1 (.cons 16 1 (.cons 17 1 (.cons 18 1 (.cons 19 1 (.cons 20 1 .nil))))))))))))))))))))) mixed (by kernel_rfl) fun w29 E9 => ?_
                                replace H := H.grow E9
                                replace R0 := H.ext
                                refine DW.fix rfl rfl rfl (fun _ EQ => RV.move rfl) ?_
                                refine DW.fix rfl rfl rfl (fun _ EQ => RV.nei rfl rfl) ?_
                                refine DW.fix rfl rfl rfl (fun _ EQ => RV.move rfl) ?_
                                refine DW.fixYB rfl rfl rfl rfl rfl (not_f hq12) (fun _ EQ => RV.fieldAddr Tf28_1 rfl) ?_
                                refine DW.fixYB rfl rfl rfl rfl rfl (not_f hq12) (fun _ EQ => RV.load1 Tk3 rfl (((H.grow EQ).blk 0 rfl).cells.off 1) rfl) ?_
                                refine DW.fixYB rfl rfl rfl rfl rfl (not_f hq12) (fun _ EQ => RV.lss rfl rfl) ?_
                                refine DW.fix rfl rfl rfl (fun _ EQ => RV.pickFB rfl (not_f hq12) rfl) ?_
                                refine DW.fix rfl rfl rfl (fun _ EQ => RV.move rfl) ?_
                                refine DW.fixYB rfl rfl rfl rfl rfl hq13 (fun _ EQ => RV.fieldAddr Tf28_0 rfl) ?_
                                refine DW.fixYB rfl rfl rfl rfl rfl hq13 (fun _ EQ => RV.load1 Tk3 rfl (((H.grow EQ).blk 0 rfl).cells.off 0) rfl) ?_
                                refine DW.fixYB rfl rfl rfl rfl rfl hq13 (fun _ EQ => RV.fieldAddr Tf28_1 rfl) ?_
                                refine DW.fixYB rfl rfl rfl rfl rfl hq13 (fun _ EQ => RV.load1 Tk3 rfl (((H.grow EQ).blk 0 rfl).cells.off 1) rfl) ?_
                                refine DW.fixYB rfl rfl rfl rfl rfl hq13 (fun _ EQ => RV.quo rfl rfl hg4) ?_
                                refine DW.fixYB rfl rfl rfl rfl rfl hq13 (fun _ EQ => RV.fieldAddr Tf28_0 rfl) ?_
                                refine DW.fixYB rfl rfl rfl rfl rfl hq13 (fun _ EQ => RV.load1 Tk3 rfl (((H.grow EQ).blk 9 rfl).cells.off 0) rfl) ?_
                                refine DW.fixYB rfl rfl rfl rfl rfl hq13 (fun _ EQ => RV.fieldAddr Tf28_1 rfl) ?_
                                refine DW.fixYB rfl rfl rfl rfl rfl hq13 (fun _ EQ => RV.load1 Tk3 rfl (((H.grow EQ).blk 9 rfl).cells.off 1) rfl) ?_
                                refine DW.fixYB rfl rfl rfl rfl rfl hq13 (fun _ EQ => RV.quo rfl rfl hg5) ?_
                                refine DW.fixYB rfl rfl rfl rfl rfl hq13 (fun _ EQ => RV.sub rfl rfl hg6) ?_
                                refine DW.fixYB rfl rfl rfl rfl rfl hq13 (fun _ EQ => RV.lss rfl rfl) ?_
                                refine DW.fix rfl rfl rfl (fun _ EQ => RV.pickFB rfl hq13 rfl) ?_
                                replace H := H.pick (L' := [.blk b10 28 [.int .i64 r1.1.num, .int .i64 r1.1.den], .blk b11 28 [.int .i64 r2.1.num, .int .i64 r2.1.den]]) [2, 1] (by decide) rfl
                                replace R0 := H.ext
                                refine DW.nil (jK339 _ _ ⟨_, ?_, ⟨(decide ((Int.tdiv r6.1.num r6.1.den) < ((Int.tdiv r4.1.num r4.1.den) - 1))), F, rfl, H⟩⟩)
                                exact ⟨rfl, rfl, rfl, rfl, rfl, rfl, trivial⟩
                            ·
                              replace F := ite_n hp12 F
                              have hq12 := dec_f hp12
                              refine CW.draw [] (fun _ => True) (.cons 0 1 (.cons 1 1 (.cons 2 1 (.cons 3 1 (.cons 4 1 (.cons 5 1 (.cons 6 1 (.cons 7 1 (.cons 8 1 (.cons 9 1 (.cons 10 1 (.cons 11 1 (.cons 12 1 (.cons 13 1 (.cons 14 1 (.cons 15 1 (.cons 16 1 (.cons 17 1 (.cons 18 1 (.cons 19 1 (.cons 20 1 .nil))))))))))))))))))))) mixed (by kernel_rfl) fun w30 E10 => ?_
                              replace H := H.grow E10
                              replace R0 := H.ext
                              refine DW.fix rfl rfl rfl (fun _ EQ => RV.move rfl) ?_
                              refine DW.fix rfl rfl rfl (fun _ EQ => RV.nei rfl rfl) ?_
                              refine DW.fix rfl rfl rfl (fun _ EQ => RV.move rfl) ?_
                              refine DW.fixNB rfl rfl rfl rfl rfl (ne_beq (v := true) (not_t hq12) rfl) ?_
                              refine DW.fixNB rfl rfl rfl rfl rfl (ne_beq (v := true) (not_t hq12) rfl) ?_
                              refine DW.fixNB rfl rfl rfl rfl rfl (ne_beq (v := true) (not_t hq12) rfl) ?_
                              refine DW.fix rfl rfl rfl (fun _ EQ => RV.pickTB rfl (not_t hq12) rfl) ?_
                              refine DW.fix rfl rfl rfl (fun _ EQ => RV.move rfl) ?_
                              refine DW.fixNB rfl rfl rfl rfl rfl (ne_beq (v := true) rfl rfl) ?_
                              refine DW.fixNB rfl rfl rfl rfl rfl (ne_beq (v := true) rfl rfl) ?_
                              refine DW.fixNB rfl rfl rfl rfl rfl (ne_beq (v := true) rfl rfl) ?_
                              refine DW.fixNB rfl rfl rfl rfl rfl (ne_beq (v := true) rfl rfl) ?_
                              refine DW.fixNB rfl rfl rfl rfl rfl (ne_beq (v := true) rfl rfl) ?_
                              refine DW.fixNB rfl rfl rfl rfl rfl (ne_beq (v := true) rfl rfl) ?_
                              refine DW.fixNB rfl rfl rfl rfl rfl (ne_beq (v := true) rfl rfl) ?_
                              refine DW.fixNB rfl rfl rfl rfl rfl (ne_beq (v := true) rfl rfl) ?_
                              refine DW.fixNB rfl rfl rfl rfl rfl (ne_beq (v := true) rfl rfl) ?_
                              refine DW.fixNB rfl rfl rfl rfl rfl (ne_beq (v := true) rfl rfl) ?_
                              refine DW.fixNB rfl rfl rfl rfl rfl (ne_beq (v := true) rfl rfl) ?_
                              refine DW.fixNB rfl rfl rfl rfl rfl (ne_beq (v := true) rfl rfl) ?_
                              refine DW.fix rfl rfl rfl (fun _ EQ => RV.pickTB rfl rfl rfl) ?_
                              replace H := H.pick (L' := [.blk b10 28 [.int .i64 r1.1.num, .int .i64 r1.1.den], .blk b11 28 [.int .i64 r2.1.num, .int .i64 r2.1.den]]) [2, 1] (by decide) rfl
                              replace R0 := H.ext
                              refine DW.nil (jK339 _ _ ⟨_, ?_, ⟨true, F, rfl, H⟩⟩)
                              exact ⟨rfl, rfl, rfl, rfl, rfl, rfl, trivial⟩
                        ·
                          replace F := ite_n hp6 F
                          have hq6 := dec_f hp6
                          refine CW.condT rfl (not_t hq6) ?_
                          refine CW.seq fun K27 hK27 => ?_
                          refine CW.region ?_
                          refine LW.pure rfl rfl (RV.assign rfl) ?_
                          refine LW.nil (hK27 _ _ ?_)
                          refine CW.ret ?_
                          obtain rfl := Option.some.inj F
                          refine ⟨_, (ResOK.one rfl), ?_⟩
                          refine ⟨(by first | rfl | simp), R0⟩
                      ·
                        replace F := ite_n hp5 F
                        have hq5 : ((c4_0_1 == a0.points - ((r3.1.length : Int))) && (c4_1_1 == 1)) = false := raw_f hp5
                        refine CW.condT rfl (not_t hq5) ?_
                        refine CW.seq fun K28 hK28 => ?_
                        refine CW.region ?_
                        refine LW.pure rfl rfl (RV.assign rfl) ?_
                        refine LW.nil (hK28 _ _ ?_)
                        refine CW.ret ?_
                        obtain rfl := Option.some.inj F
                        refine ⟨_, (ResOK.one rfl), ?_⟩
                        refine ⟨(by first | rfl | simp), R0⟩
                    ·
                      intro K29 hK29 jK342
                      refine CW.seq fun K30 hK30 => ?_
                      refine CW.region ?_
                      refine LW.pure rfl rfl (RV.assign rfl) ?_
                      refine LW.nil (hK30 _ _ ?_)
                      refine CW.block ?_
                      replace H := H.pick (L' := [.tab A26_0 c26_0 39 hs26_0 3 1 (encM encN r3.1), .blk b1 24 [.int .i64 a0.points, .slice A_a0_readings a0.readings.length c_a0_readings], .blk b2 74 [.slice A_a1_heights a1.heights.length c_a1_heights, .int .i64 a1.i, .int .i64 a1.j], .blk b3 46 [.int .i64 a2.from_, .int .i64 a2.to_, .int .i64 a2.rise, .int .i64 a2.weight], .blk b7 28 [.int .i64 r4.1.num, .int .i64 r4.1.den], .blk b8 28 [.int .i64 0, .int .i64 1]]) [1, 2, 3, 4, 5, 0] (by decide) rfl
                      replace R0 := H.ext
                      refine CW.loop (fun meas ρ wl8 => ∃ (t20_1 : Int) (c4_0_2 : Int) (c4_1_2 : Int), top_TopHeights_L1 a0 a1 a2 r3 r4 meas t20_1 c4_0_2 c4_1_2 = some res ∧ ρ = [(3, .pointer (some (⟨b1, 0, none⟩))), (4, .pointer (some (⟨b2, 0, none⟩))), (5, .pointer (some (⟨b3, 0, none⟩))), (6, .bool false), (10, .slice A26_0 r3.1.length c26_0), (12, .pointer (some (⟨b7, 0, none⟩))), (19, .pointer (some (⟨b8, 0, none⟩))), (20, .int .i64 t20_1)] ∧ Hp w wl8 [.tab A26_0 c26_0 39 hs26_0 3 1 (encM encN r3.1), .blk b1 24 [.int .i64 a0.points, .slice A_a0_readings a0.readings.length c_a0_readings], .blk b2 74 [.slice A_a1_heights a1.heights.length c_a1_heights, .int .i64 a1.i, .int .i64 a1.j], .blk b3 46 [.int .i64 a2.from_, .int .i64 a2.to_, .int .i64 a2.rise, .int .i64 a2.weight], .blk b7 28 [.int .i64 r4.1.num, .int .i64 r4.1.den], .blk b8 28 [.int .i64 c4_0_2, .int .i64 c4_1_2]]) FU ⟨_, ?_, ((0 : Int)), ((0 : Int)), ((1 : Int)), F, rfl, H⟩ ?_
                      · exact ⟨rfl, rfl, rfl, rfl, (look_slice rfl (by first | rfl | (simp; done) | omega | (simp; omega))), rfl, rfl, rfl, trivial⟩
                      rintro mk1 _ wl8 ⟨t20_1, c4_0_2, c4_1_2, F, rfl, H⟩
                      have R0 := H.ext
                      replace F := top_TopHeights_L1_s F
                      obtain ⟨mk1, rfl, F⟩ := F
                      generalize hrec1 : top_TopHeights_L1 a0 a1 a2 r3 r4 mk1 = rec1 at F
                      unfold top_TopHeights_B1 at F
                      refine CW.seq fun K31 hK31 => ?_
                      refine CW.seq fun K32 hK32 => ?_
                      refine CW.region ?_
                      refine LW.pure rfl rfl (RV.move rfl) ?_
                      refine LW.pure rfl rfl (RV.fieldAddr Tf24_1 rfl) ?_
                      refine LW.pure rfl rfl (RV.load1 Tk22 rfl ((H.blk 1 rfl).cells.off 1) rfl) ?_
                      refine LW.pure rfl rfl (RV.len Ts22 rfl) ?_
                      refine LW.pure rfl rfl (RV.lss rfl rfl) ?_
                      refine LW.nil (hK32 _ _ ?_)
                      by_cases hp14 : t20_1 < ((a0.readings.length : Int))
                      ·
                        replace F := ite_y hp14 F
                        have hq14 := dec_t hp14
                        refine CW.condT rfl hq14 ?_
                        refine CW.skip (hK31 _ _ ?_)
                        refine CW.seq fun K33 hK33 => ?_
                        refine CW.block ?_
                        refine CW.seq fun K34 hK34 => ?_
                        obtain ⟨r7, hr7, F⟩ := bnd_some F
                        refine CW.region ?_
                        refine LW.pure rfl rfl (RV.loadA [.int .i64 a0.points, .slice A_a0_readings a0.readings.length c_a0_readings] Tk24 rfl (H.blk 1 rfl).cells rfl rfl) ?_
                        refine LW.pure rfl rfl (RV.move rfl) ?_
                        refine LW.go rfl rfl (OW.call Tc32 rfl (level_Share_ok (a0 := a0) (a1 := t20_1) (h_a0_readings.ext R0) hr7) ?_)
                        rintro _ w31 ⟨rfl, E11⟩
                        refine ⟨_, rfl, ?_⟩
                        replace H := H.grow E11
                        replace R0 := H.ext
                        refine LW.pure rfl rfl (RV.move rfl) ?_
                        refine LW.pure rfl rfl (RV.extract rfl rfl) ?_
                        refine LW.pure rfl rfl (RV.extract rfl rfl) ?_
                        refine LW.go rfl rfl (OW.alloc Tz28 fun b13 w32 N13 => ?_)
                        replace H := H.new N13 N13.blk
                        replace R0 := H.ext
                        refine LW.go rfl rfl (OW.store Tk28 rfl rfl (H.blk 0 rfl) (off := 0) (vs := [.int .i64 r7.1.num, .int .i64 r7.1.den]) rfl rfl rfl rfl rfl fun w33 S9 => ?_)
                        replace H : Hp w w33 [.blk b13 28 [.int .i64 r7.1.num, .int .i64 r7.1.den], .tab A26_0 c26_0 39 hs26_0 3 1 (encM encN r3.1), .blk b1 24 [.int .i64 a0.points, .slice A_a0_readings a0.readings.length c_a0_readings], .blk b2 74 [.slice A_a1_heights a1.heights.length c_a1_heights, .int .i64 a1.i, .int .i64 a1.j], .blk b3 46 [.int .i64 a2.from_, .int .i64 a2.to_, .int .i64 a2.rise, .int .i64 a2.weight], .blk b7 28 [.int .i64 r4.1.num, .int .i64 r4.1.den], .blk b8 28 [.int .i64 c4_0_2, .int .i64 c4_1_2]] := H.stored 0 rfl S9
                        replace R0 := H.ext
                        refine LW.pure rfl rfl (RV.assign rfl) ?_
                        refine LW.nil (hK34 _ _ ?_)
                        refine CW.seq fun K35 hK35 => ?_
                        refine CW.seqJ (fun ρ wl9 => (∃ (t220_1 : Bool), top_TopHeights_k3 t20_1 c4_0_2 c4_1_2 rec1 r7 t220_1 = some res ∧ ρ = [(3, .pointer (some (⟨b1, 0, none⟩))), (4, .pointer (some (⟨b2, 0, none⟩))), (5, .pointer (some (⟨b3, 0, none⟩))), (6, .bool false), (10, .slice A26_0 r3.1.length c26_0), (12, .pointer (some (⟨b7, 0, none⟩))), (19, .pointer (some (⟨b8, 0, none⟩))), (20, .int .i64 t20_1), (21, .pointer (some (⟨b13, 0, none⟩))), (220, .bool t220_1)] ∧ Hp w wl9 [.tab A26_0 c26_0 39 hs26_0 3 1 (encM encN r3.1), .blk b1 24 [.int .i64 a0.points, .slice A_a0_readings a0.readings.length c_a0_readings], .blk b2 74 [.slice A_a1_heights a1.heights.length c_a1_heights, .int .i64 a1.i, .int .i64 a1.j], .blk b3 46 [.int .i64 a2.from_, .int .i64 a2.to_, .int .i64 a2.rise, .int .i64 a2.weight], .blk b7 28 [.int .i64 r4.1.num, .int .i64 r4.1.den], .blk b8 28 [.int .i64 c4_0_2, .int .i64 c4_1_2], .blk b13 28 [.int .i64 r7.1.num, .int .i64 r7.1.den]])) ?_ ?_
                        ·
                          rintro _ wl9 ⟨t220_1, F, rfl, H⟩
                          have R0 := H.ext
                          unfold top_TopHeights_k3 at F
                          by_cases hp15 : t220_1 = true
                          ·
                            replace F := ite_y hp15 F
                            have hq15 : t220_1 = true := hp15
                            refine CW.condT rfl hq15 ?_
                            refine CW.seq fun K36 hK36 => ?_
                            refine CW.region ?_
                            refine LW.pure rfl rfl (RV.assign rfl) ?_
                            refine LW.nil (hK36 _ _ ?_)
                            refine CW.ret ?_
                            obtain rfl := Option.some.inj F
                            refine ⟨_, (ResOK.one rfl), ?_⟩
                            refine ⟨(by first | rfl | simp), R0⟩
                          ·
                            replace F := ite_n hp15 F
                            have hq15 : t220_1 = false := raw_f hp15
                            refine CW.condF rfl hq15 ?_
                            refine CW.skip (hK35 _ _ ?_)
                            obtain ⟨hg7, F⟩ := gd_some F
                            obtain ⟨hg8, F⟩ := gd_some F
                            obtain ⟨hg9, F⟩ := gd_some F
                            obtain ⟨hg10, F⟩ := gd_some F
                            obtain ⟨r8, hr8, F⟩ := bnd_some F
                            refine CW.region ?_
                            refine LW.pure rfl rfl (RV.fieldAddr Tf28_0 rfl) ?_
                            refine LW.pure rfl rfl (RV.load1 Tk3 rfl ((H.blk 5 rfl).cells.off 0) rfl) ?_
                            refine LW.pure rfl rfl (RV.fieldAddr Tf28_1 rfl) ?_
                            refine LW.pure rfl rfl (RV.load1 Tk3 rfl ((H.blk 6 rfl).cells.off 1) rfl) ?_
                            refine LW.pure rfl rfl (RV.mul rfl rfl hg7) ?_
                            refine LW.pure rfl rfl (RV.fieldAddr Tf28_0 rfl) ?_
                            refine LW.pure rfl rfl (RV.load1 Tk3 rfl ((H.blk 6 rfl).cells.off 0) rfl) ?_
                            refine LW.pure rfl rfl (RV.fieldAddr Tf28_1 rfl) ?_
                            refine LW.pure rfl rfl (RV.load1 Tk3 rfl ((H.blk 5 rfl).cells.off 1) rfl) ?_
                            refine LW.pure rfl rfl (RV.mul rfl rfl hg8) ?_
                            refine LW.pure rfl rfl (RV.add rfl rfl hg9) ?_
                            refine LW.pure rfl rfl (RV.fieldAddr Tf28_1 rfl) ?_
                            refine LW.pure rfl rfl (RV.load1 Tk3 rfl ((H.blk 5 rfl).cells.off 1) rfl) ?_
                            refine LW.pure rfl rfl (RV.fieldAddr Tf28_1 rfl) ?_
                            refine LW.pure rfl rfl (RV.load1 Tk3 rfl ((H.blk 6 rfl).cells.off 1) rfl) ?_
                            refine LW.pure rfl rfl (RV.mul rfl rfl hg10) ?_
                            refine LW.go rfl rfl (OW.call Tc33 rfl (ref01_Ratio_ok (a0 := (c4_0_2 * r7.1.den) + (r7.1.num * c4_1_2)) (a1 := c4_1_2 * r7.1.den) hr8) ?_)
                            rintro _ w34 ⟨rfl, E12⟩
                            refine ⟨_, rfl, ?_⟩
                            replace H := H.grow E12
                            replace R0 := H.ext
                            refine LW.go rfl rfl (OW.store Tk28 rfl rfl (H.blk 5 rfl) (off := 0) (vs := [.int .i64 r8.num, .int .i64 r8.den]) rfl rfl rfl rfl rfl fun w35 S10 => ?_)
                            replace H : Hp w w35 [.tab A26_0 c26_0 39 hs26_0 3 1 (encM encN r3.1), .blk b1 24 [.int .i64 a0.points, .slice A_a0_readings a0.readings.length c_a0_readings], .blk b2 74 [.slice A_a1_heights a1.heights.length c_a1_heights, .int .i64 a1.i, .int .i64 a1.j], .blk b3 46 [.int .i64 a2.from_, .int .i64 a2.to_, .int .i64 a2.rise, .int .i64 a2.weight], .blk b7 28 [.int .i64 r4.1.num, .int .i64 r4.1.den], .blk b8 28 [.int .i64 r8.num, .int .i64 r8.den], .blk b13 28 [.int .i64 r7.1.num, .int .i64 r7.1.den]] := H.stored 5 rfl S10
                            replace R0 := H.ext
                            refine LW.nil (hK33 _ _ ?_)
                            obtain ⟨hg11, F⟩ := gd_some F
                            refine CW.region ?_
                            refine LW.pure rfl rfl (RV.move rfl) ?_
                            refine LW.pure rfl rfl (RV.add rfl rfl hg11) ?_
                            refine LW.pure rfl rfl (RV.assign rfl) ?_
                            refine LW.nil ?_
                            replace H := H.pick (L' := [.tab A26_0 c26_0 39 hs26_0 3 1 (encM encN r3.1), .blk b1 24 [.int .i64 a0.points, .slice A_a0_readings a0.readings.length c_a0_readings], .blk b2 74 [.slice A_a1_heights a1.heights.length c_a1_heights, .int .i64 a1.i, .int .i64 a1.j], .blk b3 46 [.int .i64 a2.from_, .int .i64 a2.to_, .int .i64 a2.rise, .int .i64 a2.weight], .blk b7 28 [.int .i64 r4.1.num, .int .i64 r4.1.den], .blk b8 28 [.int .i64 r8.num, .int .i64 r8.den]]) [0, 1, 2, 3, 4, 5] (by decide) rfl
                            replace R0 := H.ext
                            subst hrec1
                            refine ⟨mk1, Nat.lt_succ_self _, _, ?_, (t20_1 + 1), r8.num, r8.den, F, rfl, H⟩
                            exact ⟨rfl, rfl, rfl, rfl, (look_slice rfl (by first | rfl | (simp; done) | omega | (simp; omega))), rfl, rfl, rfl, trivial⟩
                        ·
                          intro K37 hK37 jK364
                          by_cases hp16 : r7.2 = 0
                          ·
                            replace F := ite_y hp16 F
                            have hq16 := dec_t hp16
                            by_cases hp17 : r7.1.den < 1
                            ·
                              replace F := ite_y hp17 F
                              have hq17 := dec_t hp17
                              refine CW.region ?_
                              refine LW.pure rfl rfl (RV.move rfl) ?_
                              refine LW.pure rfl rfl (RV.nei rfl rfl) ?_
                              refine LW.pure rfl rfl (RV.move rfl) ?_
                              refine LW.pureYB rfl rfl rfl rfl (not_f hq16) (RV.fieldAddr Tf28_1 rfl) ?_
                              refine LW.pureYB rfl rfl rfl rfl (not_f hq16) (RV.load1 Tk3 rfl ((H.blk 0 rfl).cells.off 1) rfl) ?_
                              refine LW.pureYB rfl rfl rfl rfl (not_f hq16) (RV.lss rfl rfl) ?_
                              refine LW.pure rfl rfl (RV.pickFB rfl (not_f hq16) rfl) ?_
                              refine LW.pure rfl rfl (RV.move rfl) ?_
                              refine LW.noB rfl rfl rfl rfl (ne_beq (v := true) hq17 rfl) ?_
                              refine LW.noB rfl rfl rfl rfl (ne_beq (v := true) hq17 rfl) ?_
                              refine LW.noB rfl rfl rfl rfl (ne_beq (v := true) hq17 rfl) ?_
                              refine LW.pure rfl rfl (RV.pickTB rfl hq17 rfl) ?_
                              refine LW.pure rfl rfl (RV.move rfl) ?_
                              refine LW.noB rfl rfl rfl rfl (ne_beq (v := true) rfl rfl) ?_
                              refine LW.noB rfl rfl rfl rfl (ne_beq (v := true) rfl rfl) ?_
                              refine LW.noB rfl rfl rfl rfl (ne_beq (v := true) rfl rfl) ?_
                              refine LW.pure rfl rfl (RV.pickTB rfl rfl rfl) ?_
                              replace H := H.pick (L' := [.tab A26_0 c26_0 39 hs26_0 3 1 (encM encN r3.1), .blk b1 24 [.int .i64 a0.points, .slice A_a0_readings a0.readings.length c_a0_readings], .blk b2 74 [.slice A_a1_heights a1.heights.length c_a1_heights, .int .i64 a1.i, .int .i64 a1.j], .blk b3 46 [.int .i64 a2.from_, .int .i64 a2.to_, .int .i64 a2.rise, .int .i64 a2.weight], .blk b7 28 [.int .i64 r4.1.num, .int .i64 r4.1.den], .blk b8 28 [.int .i64 c4_0_2, .int .i64 c4_1_2], .blk b13 28 [.int .i64 r7.1.num, .int .i64 r7.1.den]]) [1, 2, 3, 4, 5, 6, 0] (by decide) rfl
                              replace R0 := H.ext
                              refine LW.nil (jK364 _ _ ⟨_, ?_, ⟨true, F, rfl, H⟩⟩)
                              exact ⟨rfl, rfl, rfl, rfl, (look_slice rfl (by first | rfl | (simp; done) | omega | (simp; omega))), rfl, rfl, rfl, rfl, rfl, trivial⟩
                            ·
                              replace F := ite_n hp17 F
                              have hq17 := dec_f hp17
                              by_cases hp18 : (1000000 : Int) < r7.1.den
                              ·
                                replace F := ite_y hp18 F
                                have hq18 := dec_t hp18
                                refine CW.region ?_
                                refine LW.pure rfl rfl (RV.move rfl) ?_
                                refine LW.pure rfl rfl (RV.nei rfl rfl) ?_
                                refine LW.pure rfl rfl (RV.move rfl) ?_
                                refine LW.pureYB rfl rfl rfl rfl (not_f hq16) (RV.fieldAddr Tf28_1 rfl) ?_
                                refine LW.pureYB rfl rfl rfl rfl (not_f hq16) (RV.load1 Tk3 rfl ((H.blk 0 rfl).cells.off 1) rfl) ?_
                                refine LW.pureYB rfl rfl rfl rfl (not_f hq16) (RV.lss rfl rfl) ?_
                                refine LW.pure rfl rfl (RV.pickFB rfl (not_f hq16) rfl) ?_
                                refine LW.pure rfl rfl (RV.move rfl) ?_
                                refine LW.pureYB rfl rfl rfl rfl hq17 (RV.fieldAddr Tf28_1 rfl) ?_
                                refine LW.pureYB rfl rfl rfl rfl hq17 (RV.load1 Tk3 rfl ((H.blk 0 rfl).cells.off 1) rfl) ?_
                                refine LW.pureYB rfl rfl rfl rfl hq17 (RV.gtr rfl rfl) ?_
                                refine LW.pure rfl rfl (RV.pickFB rfl hq17 rfl) ?_
                                refine LW.pure rfl rfl (RV.move rfl) ?_
                                refine LW.noB rfl rfl rfl rfl (ne_beq (v := true) hq18 rfl) ?_
                                refine LW.noB rfl rfl rfl rfl (ne_beq (v := true) hq18 rfl) ?_
                                refine LW.noB rfl rfl rfl rfl (ne_beq (v := true) hq18 rfl) ?_
                                refine LW.pure rfl rfl (RV.pickTB rfl hq18 rfl) ?_
                                replace H := H.pick (L' := [.tab A26_0 c26_0 39 hs26_0 3 1 (encM encN r3.1), .blk b1 24 [.int .i64 a0.points, .slice A_a0_readings a0.readings.length c_a0_readings], .blk b2 74 [.slice A_a1_heights a1.heights.length c_a1_heights, .int .i64 a1.i, .int .i64 a1.j], .blk b3 46 [.int .i64 a2.from_, .int .i64 a2.to_, .int .i64 a2.rise, .int .i64 a2.weight], .blk b7 28 [.int .i64 r4.1.num, .int .i64 r4.1.den], .blk b8 28 [.int .i64 c4_0_2, .int .i64 c4_1_2], .blk b13 28 [.int .i64 r7.1.num, .int .i64 r7.1.den]]) [1, 2, 3, 4, 5, 6, 0] (by decide) rfl
                                replace R0 := H.ext
                                refine LW.nil (jK364 _ _ ⟨_, ?_, ⟨true, F, rfl, H⟩⟩)
                                exact ⟨rfl, rfl, rfl, rfl, (look_slice rfl (by first | rfl | (simp; done) | omega | (simp; omega))), rfl, rfl, rfl, rfl, rfl, trivial⟩
                              ·
                                replace F := ite_n hp18 F
                                have hq18 := dec_f hp18
                                refine CW.region ?_
                                refine LW.pure rfl rfl (RV.move rfl) ?_
                                refine LW.pure rfl rfl (RV.nei rfl rfl) ?_
                                refine LW.pure rfl rfl (RV.move rfl) ?_
                                refine LW.pureYB rfl rfl rfl rfl (not_f hq16) (RV.fieldAddr Tf28_1 rfl) ?_
                                refine LW.pureYB rfl rfl rfl rfl (not_f hq16) (RV.load1 Tk3 rfl ((H.blk 0 rfl).cells.off 1) rfl) ?_
                                refine LW.pureYB rfl rfl rfl rfl (not_f hq16) (RV.lss rfl rfl) ?_
                                refine LW.pure rfl rfl (RV.pickFB rfl (not_f hq16) rfl) ?_
                                refine LW.pure rfl rfl (RV.move rfl) ?_
                                refine LW.pureYB rfl rfl rfl rfl hq17 (RV.fieldAddr Tf28_1 rfl) ?_
                                refine LW.pureYB rfl rfl rfl rfl hq17 (RV.load1 Tk3 rfl ((H.blk 0 rfl).cells.off 1) rfl) ?_
                                refine LW.pureYB rfl rfl rfl rfl hq17 (RV.gtr rfl rfl) ?_
                                refine LW.pure rfl rfl (RV.pickFB rfl hq17 rfl) ?_
                                refine LW.pure rfl rfl (RV.move rfl) ?_
                                refine LW.pureYB rfl rfl rfl rfl hq18 (RV.fieldAddr Tf28_1 rfl) ?_
                                refine LW.pureYB rfl rfl rfl rfl hq18 (RV.load1 Tk3 rfl ((H.blk 6 rfl).cells.off 1) rfl) ?_
                                refine LW.pureYB rfl rfl rfl rfl hq18 (RV.gtr rfl rfl) ?_
                                refine LW.pure rfl rfl (RV.pickFB rfl hq18 rfl) ?_
                                replace H := H.pick (L' := [.tab A26_0 c26_0 39 hs26_0 3 1 (encM encN r3.1), .blk b1 24 [.int .i64 a0.points, .slice A_a0_readings a0.readings.length c_a0_readings], .blk b2 74 [.slice A_a1_heights a1.heights.length c_a1_heights, .int .i64 a1.i, .int .i64 a1.j], .blk b3 46 [.int .i64 a2.from_, .int .i64 a2.to_, .int .i64 a2.rise, .int .i64 a2.weight], .blk b7 28 [.int .i64 r4.1.num, .int .i64 r4.1.den], .blk b8 28 [.int .i64 c4_0_2, .int .i64 c4_1_2], .blk b13 28 [.int .i64 r7.1.num, .int .i64 r7.1.den]]) [1, 2, 3, 4, 5, 6, 0] (by decide) rfl
                                replace R0 := H.ext
                                refine LW.nil (jK364 _ _ ⟨_, ?_, ⟨(decide ((1000000 : Int) < c4_1_2)), F, rfl, H⟩⟩)
                                exact ⟨rfl, rfl, rfl, rfl, (look_slice rfl (by first | rfl | (simp; done) | omega | (simp; omega))), rfl, rfl, rfl, rfl, rfl, trivial⟩
                          ·
                            replace F := ite_n hp16 F
                            have hq16 := dec_f hp16
                            refine CW.region ?_
                            refine LW.pure rfl rfl (RV.move rfl) ?_
                            refine LW.pure rfl rfl (RV.nei rfl rfl) ?_
                            refine LW.pure rfl rfl (RV.move rfl) ?_
                            refine LW.noB rfl rfl rfl rfl (ne_beq (v := true) (not_t hq16) rfl) ?_
                            refine LW.noB rfl rfl rfl rfl (ne_beq (v := true) (not_t hq16) rfl) ?_
                            refine LW.noB rfl rfl rfl rfl (ne_beq (v := true) (not_t hq16) rfl) ?_
                            refine LW.pure rfl rfl (RV.pickTB rfl (not_t hq16) rfl) ?_
                            refine LW.pure rfl rfl (RV.move rfl) ?_
                            refine LW.noB rfl rfl rfl rfl (ne_beq (v := true) rfl rfl) ?_
                            refine LW.noB rfl rfl rfl rfl (ne_beq (v := true) rfl rfl) ?_
                            refine LW.noB rfl rfl rfl rfl (ne_beq (v := true) rfl rfl) ?_
                            refine LW.pure rfl rfl (RV.pickTB rfl rfl rfl) ?_
                            refine LW.pure rfl rfl (RV.move rfl) ?_
                            refine LW.noB rfl rfl rfl rfl (ne_beq (v := true) rfl rfl) ?_
                            refine LW.noB rfl rfl rfl rfl (ne_beq (v := true) rfl rfl) ?_
                            refine LW.noB rfl rfl rfl rfl (ne_beq (v := true) rfl rfl) ?_
                            refine LW.pure rfl rfl (RV.pickTB rfl rfl rfl) ?_
                            replace H := H.pick (L' := [.tab A26_0 c26_0 39 hs26_0 3 1 (encM encN r3.1), .blk b1 24 [.int .i64 a0.points, .slice A_a0_readings a0.readings.length c_a0_readings], .blk b2 74 [.slice A_a1_heights a1.heights.length c_a1_heights, .int .i64 a1.i, .int .i64 a1.j], .blk b3 46 [.int .i64 a2.from_, .int .i64 a2.to_, .int .i64 a2.rise, .int .i64 a2.weight], .blk b7 28 [.int .i64 r4.1.num, .int .i64 r4.1.den], .blk b8 28 [.int .i64 c4_0_2, .int .i64 c4_1_2], .blk b13 28 [.int .i64 r7.1.num, .int .i64 r7.1.den]]) [1, 2, 3, 4, 5, 6, 0] (by decide) rfl
                            replace R0 := H.ext
                            refine LW.nil (jK364 _ _ ⟨_, ?_, ⟨true, F, rfl, H⟩⟩)
                            exact ⟨rfl, rfl, rfl, rfl, (look_slice rfl (by first | rfl | (simp; done) | omega | (simp; omega))), rfl, rfl, rfl, rfl, rfl, trivial⟩
                      ·
                        replace F := ite_n hp14 F
                        have hq14 := dec_f hp14
                        refine CW.condF rfl hq14 ?_
                        refine CW.exit (jK342 _ _ ⟨_, ?_, ⟨c4_0_2, c4_1_2, F, rfl, H⟩⟩)
                        exact ⟨rfl, rfl, rfl, rfl, (look_slice rfl (by first | rfl | (simp; done) | omega | (simp; omega))), rfl, rfl, trivial⟩
                  ·
                    intro K38 hK38 jK365
                    refine CW.seq fun K39 hK39 => ?_
                    refine CW.region ?_
                    refine LW.pure rfl rfl (RV.fieldAddr Tf74_0 rfl) ?_
                    refine LW.pure rfl rfl (RV.load1 Tk39 rfl ((H.blk 2 rfl).cells.off 0) rfl) ?_
                    refine LW.pure rfl rfl (RV.len Ts39 rfl) ?_
                    refine LW.pure rfl rfl (RV.fieldAddr Tf24_0 rfl) ?_
                    refine LW.pure rfl rfl (RV.load1 Tk3 rfl ((H.blk 1 rfl).cells.off 0) rfl) ?_
                    refine LW.pure rfl rfl (RV.eqi rfl rfl) ?_
                    refine LW.nil (hK39 _ _ ?_)
                    by_cases hp19 : ((a1.heights.length : Int)) = a0.points
                    ·
                      replace F := ite_y hp19 F
                      have hq19 := dec_t hp19
                      refine CW.condT rfl hq19 ?_
                      refine CW.seq fun K40 hK40 => ?_
                      refine CW.region ?_
                      refine LW.pure rfl rfl (RV.assign rfl) ?_
                      refine LW.nil (hK40 _ _ ?_)
                      refine CW.seqJ (fun ρ wl10 => (∃ (t14_1 : Bool), top_TopHeights_k8 a0 a1 a2 r3 r4 t14_1 = some res ∧ ρ = [(3, .pointer (some (⟨b1, 0, none⟩))), (4, .pointer (some (⟨b2, 0, none⟩))), (5, .pointer (some (⟨b3, 0, none⟩))), (6, .bool false), (10, .slice A26_0 r3.1.length c26_0), (12, .pointer (some (⟨b7, 0, none⟩))), (14, .bool t14_1)] ∧ Hp w wl10 [.tab A26_0 c26_0 39 hs26_0 3 1 (encM encN r3.1), .blk b1 24 [.int .i64 a0.points, .slice A_a0_readings a0.readings.length c_a0_readings], .blk b2 74 [.slice A_a1_heights a1.heights.length c_a1_heights, .int .i64 a1.i, .int .i64 a1.j], .blk b3 46 [.int .i64 a2.from_, .int .i64 a2.to_, .int .i64 a2.rise, .int .i64 a2.weight], .blk b7 28 [.int .i64 r4.1.num, .int .i64 r4.1.den]])) ?_ ?_
                      ·
                        rintro _ wl10 ⟨t14_1, F, rfl, H⟩
                        have R0 := H.ext
                        unfold top_TopHeights_k8 at F
                        refine CW.seq fun K41 hK41 => ?_
                        refine CW.region ?_
                        refine LW.pure rfl rfl (RV.assign rfl) ?_
                        refine LW.nil (hK41 _ _ ?_)
                        refine CW.seqJ (fun ρ wl11 => (∃ (t16_1 : Int), top_TopHeights_k6 a0 a1 a2 r3 r4 t16_1 = some res ∧ ρ = [(3, .pointer (some (⟨b1, 0, none⟩))), (4, .pointer (some (⟨b2, 0, none⟩))), (5, .pointer (some (⟨b3, 0, none⟩))), (6, .bool false), (10, .slice A26_0 r3.1.length c26_0), (12, .pointer (some (⟨b7, 0, none⟩))), (16, .int .i64 t16_1)] ∧ Hp w wl11 [.tab A26_0 c26_0 39 hs26_0 3 1 (encM encN r3.1), .blk b1 24 [.int .i64 a0.points, .slice A_a0_readings a0.readings.length c_a0_readings], .blk b2 74 [.slice A_a1_heights a1.heights.length c_a1_heights, .int .i64 a1.i, .int .i64 a1.j], .blk b3 46 [.int .i64 a2.from_, .int .i64 a2.to_, .int .i64 a2.rise, .int .i64 a2.weight], .blk b7 28 [.int .i64 r4.1.num, .int .i64 r4.1.den]])) ?_ ?_
                        ·
                          rintro _ wl11 ⟨t16_1, F, rfl, H⟩
                          have R0 := H.ext
                          unfold top_TopHeights_k6 at F
                          refine CW.seqJ (fun ρ wl12 => (∃ (t189_1 : Bool), top_TopHeights_k5 a0 a1 a2 r3 r4 t189_1 = some res ∧ ρ = [(3, .pointer (some (⟨b1, 0, none⟩))), (4, .pointer (some (⟨b2, 0, none⟩))), (5, .pointer (some (⟨b3, 0, none⟩))), (6, .bool false), (10, .slice A26_0 r3.1.length c26_0), (12, .pointer (some (⟨b7, 0, none⟩))), (189, .bool t189_1)] ∧ Hp w wl12 [.tab A26_0 c26_0 39 hs26_0 3 1 (encM encN r3.1), .blk b1 24 [.int .i64 a0.points, .slice A_a0_readings a0.readings.length c_a0_readings], .blk b2 74 [.slice A_a1_heights a1.heights.length c_a1_heights, .int .i64 a1.i, .int .i64 a1.j], .blk b3 46 [.int .i64 a2.from_, .int .i64 a2.to_, .int .i64 a2.rise, .int .i64 a2.weight], .blk b7 28 [.int .i64 r4.1.num, .int .i64 r4.1.den]])) ?_ ?_
                          ·
                            rintro _ wl12 ⟨t189_1, F, rfl, H⟩
                            have R0 := H.ext
                            unfold top_TopHeights_k5 at F
                            by_cases hp20 : t189_1 = true
                            ·
                              replace F := ite_y hp20 F
                              have hq20 : t189_1 = true := hp20
                              refine CW.condT rfl hq20 ?_
                              refine CW.seq fun K42 hK42 => ?_
                              refine CW.region ?_
                              refine LW.pure rfl rfl (RV.assign rfl) ?_
                              refine LW.nil (hK42 _ _ ?_)
                              refine CW.ret ?_
                              obtain rfl := Option.some.inj F
                              refine ⟨_, (ResOK.one rfl), ?_⟩
                              refine ⟨(by first | rfl | simp), R0⟩
                            ·
                              replace F := ite_n hp20 F
                              have hq20 : t189_1 = false := raw_f hp20
                              refine CW.condF rfl hq20 ?_
                              refine CW.skip (jK365 _ _ ⟨_, ?_, ⟨F, rfl, H⟩⟩)
                              exact ⟨rfl, rfl, rfl, rfl, (look_slice rfl (by first | rfl | (simp; done) | omega | (simp; omega))), rfl, trivial⟩
                          ·
                            intro K43 hK43 jK402
                            obtain ⟨hg12, F⟩ := gd_some F
                            by_cases hp21 : t16_1 < (Int.tdiv r4.1.num r4.1.den)
                            ·
                              replace F := ite_y hp21 F
                              have hq21 := dec_t hp21
                              refine CW.region ?_
                              refine LW.pure rfl rfl (RV.fieldAddr Tf28_0 rfl) ?_
                              refine LW.pure rfl rfl (RV.load1 Tk3 rfl ((H.blk 4 rfl).cells.off 0) rfl) ?_
                              refine LW.pure rfl rfl (RV.fieldAddr Tf28_1 rfl) ?_
                              refine LW.pure rfl rfl (RV.load1 Tk3 rfl ((H.blk 4 rfl).cells.off 1) rfl) ?_
                              refine LW.pure rfl rfl (RV.quo rfl rfl hg12) ?_
                              refine LW.pure rfl rfl (RV.move rfl) ?_
                              refine LW.pure rfl rfl (RV.gtr rfl rfl) ?_
                              refine LW.pure rfl rfl (RV.move rfl) ?_
                              refine LW.noB rfl rfl rfl rfl (ne_beq (v := true) hq21 rfl) ?_
                              refine LW.noB rfl rfl rfl rfl (ne_beq (v := true) hq21 rfl) ?_
                              refine LW.noB rfl rfl rfl rfl (ne_beq (v := true) hq21 rfl) ?_
                              refine LW.noB rfl rfl rfl rfl (ne_beq (v := true) hq21 rfl) ?_
                              refine LW.noB rfl rfl rfl rfl (ne_beq (v := true) hq21 rfl) ?_
                              refine LW.noB rfl rfl rfl rfl (ne_beq (v := true) hq21 rfl) ?_
                              refine LW.noB rfl rfl rfl rfl (ne_beq (v := true) hq21 rfl) ?_
                              refine LW.noB rfl rfl rfl rfl (ne_beq (v := true) hq21 rfl) ?_
                              refine LW.noU rfl rfl rfl rfl ?_
                              refine LW.noU rfl rfl rfl rfl ?_
                              refine LW.noU rfl rfl rfl rfl ?_
                              refine LW.noU rfl rfl rfl rfl ?_
                              refine LW.noU rfl rfl rfl rfl ?_
                              refine LW.noU rfl rfl rfl rfl ?_
                              refine LW.noB rfl rfl rfl rfl (ne_beq (v := true) hq21 rfl) ?_
                              refine LW.pure rfl rfl (RV.pickTB rfl hq21 rfl) ?_
                              refine LW.nil (jK402 _ _ ⟨_, ?_, ⟨true, F, rfl, H⟩⟩)
                              exact ⟨rfl, rfl, rfl, rfl, (look_slice rfl (by first | rfl | (simp; done) | omega | (simp; omega))), rfl, rfl, trivial⟩
                            ·
                              replace F := ite_n hp21 F
                              have hq21 := dec_f hp21
                              obtain ⟨hg13, F⟩ := gd_some F
                              by_cases hp22 : (Int.tdiv r4.1.num r4.1.den) = t16_1
                              ·
                                replace F := ite_y hp22 F
                                have hq22 := dec_t hp22
                                obtain ⟨hg14, F⟩ := gd_some F
                                refine CW.region ?_
                                refine LW.pure rfl rfl (RV.fieldAddr Tf28_0 rfl) ?_
                                refine LW.pure rfl rfl (RV.load1 Tk3 rfl ((H.blk 4 rfl).cells.off 0) rfl) ?_
                                refine LW.pure rfl rfl (RV.fieldAddr Tf28_1 rfl) ?_
                                refine LW.pure rfl rfl (RV.load1 Tk3 rfl ((H.blk 4 rfl).cells.off 1) rfl) ?_
                                refine LW.pure rfl rfl (RV.quo rfl rfl hg12) ?_
                                refine LW.pure rfl rfl (RV.move rfl) ?_
                                refine LW.pure rfl rfl (RV.gtr rfl rfl) ?_
                                refine LW.pure rfl rfl (RV.move rfl) ?_
                                refine LW.pureYB rfl rfl rfl rfl hq21 (RV.fieldAddr Tf28_0 rfl) ?_
                                refine LW.pureYB rfl rfl rfl rfl hq21 (RV.load1 Tk3 rfl ((H.blk 4 rfl).cells.off 0) rfl) ?_
                                refine LW.pureYB rfl rfl rfl rfl hq21 (RV.fieldAddr Tf28_1 rfl) ?_
                                refine LW.pureYB rfl rfl rfl rfl hq21 (RV.load1 Tk3 rfl ((H.blk 4 rfl).cells.off 1) rfl) ?_
                                refine LW.pureYB rfl rfl rfl rfl hq21 (RV.quo rfl rfl hg13) ?_
                                refine LW.pureYB rfl rfl rfl rfl hq21 (RV.move rfl) ?_
                                refine LW.pureYB rfl rfl rfl rfl hq21 (RV.eqi rfl rfl) ?_
                                refine LW.pureYB rfl rfl rfl rfl hq21 (RV.move rfl) ?_
                                refine LW.pureYB rfl rfl rfl rfl hq22 (RV.fieldAddr Tf28_0 rfl) ?_
                                refine LW.pureYB rfl rfl rfl rfl hq22 (RV.load1 Tk3 rfl ((H.blk 4 rfl).cells.off 0) rfl) ?_
                                refine LW.pureYB rfl rfl rfl rfl hq22 (RV.fieldAddr Tf28_1 rfl) ?_
                                refine LW.pureYB rfl rfl rfl rfl hq22 (RV.load1 Tk3 rfl ((H.blk 4 rfl).cells.off 1) rfl) ?_
                                refine LW.pureYB rfl rfl rfl rfl hq22 (RV.rem rfl rfl hg14) ?_
                                refine LW.pureYB rfl rfl rfl rfl hq22 (RV.gtr rfl rfl) ?_
                                refine LW.pureYB rfl rfl rfl rfl hq21 (RV.pickTB rfl hq22 rfl) ?_
                                refine LW.pure rfl rfl (RV.pickFB rfl hq21 rfl) ?_
                                refine LW.nil (jK402 _ _ ⟨_, ?_, ⟨(decide ((0 : Int) < (Int.tmod r4.1.num r4.1.den))), F, rfl, H⟩⟩)
                                exact ⟨rfl, rfl, rfl, rfl, (look_slice rfl (by first | rfl | (simp; done) | omega | (simp; omega))), rfl, rfl, trivial⟩
                              ·
                                replace F := ite_n hp22 F
                                have hq22 := dec_f hp22
                                refine CW.region ?_
                                refine LW.pure rfl rfl (RV.fieldAddr Tf28_0 rfl) ?_
                                refine LW.pure rfl rfl (RV.load1 Tk3 rfl ((H.blk 4 rfl).cells.off 0) rfl) ?_
                                refine LW.pure rfl rfl (RV.fieldAddr Tf28_1 rfl) ?_
                                refine LW.pure rfl rfl (RV.load1 Tk3 rfl ((H.blk 4 rfl).cells.off 1) rfl) ?_
                                refine LW.pure rfl rfl (RV.quo rfl rfl hg12) ?_
                                refine LW.pure rfl rfl (RV.move rfl) ?_
                                refine LW.pure rfl rfl (RV.gtr rfl rfl) ?_
                                refine LW.pure rfl rfl (RV.move rfl) ?_
                                refine LW.pureYB rfl rfl rfl rfl hq21 (RV.fieldAddr Tf28_0 rfl) ?_
                                refine LW.pureYB rfl rfl rfl rfl hq21 (RV.load1 Tk3 rfl ((H.blk 4 rfl).cells.off 0) rfl) ?_
                                refine LW.pureYB rfl rfl rfl rfl hq21 (RV.fieldAddr Tf28_1 rfl) ?_
                                refine LW.pureYB rfl rfl rfl rfl hq21 (RV.load1 Tk3 rfl ((H.blk 4 rfl).cells.off 1) rfl) ?_
                                refine LW.pureYB rfl rfl rfl rfl hq21 (RV.quo rfl rfl hg13) ?_
                                refine LW.pureYB rfl rfl rfl rfl hq21 (RV.move rfl) ?_
                                refine LW.pureYB rfl rfl rfl rfl hq21 (RV.eqi rfl rfl) ?_
                                refine LW.pureYB rfl rfl rfl rfl hq21 (RV.move rfl) ?_
                                refine LW.noB rfl rfl rfl rfl (ne_beq (v := false) hq22 rfl) ?_
                                refine LW.noB rfl rfl rfl rfl (ne_beq (v := false) hq22 rfl) ?_
                                refine LW.noB rfl rfl rfl rfl (ne_beq (v := false) hq22 rfl) ?_
                                refine LW.noB rfl rfl rfl rfl (ne_beq (v := false) hq22 rfl) ?_
                                refine LW.noB rfl rfl rfl rfl (ne_beq (v := false) hq22 rfl) ?_
                                refine LW.noB rfl rfl rfl rfl (ne_beq (v := false) hq22 rfl) ?_
                                refine LW.pureYB rfl rfl rfl rfl hq21 (RV.pickFB rfl hq22 rfl) ?_
                                refine LW.pure rfl rfl (RV.pickFB rfl hq21 rfl) ?_
                                refine LW.nil (jK402 _ _ ⟨_, ?_, ⟨false, F, rfl, H⟩⟩)
                                exact ⟨rfl, rfl, rfl, rfl, (look_slice rfl (by first | rfl | (simp; done) | omega | (simp; omega))), rfl, rfl, trivial⟩
                        ·
                          intro K44 hK44 jK403
                          refine CW.seq fun K45 hK45 => ?_
                          refine CW.region ?_
                          refine LW.pure rfl rfl (RV.assign rfl) ?_
                          refine LW.nil (hK45 _ _ ?_)
                          refine CW.block ?_
                          refine CW.loop (fun meas ρ wl13 => ∃ (t16_2 : Int) (t17_1 : Int), top_TopHeights_L2 a0 a1 a2 r3 r4 t14_1 meas t16_2 t17_1 = some res ∧ ρ = [(3, .pointer (some (⟨b1, 0, none⟩))), (4, .pointer (some (⟨b2, 0, none⟩))), (5, .pointer (some (⟨b3, 0, none⟩))), (6, .bool false), (10, .slice A26_0 r3.1.length c26_0), (12, .pointer (some (⟨b7, 0, none⟩))), (14, .bool t14_1), (16, .int .i64 t16_2), (17, .int .i64 t17_1)] ∧ Hp w wl13 [.tab A26_0 c26_0 39 hs26_0 3 1 (encM encN r3.1), .blk b1 24 [.int .i64 a0.points, .slice A_a0_readings a0.readings.length c_a0_readings], .blk b2 74 [.slice A_a1_heights a1.heights.length c_a1_heights, .int .i64 a1.i, .int .i64 a1.j], .blk b3 46 [.int .i64 a2.from_, .int .i64 a2.to_, .int .i64 a2.rise, .int .i64 a2.weight], .blk b7 28 [.int .i64 r4.1.num, .int .i64 r4.1.den]]) FU ⟨_, ?_, ((0 : Int)), ((0 : Int)), F, rfl, H⟩ ?_
                          · exact ⟨rfl, rfl, rfl, rfl, (look_slice rfl (by first | rfl | (simp; done) | omega | (simp; omega))), rfl, rfl, rfl, rfl, trivial⟩
                          rintro mk2 _ wl13 ⟨t16_2, t17_1, F, rfl, H⟩
                          have R0 := H.ext
                          replace F := top_TopHeights_L2_s F
                          obtain ⟨mk2, rfl, F⟩ := F
                          generalize hrec2 : top_TopHeights_L2 a0 a1 a2 r3 r4 t14_1 mk2 = rec2 at F
                          unfold top_TopHeights_B2 at F
                          refine CW.seq fun K46 hK46 => ?_
                          refine CW.seq fun K47 hK47 => ?_
                          refine CW.region ?_
                          refine LW.pure rfl rfl (RV.move rfl) ?_
                          refine LW.pure rfl rfl (RV.fieldAddr Tf24_1 rfl) ?_
                          refine LW.pure rfl rfl (RV.load1 Tk22 rfl ((H.blk 1 rfl).cells.off 1) rfl) ?_
                          refine LW.pure rfl rfl (RV.len Ts22 rfl) ?_
                          refine LW.pure rfl rfl (RV.lss rfl rfl) ?_
                          refine LW.nil (hK47 _ _ ?_)
                          by_cases hp23 : t17_1 < ((a0.readings.length : Int))
                          ·
                            replace F := ite_y hp23 F
                            have hq23 := dec_t hp23
                            refine CW.condT rfl hq23 ?_
                            refine CW.skip (hK46 _ _ ?_)
                            refine CW.seq fun K48 hK48 => ?_
                            refine CW.block ?_
                            refine CW.seq fun K49 hK49 => ?_
                            obtain ⟨x2, hbx2, hx2, F⟩ := ix_some F
                            refine CW.region ?_
                            refine LW.pure rfl rfl (RV.fieldAddr Tf24_1 rfl) ?_
                            refine LW.pure rfl rfl (RV.load1 Tk22 rfl ((H.blk 1 rfl).cells.off 1) rfl) ?_
                            refine LW.pure rfl rfl (RV.move rfl) ?_
                            refine LW.pure rfl rfl (RV.indexAddr Ts22 rfl rfl hbx2 (h_a0_readings.addr_ hx2)) ?_
                            refine LW.pure rfl rfl (RV.fieldAddr Tf46_2 rfl) ?_
                            refine LW.pure rfl rfl (RV.load1 Tk3 rfl (((h_a0_readings.at_ hx2).ext R0).off 2) rfl) ?_
                            refine LW.pure rfl rfl (RV.assign rfl) ?_
                            refine LW.nil (hK49 _ _ ?_)
                            refine CW.seqJ (fun ρ wl14 => (∃ (t18_1 : Int), top_TopHeights_k7 a0 t16_2 t17_1 rec2 t18_1 = some res ∧ ρ = [(3, .pointer (some (⟨b1, 0, none⟩))), (4, .pointer (some (⟨b2, 0, none⟩))), (5, .pointer (some (⟨b3, 0, none⟩))), (6, .bool false), (10, .slice A26_0 r3.1.length c26_0), (12, .pointer (some (⟨b7, 0, none⟩))), (14, .bool t14_1), (16, .int .i64 t16_2), (17, .int .i64 t17_1), (18, .int .i64 t18_1)] ∧ Hp w wl14 [.tab A26_0 c26_0 39 hs26_0 3 1 (encM encN r3.1), .blk b1 24 [.int .i64 a0.points, .slice A_a0_readings a0.readings.length c_a0_readings], .blk b2 74 [.slice A_a1_heights a1.heights.length c_a1_heights, .int .i64 a1.i, .int .i64 a1.j], .blk b3 46 [.int .i64 a2.from_, .int .i64 a2.to_, .int .i64 a2.rise, .int .i64 a2.weight], .blk b7 28 [.int .i64 r4.1.num, .int .i64 r4.1.den]])) ?_ ?_
                            ·
                              rintro _ wl14 ⟨t18_1, F, rfl, H⟩
                              have R0 := H.ext
                              unfold top_TopHeights_k7 at F
                              obtain ⟨x1, hbx1, hx1, F⟩ := ix_some F
                              obtain ⟨hg15, F⟩ := gd_some F
                              obtain ⟨hg16, F⟩ := gd_some F
                              obtain ⟨hg17, F⟩ := gd_some F
                              refine CW.region ?_
                              refine LW.pure rfl rfl (RV.move rfl) ?_
                              refine LW.pure rfl rfl (RV.fieldAddr Tf24_1 rfl) ?_
                              refine LW.pure rfl rfl (RV.load1 Tk22 rfl ((H.blk 1 rfl).cells.off 1) rfl) ?_
                              refine LW.pure rfl rfl (RV.move rfl) ?_
                              refine LW.pure rfl rfl (RV.indexAddr Ts22 rfl rfl hbx1 (h_a0_readings.addr_ hx1)) ?_
                              refine LW.pure rfl rfl (RV.fieldAddr Tf46_3 rfl) ?_
                              refine LW.pure rfl rfl (RV.load1 Tk3 rfl (((h_a0_readings.at_ hx1).ext R0).off 3) rfl) ?_
                              refine LW.pure rfl rfl (RV.move rfl) ?_
                              refine LW.pure rfl rfl (RV.mul rfl rfl hg15) ?_
                              refine LW.pure rfl rfl (RV.move rfl) ?_
                              refine LW.pure rfl rfl (RV.mul rfl rfl hg16) ?_
                              refine LW.pure rfl rfl (RV.add rfl rfl hg17) ?_
                              refine LW.pure rfl rfl (RV.assign rfl) ?_
                              refine LW.nil (hK48 _ _ ?_)
                              obtain ⟨hg18, F⟩ := gd_some F
                              refine CW.region ?_
                              refine LW.pure rfl rfl (RV.move rfl) ?_
                              refine LW.pure rfl rfl (RV.add rfl rfl hg18) ?_
                              refine LW.pure rfl rfl (RV.assign rfl) ?_
                              refine LW.nil ?_
                              subst hrec2
                              refine ⟨mk2, Nat.lt_succ_self _, _, ?_, (t16_2 + ((x1.weight * t18_1) * t18_1)), (t17_1 + 1), F, rfl, H⟩
                              exact ⟨rfl, rfl, rfl, rfl, (look_slice rfl (by first | rfl | (simp; done) | omega | (simp; omega))), rfl, rfl, rfl, rfl, trivial⟩
                            ·
                              intro K50 hK50 jK424
                              refine CW.seq fun K51 hK51 => ?_
                              refine CW.region ?_
                              refine LW.pure rfl rfl (RV.move rfl) ?_
                              refine LW.nil (hK51 _ _ ?_)
                              by_cases hp24 : t14_1 = true
                              ·
                                replace F := ite_y hp24 F
                                have hq24 : t14_1 = true := hp24
                                refine CW.condT rfl hq24 ?_
                                obtain ⟨x3, hbx3, hx3, F⟩ := ix_some F
                                obtain ⟨x4, hbx4, hx4, F⟩ := ix_some F
                                obtain ⟨hg19, F⟩ := gd_some F
                                obtain ⟨x5, hbx5, hx5, F⟩ := ix_some F
                                obtain ⟨x6, hbx6, hx6, F⟩ := ix_some F
                                obtain ⟨hg20, F⟩ := gd_some F
                                refine CW.draw [] (fun _ => True) (.cons 0 1 (.cons 1 1 (.cons 2 1 (.cons 3 1 (.cons 4 1 (.cons 5 1 (.cons 6 1 (.cons 7 1 (.cons 8 1 (.cons 9 1 (.cons 10 1 (.cons 11 1 (.cons 12 1 (.cons 13 1 (.cons 14 1 (.cons 15 1 (.cons 16 1 (.cons 17 1 (.cons 18 1 (.cons 19 1 (.cons 20 1 (.cons 21 1 (.cons 22 1 (.cons 23 1 .nil)))))))))))))))))))))))) mixed (by kernel_rfl) fun w36 E13 => ?_
                                replace H := H.grow E13
                                replace R0 := H.ext
                                refine DW.fix rfl rfl rfl (fun _ EQ => RV.move rfl) ?_
                                refine DW.fix rfl rfl rfl (fun _ EQ => RV.fieldAddr Tf74_0 rfl) ?_
                                refine DW.fix rfl rfl rfl (fun _ EQ => RV.load1 Tk39 rfl (((H.grow EQ).blk 2 rfl).cells.off 0) rfl) ?_
                                refine DW.fix rfl rfl rfl (fun _ EQ => RV.fieldAddr Tf24_1 rfl) ?_
                                refine DW.fix rfl rfl rfl (fun _ EQ => RV.load1 Tk22 rfl (((H.grow EQ).blk 1 rfl).cells.off 1) rfl) ?_
                                refine DW.fix rfl rfl rfl (fun _ EQ => RV.move rfl) ?_
                                refine DW.fix rfl rfl rfl (fun _ EQ => RV.indexAddr Ts22 rfl rfl hbx3 (h_a0_readings.addr_ hx3)) ?_
                                refine DW.fix rfl rfl rfl (fun _ EQ => RV.fieldAddr Tf46_1 rfl) ?_
                                refine DW.fix rfl rfl rfl (fun _ EQ => RV.load1 Tk3 rfl (((h_a0_readings.at_ hx3).ext (R0.trans EQ)).off 1) rfl) ?_
                                refine DW.fix rfl rfl rfl (fun _ EQ => RV.indexAddr Ts39 rfl rfl hbx4 (h_a1_heights.addr_ hx4)) ?_
                                refine DW.fix rfl rfl rfl (fun _ EQ => RV.load1 Tk3 rfl ((h_a1_heights.at_ hx4).ext (R0.trans EQ)) rfl) ?_
                                refine DW.fix rfl rfl rfl (fun _ EQ => RV.sub rfl rfl hg19) ?_
                                refine DW.fix rfl rfl rfl (fun _ EQ => RV.fieldAddr Tf74_0 rfl) ?_
                                refine DW.fix rfl rfl rfl (fun _ EQ => RV.load1 Tk39 rfl (((H.grow EQ).blk 2 rfl).cells.off 0) rfl) ?_
                                refine DW.fix rfl rfl rfl (fun _ EQ => RV.fieldAddr Tf24_1 rfl) ?_
                                refine DW.fix rfl rfl rfl (fun _ EQ => RV.load1 Tk22 rfl (((H.grow EQ).blk 1 rfl).cells.off 1) rfl) ?_
                                refine DW.fix rfl rfl rfl (fun _ EQ => RV.move rfl) ?_
                                refine DW.fix rfl rfl rfl (fun _ EQ => RV.indexAddr Ts22 rfl rfl hbx5 (h_a0_readings.addr_ hx5)) ?_
                                refine DW.fix rfl rfl rfl (fun _ EQ => RV.fieldAddr Tf46_0 rfl) ?_
                                refine DW.fix rfl rfl rfl (fun _ EQ => RV.load1 Tk3 rfl (((h_a0_readings.at_ hx5).ext (R0.trans EQ)).off 0) rfl) ?_
                                refine DW.fix rfl rfl rfl (fun _ EQ => RV.indexAddr Ts39 rfl rfl hbx6 (h_a1_heights.addr_ hx6)) ?_
                                refine DW.fix rfl rfl rfl (fun _ EQ => RV.load1 Tk3 rfl ((h_a1_heights.at_ hx6).ext (R0.trans EQ)) rfl) ?_
                                refine DW.fix rfl rfl rfl (fun _ EQ => RV.add rfl rfl hg20) ?_
                                refine DW.fix rfl rfl rfl (fun _ EQ => RV.assign rfl) ?_
                                refine DW.nil (jK424 _ _ ⟨_, ?_, ⟨((x2.rise - x4) + x6), F, rfl, H⟩⟩)
                                exact ⟨rfl, rfl, rfl, rfl, (look_slice rfl (by first | rfl | (simp; done) | omega | (simp; omega))), rfl, rfl, rfl, rfl, rfl, trivial⟩
                              ·
                                replace F := ite_n hp24 F
                                have hq24 : t14_1 = false := raw_f hp24
                                refine CW.condF rfl hq24 ?_
                                refine CW.skip (jK424 _ _ ⟨_, ?_, ⟨x2.rise, F, rfl, H⟩⟩)
                                exact ⟨rfl, rfl, rfl, rfl, (look_slice rfl (by first | rfl | (simp; done) | omega | (simp; omega))), rfl, rfl, rfl, rfl, rfl, trivial⟩
                          ·
                            replace F := ite_n hp23 F
                            have hq23 := dec_f hp23
                            refine CW.condF rfl hq23 ?_
                            refine CW.exit (jK403 _ _ ⟨_, ?_, ⟨t16_2, F, rfl, H⟩⟩)
                            exact ⟨rfl, rfl, rfl, rfl, (look_slice rfl (by first | rfl | (simp; done) | omega | (simp; omega))), rfl, rfl, trivial⟩
                      ·
                        intro K52 hK52 jK426
                        refine CW.seq fun K53 hK53 => ?_
                        refine CW.region ?_
                        refine LW.pure rfl rfl (RV.assign rfl) ?_
                        refine LW.nil (hK53 _ _ ?_)
                        refine CW.block ?_
                        refine CW.loop (fun meas ρ wl15 => ∃ (t14_3 : Bool) (t15_1 : Int), top_TopHeights_L3 a0 a1 a2 r3 r4 meas t14_3 t15_1 = some res ∧ ρ = [(3, .pointer (some (⟨b1, 0, none⟩))), (4, .pointer (some (⟨b2, 0, none⟩))), (5, .pointer (some (⟨b3, 0, none⟩))), (6, .bool false), (10, .slice A26_0 r3.1.length c26_0), (12, .pointer (some (⟨b7, 0, none⟩))), (14, .bool t14_3), (15, .int .i64 t15_1)] ∧ Hp w wl15 [.tab A26_0 c26_0 39 hs26_0 3 1 (encM encN r3.1), .blk b1 24 [.int .i64 a0.points, .slice A_a0_readings a0.readings.length c_a0_readings], .blk b2 74 [.slice A_a1_heights a1.heights.length c_a1_heights, .int .i64 a1.i, .int .i64 a1.j], .blk b3 46 [.int .i64 a2.from_, .int .i64 a2.to_, .int .i64 a2.rise, .int .i64 a2.weight], .blk b7 28 [.int .i64 r4.1.num, .int .i64 r4.1.den]]) FU ⟨_, ?_, true, ((0 : Int)), F, rfl, H⟩ ?_
                        · exact ⟨rfl, rfl, rfl, rfl, (look_slice rfl (by first | rfl | (simp; done) | omega | (simp; omega))), rfl, rfl, rfl, trivial⟩
                        rintro mk3 _ wl15 ⟨t14_3, t15_1, F, rfl, H⟩
                        have R0 := H.ext
                        replace F := top_TopHeights_L3_s F
                        obtain ⟨mk3, rfl, F⟩ := F
                        generalize hrec3 : top_TopHeights_L3 a0 a1 a2 r3 r4 mk3 = rec3 at F
                        unfold top_TopHeights_B3 at F
                        refine CW.seq fun K54 hK54 => ?_
                        refine CW.seq fun K55 hK55 => ?_
                        refine CW.region ?_
                        refine LW.pure rfl rfl (RV.move rfl) ?_
                        refine LW.pure rfl rfl (RV.fieldAddr Tf74_0 rfl) ?_
                        refine LW.pure rfl rfl (RV.load1 Tk39 rfl ((H.blk 2 rfl).cells.off 0) rfl) ?_
                        refine LW.pure rfl rfl (RV.len Ts39 rfl) ?_
                        refine LW.pure rfl rfl (RV.lss rfl rfl) ?_
                        refine LW.nil (hK55 _ _ ?_)
                        by_cases hp25 : t15_1 < ((a1.heights.length : Int))
                        ·
                          replace F := ite_y hp25 F
                          have hq25 := dec_t hp25
                          refine CW.condT rfl hq25 ?_
                          refine CW.skip (hK54 _ _ ?_)
                          refine CW.seqJ (fun ρ wl16 => (∃ (t14_2 : Bool), top_TopHeights_k9 t15_1 rec3 t14_2 = some res ∧ ρ = [(3, .pointer (some (⟨b1, 0, none⟩))), (4, .pointer (some (⟨b2, 0, none⟩))), (5, .pointer (some (⟨b3, 0, none⟩))), (6, .bool false), (10, .slice A26_0 r3.1.length c26_0), (12, .pointer (some (⟨b7, 0, none⟩))), (14, .bool t14_2), (15, .int .i64 t15_1)] ∧ Hp w wl16 [.tab A26_0 c26_0 39 hs26_0 3 1 (encM encN r3.1), .blk b1 24 [.int .i64 a0.points, .slice A_a0_readings a0.readings.length c_a0_readings], .blk b2 74 [.slice A_a1_heights a1.heights.length c_a1_heights, .int .i64 a1.i, .int .i64 a1.j], .blk b3 46 [.int .i64 a2.from_, .int .i64 a2.to_, .int .i64 a2.rise, .int .i64 a2.weight], .blk b7 28 [.int .i64 r4.1.num, .int .i64 r4.1.den]])) ?_ ?_
                          ·
                            rintro _ wl16 ⟨t14_2, F, rfl, H⟩
                            have R0 := H.ext
                            unfold top_TopHeights_k9 at F
                            obtain ⟨hg21, F⟩ := gd_some F
                            refine CW.region ?_
                            refine LW.pure rfl rfl (RV.move rfl) ?_
                            refine LW.pure rfl rfl (RV.add rfl rfl hg21) ?_
                            refine LW.pure rfl rfl (RV.assign rfl) ?_
                            refine LW.nil ?_
                            subst hrec3
                            refine ⟨mk3, Nat.lt_succ_self _, _, ?_, t14_2, (t15_1 + 1), F, rfl, H⟩
                            exact ⟨rfl, rfl, rfl, rfl, (look_slice rfl (by first | rfl | (simp; done) | omega | (simp; omega))), rfl, rfl, rfl, trivial⟩
                          ·
                            intro K56 hK56 jK436
                            refine CW.block ?_
                            by_cases hp26 : t14_3 = true
                            ·
                              replace F := ite_y hp26 F
                              have hq26 : t14_3 = true := hp26
                              obtain ⟨x7, hbx7, hx7, F⟩ := ix_some F
                              by_cases hp27 : (-4000 : Int) ≤ x7
                              ·
                                replace F := ite_y hp27 F
                                have hq27 := dec_t hp27
                                obtain ⟨x8, hbx8, hx8, F⟩ := ix_some F
                                refine CW.region ?_
                                refine LW.pure rfl rfl (RV.move rfl) ?_
                                refine LW.pure rfl rfl (RV.move rfl) ?_
                                refine LW.pureYB rfl rfl rfl rfl hq26 (RV.fieldAddr Tf74_0 rfl) ?_
                                refine LW.pureYB rfl rfl rfl rfl hq26 (RV.load1 Tk39 rfl ((H.blk 2 rfl).cells.off 0) rfl) ?_
                                refine LW.pureYB rfl rfl rfl rfl hq26 (RV.move rfl) ?_
                                refine LW.pureYB rfl rfl rfl rfl hq26 (RV.indexAddr Ts39 rfl rfl hbx7 (h_a1_heights.addr_ hx7)) ?_
                                refine LW.pureYB rfl rfl rfl rfl hq26 (RV.load1 Tk3 rfl ((h_a1_heights.at_ hx7).ext R0) rfl) ?_
                                refine LW.pureYB rfl rfl rfl rfl hq26 (RV.geq rfl rfl) ?_
                                refine LW.pure rfl rfl (RV.pickTB rfl hq26 rfl) ?_
                                refine LW.pure rfl rfl (RV.move rfl) ?_
                                refine LW.pureYB rfl rfl rfl rfl hq27 (RV.fieldAddr Tf74_0 rfl) ?_
                                refine LW.pureYB rfl rfl rfl rfl hq27 (RV.load1 Tk39 rfl ((H.blk 2 rfl).cells.off 0) rfl) ?_
                                refine LW.pureYB rfl rfl rfl rfl hq27 (RV.move rfl) ?_
                                refine LW.pureYB rfl rfl rfl rfl hq27 (RV.indexAddr Ts39 rfl rfl hbx8 (h_a1_heights.addr_ hx8)) ?_
                                refine LW.pureYB rfl rfl rfl rfl hq27 (RV.load1 Tk3 rfl ((h_a1_heights.at_ hx8).ext R0) rfl) ?_
                                refine LW.pureYB rfl rfl rfl rfl hq27 (RV.leq rfl rfl) ?_
                                refine LW.pure rfl rfl (RV.pickTB rfl hq27 rfl) ?_
                                refine LW.pure rfl rfl (RV.assign rfl) ?_
                                refine LW.nil (jK436 _ _ ⟨_, ?_, ⟨(decide (x8 ≤ 4000)), F, rfl, H⟩⟩)
                                exact ⟨rfl, rfl, rfl, rfl, (look_slice rfl (by first | rfl | (simp; done) | omega | (simp; omega))), rfl, rfl, rfl, trivial⟩
                              ·
                                replace F := ite_n hp27 F
                                have hq27 := dec_f hp27
                                refine CW.region ?_
                                refine LW.pure rfl rfl (RV.move rfl) ?_
                                refine LW.pure rfl rfl (RV.move rfl) ?_
                                refine LW.pureYB rfl rfl rfl rfl hq26 (RV.fieldAddr Tf74_0 rfl) ?_
                                refine LW.pureYB rfl rfl rfl rfl hq26 (RV.load1 Tk39 rfl ((H.blk 2 rfl).cells.off 0) rfl) ?_
                                refine LW.pureYB rfl rfl rfl rfl hq26 (RV.move rfl) ?_
                                refine LW.pureYB rfl rfl rfl rfl hq26 (RV.indexAddr Ts39 rfl rfl hbx7 (h_a1_heights.addr_ hx7)) ?_
                                refine LW.pureYB rfl rfl rfl rfl hq26 (RV.load1 Tk3 rfl ((h_a1_heights.at_ hx7).ext R0) rfl) ?_
                                refine LW.pureYB rfl rfl rfl rfl hq26 (RV.geq rfl rfl) ?_
                                refine LW.pure rfl rfl (RV.pickTB rfl hq26 rfl) ?_
                                refine LW.pure rfl rfl (RV.move rfl) ?_
                                refine LW.noB rfl rfl rfl rfl (ne_beq (v := false) hq27 rfl) ?_
                                refine LW.noB rfl rfl rfl rfl (ne_beq (v := false) hq27 rfl) ?_
                                refine LW.noB rfl rfl rfl rfl (ne_beq (v := false) hq27 rfl) ?_
                                refine LW.noB rfl rfl rfl rfl (ne_beq (v := false) hq27 rfl) ?_
                                refine LW.noB rfl rfl rfl rfl (ne_beq (v := false) hq27 rfl) ?_
                                refine LW.noB rfl rfl rfl rfl (ne_beq (v := false) hq27 rfl) ?_
                                refine LW.pure rfl rfl (RV.pickFB rfl hq27 rfl) ?_
                                refine LW.pure rfl rfl (RV.assign rfl) ?_
                                refine LW.nil (jK436 _ _ ⟨_, ?_, ⟨false, F, rfl, H⟩⟩)
                                exact ⟨rfl, rfl, rfl, rfl, (look_slice rfl (by first | rfl | (simp; done) | omega | (simp; omega))), rfl, rfl, rfl, trivial⟩
                            ·
                              replace F := ite_n hp26 F
                              have hq26 : t14_3 = false := raw_f hp26
                              refine CW.region ?_
                              refine LW.pure rfl rfl (RV.move rfl) ?_
                              refine LW.pure rfl rfl (RV.move rfl) ?_
                              refine LW.noB rfl rfl rfl rfl (ne_beq (v := false) hq26 rfl) ?_
                              refine LW.noB rfl rfl rfl rfl (ne_beq (v := false) hq26 rfl) ?_
                              refine LW.noB rfl rfl rfl rfl (ne_beq (v := false) hq26 rfl) ?_
                              refine LW.noB rfl rfl rfl rfl (ne_beq (v := false) hq26 rfl) ?_
                              refine LW.noB rfl rfl rfl rfl (ne_beq (v := false) hq26 rfl) ?_
                              refine LW.noB rfl rfl rfl rfl (ne_beq (v := false) hq26 rfl) ?_
                              refine LW.pure rfl rfl (RV.pickFB rfl hq26 rfl) ?_
                              refine LW.pure rfl rfl (RV.move rfl) ?_
                              refine LW.noB rfl rfl rfl rfl (ne_beq (v := false) rfl rfl) ?_
                              refine LW.noB rfl rfl rfl rfl (ne_beq (v := false) rfl rfl) ?_
                              refine LW.noB rfl rfl rfl rfl (ne_beq (v := false) rfl rfl) ?_
                              refine LW.noB rfl rfl rfl rfl (ne_beq (v := false) rfl rfl) ?_
                              refine LW.noB rfl rfl rfl rfl (ne_beq (v := false) rfl rfl) ?_
                              refine LW.noB rfl rfl rfl rfl (ne_beq (v := false) rfl rfl) ?_
                              refine LW.pure rfl rfl (RV.pickFB rfl rfl rfl) ?_
                              refine LW.pure rfl rfl (RV.assign rfl) ?_
                              refine LW.nil (jK436 _ _ ⟨_, ?_, ⟨false, F, rfl, H⟩⟩)
                              exact ⟨rfl, rfl, rfl, rfl, (look_slice rfl (by first | rfl | (simp; done) | omega | (simp; omega))), rfl, rfl, rfl, trivial⟩
                        ·
                          replace F := ite_n hp25 F
                          have hq25 := dec_f hp25
                          refine CW.condF rfl hq25 ?_
                          refine CW.exit (jK426 _ _ ⟨_, ?_, ⟨t14_3, F, rfl, H⟩⟩)
                          exact ⟨rfl, rfl, rfl, rfl, (look_slice rfl (by first | rfl | (simp; done) | omega | (simp; omega))), rfl, rfl, trivial⟩
                    ·
                      replace F := ite_n hp19 F
                      have hq19 := dec_f hp19
                      refine CW.condF rfl hq19 ?_
                      refine CW.skip (jK365 _ _ ⟨_, ?_, ⟨F, rfl, H⟩⟩)
                      exact ⟨rfl, rfl, rfl, rfl, (look_slice rfl (by first | rfl | (simp; done) | omega | (simp; omega))), rfl, trivial⟩
              ·
                intro K57 hK57 jK437
                by_cases hp28 : r4.1.den < 1
                ·
                  replace F := ite_y hp28 F
                  have hq28 := dec_t hp28
                  refine CW.region ?_
                  refine LW.pure rfl rfl (RV.fieldAddr Tf28_1 rfl) ?_
                  refine LW.pure rfl rfl (RV.load1 Tk3 rfl ((H.blk 4 rfl).cells.off 1) rfl) ?_
                  refine LW.pure rfl rfl (RV.lss rfl rfl) ?_
                  refine LW.pure rfl rfl (RV.move rfl) ?_
                  refine LW.noB rfl rfl rfl rfl (ne_beq (v := true) hq28 rfl) ?_
                  refine LW.noB rfl rfl rfl rfl (ne_beq (v := true) hq28 rfl) ?_
                  refine LW.noB rfl rfl rfl rfl (ne_beq (v := true) hq28 rfl) ?_
                  refine LW.pure rfl rfl (RV.pickTB rfl hq28 rfl) ?_
                  refine LW.pure rfl rfl (RV.move rfl) ?_
                  refine LW.noB rfl rfl rfl rfl (ne_beq (v := true) rfl rfl) ?_
                  refine LW.noB rfl rfl rfl rfl (ne_beq (v := true) rfl rfl) ?_
                  refine LW.noB rfl rfl rfl rfl (ne_beq (v := true) rfl rfl) ?_
                  refine LW.pure rfl rfl (RV.pickTB rfl rfl rfl) ?_
                  refine LW.nil (jK437 _ _ ⟨_, ?_, ⟨true, F, rfl, H⟩⟩)
                  exact ⟨rfl, rfl, rfl, rfl, (look_slice rfl (by first | rfl | (simp; done) | omega | (simp; omega))), rfl, rfl, trivial⟩
                ·
                  replace F := ite_n hp28 F
                  have hq28 := dec_f hp28
                  by_cases hp29 : (1073741824 : Int) < r4.1.den
                  ·
                    replace F := ite_y hp29 F
                    have hq29 := dec_t hp29
                    refine CW.region ?_
                    refine LW.pure rfl rfl (RV.fieldAddr Tf28_1 rfl) ?_
                    refine LW.pure rfl rfl (RV.load1 Tk3 rfl ((H.blk 4 rfl).cells.off 1) rfl) ?_
                    refine LW.pure rfl rfl (RV.lss rfl rfl) ?_
                    refine LW.pure rfl rfl (RV.move rfl) ?_
                    refine LW.pureYB rfl rfl rfl rfl hq28 (RV.fieldAddr Tf28_1 rfl) ?_
                    refine LW.pureYB rfl rfl rfl rfl hq28 (RV.load1 Tk3 rfl ((H.blk 4 rfl).cells.off 1) rfl) ?_
                    refine LW.pureYB rfl rfl rfl rfl hq28 (RV.gtr rfl rfl) ?_
                    refine LW.pure rfl rfl (RV.pickFB rfl hq28 rfl) ?_
                    refine LW.pure rfl rfl (RV.move rfl) ?_
                    refine LW.noB rfl rfl rfl rfl (ne_beq (v := true) hq29 rfl) ?_
                    refine LW.noB rfl rfl rfl rfl (ne_beq (v := true) hq29 rfl) ?_
                    refine LW.noB rfl rfl rfl rfl (ne_beq (v := true) hq29 rfl) ?_
                    refine LW.pure rfl rfl (RV.pickTB rfl hq29 rfl) ?_
                    refine LW.nil (jK437 _ _ ⟨_, ?_, ⟨true, F, rfl, H⟩⟩)
                    exact ⟨rfl, rfl, rfl, rfl, (look_slice rfl (by first | rfl | (simp; done) | omega | (simp; omega))), rfl, rfl, trivial⟩
                  ·
                    replace F := ite_n hp29 F
                    have hq29 := dec_f hp29
                    refine CW.region ?_
                    refine LW.pure rfl rfl (RV.fieldAddr Tf28_1 rfl) ?_
                    refine LW.pure rfl rfl (RV.load1 Tk3 rfl ((H.blk 4 rfl).cells.off 1) rfl) ?_
                    refine LW.pure rfl rfl (RV.lss rfl rfl) ?_
                    refine LW.pure rfl rfl (RV.move rfl) ?_
                    refine LW.pureYB rfl rfl rfl rfl hq28 (RV.fieldAddr Tf28_1 rfl) ?_
                    refine LW.pureYB rfl rfl rfl rfl hq28 (RV.load1 Tk3 rfl ((H.blk 4 rfl).cells.off 1) rfl) ?_
                    refine LW.pureYB rfl rfl rfl rfl hq28 (RV.gtr rfl rfl) ?_
                    refine LW.pure rfl rfl (RV.pickFB rfl hq28 rfl) ?_
                    refine LW.pure rfl rfl (RV.move rfl) ?_
                    refine LW.pureYB rfl rfl rfl rfl hq29 (RV.fieldAddr Tf28_0 rfl) ?_
                    refine LW.pureYB rfl rfl rfl rfl hq29 (RV.load1 Tk3 rfl ((H.blk 4 rfl).cells.off 0) rfl) ?_
                    refine LW.pureYB rfl rfl rfl rfl hq29 (RV.lss rfl rfl) ?_
                    refine LW.pure rfl rfl (RV.pickFB rfl hq29 rfl) ?_
                    refine LW.nil (jK437 _ _ ⟨_, ?_, ⟨(decide (r4.1.num < 0)), F, rfl, H⟩⟩)
                    exact ⟨rfl, rfl, rfl, rfl, (look_slice rfl (by first | rfl | (simp; done) | omega | (simp; omega))), rfl, rfl, trivial⟩
          ·
            intro K58 hK58 jK438
            by_cases hp30 : r3.2 = 0
            ·
              replace F := ite_y hp30 F
              have hq30 := dec_t hp30
              refine CW.region ?_
              refine LW.pure rfl rfl (RV.move rfl) ?_
              refine LW.pure rfl rfl (RV.nei rfl rfl) ?_
              refine LW.pure rfl rfl (RV.move rfl) ?_
              refine LW.pureYB rfl rfl rfl rfl (not_f hq30) (RV.move rfl) ?_
              refine LW.pureYB rfl rfl rfl rfl (not_f hq30) (RV.nei rfl rfl) ?_
              refine LW.pure rfl rfl (RV.pickFB rfl (not_f hq30) rfl) ?_
              replace H := H.pick (L' := [.tab A26_0 c26_0 39 hs26_0 3 1 (encM encN r3.1), .blk b1 24 [.int .i64 a0.points, .slice A_a0_readings a0.readings.length c_a0_readings], .blk b2 74 [.slice A_a1_heights a1.heights.length c_a1_heights, .int .i64 a1.i, .int .i64 a1.j], .blk b3 46 [.int .i64 a2.from_, .int .i64 a2.to_, .int .i64 a2.rise, .int .i64 a2.weight], .blk b7 28 [.int .i64 r4.1.num, .int .i64 r4.1.den]]) [1, 2, 3, 4, 0] (by decide) rfl
              replace R0 := H.ext
              refine LW.nil (jK438 _ _ ⟨_, ?_, ⟨(!(decide (r4.2 = 0))), F, rfl, H⟩⟩)
              exact ⟨rfl, rfl, rfl, rfl, (look_slice rfl (by first | rfl | (simp; done) | omega | (simp; omega))), rfl, rfl, rfl, rfl, trivial⟩
            ·
              replace F := ite_n hp30 F
              have hq30 := dec_f hp30
              refine CW.region ?_
              refine LW.pure rfl rfl (RV.move rfl) ?_
              refine LW.pure rfl rfl (RV.nei rfl rfl) ?_
              refine LW.pure rfl rfl (RV.move rfl) ?_
              refine LW.noB rfl rfl rfl rfl (ne_beq (v := true) (not_t hq30) rfl) ?_
              refine LW.noB rfl rfl rfl rfl (ne_beq (v := true) (not_t hq30) rfl) ?_
              refine LW.pure rfl rfl (RV.pickTB rfl (not_t hq30) rfl) ?_
              replace H := H.pick (L' := [.tab A26_0 c26_0 39 hs26_0 3 1 (encM encN r3.1), .blk b1 24 [.int .i64 a0.points, .slice A_a0_readings a0.readings.length c_a0_readings], .blk b2 74 [.slice A_a1_heights a1.heights.length c_a1_heights, .int .i64 a1.i, .int .i64 a1.j], .blk b3 46 [.int .i64 a2.from_, .int .i64 a2.to_, .int .i64 a2.rise, .int .i64 a2.weight], .blk b7 28 [.int .i64 r4.1.num, .int .i64 r4.1.den]]) [1, 2, 3, 4, 0] (by decide) rfl
              replace R0 := H.ext
              refine LW.nil (jK438 _ _ ⟨_, ?_, ⟨true, F, rfl, H⟩⟩)
              exact ⟨rfl, rfl, rfl, rfl, (look_slice rfl (by first | rfl | (simp; done) | omega | (simp; omega))), rfl, rfl, rfl, rfl, trivial⟩
      ·
        intro K59 hK59 jK439
        obtain ⟨r9, hr9, F⟩ := bnd_some F
        by_cases hp31 : r9 = true
        ·
          replace F := ite_y hp31 F
          have hq31 : r9 = true := hp31
          refine CW.region ?_
          refine LW.pure rfl rfl (RV.loadA [.int .i64 a0.points, .slice A_a0_readings a0.readings.length c_a0_readings] Tk24 rfl (H.blk 0 rfl).cells rfl rfl) ?_
          refine LW.go rfl rfl (OW.call Tc17 rfl (law01_Long_ok (a0 := a0) (h_a0_readings.ext R0) hr9) ?_)
          rintro _ w37 ⟨rfl, E14⟩
          refine ⟨_, rfl, ?_⟩
          replace H := H.grow E14
          replace R0 := H.ext
          refine LW.pure rfl rfl (RV.move rfl) ?_
          refine LW.noB rfl rfl rfl rfl (ne_beq (v := true) hq31 rfl) ?_
          refine LW.noB rfl rfl rfl rfl (ne_beq (v := true) hq31 rfl) ?_
          refine LW.noB rfl rfl rfl rfl (ne_beq (v := true) hq31 rfl) ?_
          refine LW.noB rfl rfl rfl rfl (ne_beq (v := true) hq31 rfl) ?_
          refine LW.pure rfl rfl (RV.pickTB rfl hq31 rfl) ?_
          refine LW.nil (jK439 _ _ ⟨_, ?_, ⟨true, F, rfl, H⟩⟩)
          exact ⟨rfl, rfl, rfl, rfl, rfl, trivial⟩
        ·
          replace F := ite_n hp31 F
          have hq31 : r9 = false := raw_f hp31
          refine CW.region ?_
          refine LW.pure rfl rfl (RV.loadA [.int .i64 a0.points, .slice A_a0_readings a0.readings.length c_a0_readings] Tk24 rfl (H.blk 0 rfl).cells rfl rfl) ?_
          refine LW.go rfl rfl (OW.call Tc17 rfl (law01_Long_ok (a0 := a0) (h_a0_readings.ext R0) hr9) ?_)
          rintro _ w38 ⟨rfl, E15⟩
          refine ⟨_, rfl, ?_⟩
          replace H := H.grow E15
          replace R0 := H.ext
          refine LW.pure rfl rfl (RV.move rfl) ?_
          refine LW.pureYB rfl rfl rfl rfl hq31 (RV.fieldAddr Tf74_0 rfl) ?_
          refine LW.pureYB rfl rfl rfl rfl hq31 (RV.load1 Tk39 rfl ((H.blk 1 rfl).cells.off 0) rfl) ?_
          refine LW.pureYB rfl rfl rfl rfl hq31 (RV.len Ts39 rfl) ?_
          refine LW.pureYB rfl rfl rfl rfl hq31 (RV.gtr rfl rfl) ?_
          refine LW.pure rfl rfl (RV.pickFB rfl hq31 rfl) ?_
          refine LW.nil (jK439 _ _ ⟨_, ?_, ⟨(decide ((100 : Int) < ((a1.heights.length : Int)))), F, rfl, H⟩⟩)
          exact ⟨rfl, rfl, rfl, rfl, rfl, trivial⟩
  ·
    intro K60 hK60 jK440
    by_cases hp32 : r10.2 = 0
    ·
      replace F := ite_y hp32 F
      have hq32 := dec_t hp32
      refine CW.region ?_
      refine LW.pure rfl rfl (RV.move rfl) ?_
      refine LW.pure rfl rfl (RV.nei rfl rfl) ?_
      refine LW.pure rfl rfl (RV.move rfl) ?_
      refine LW.pureYB rfl rfl rfl rfl (not_f hq32) (RV.loadA [.int .i64 r10.1.num, .int .i64 r10.1.den] Tk28 rfl (H.blk 0 rfl).cells rfl rfl) ?_
      refine LW.pureYB rfl rfl rfl rfl (not_f hq32) (RV.build (vs := [.int .i64 2, .int .i64 3]) (cs := [.int .i64 2, .int .i64 3]) rfl (fun _ => by kernel_rfl)) ?_
      refine LW.pureYB rfl rfl rfl rfl (not_f hq32) (RV.neA Te28g (Te28 _ _ _ _ ) rfl rfl) ?_
      refine LW.pure rfl rfl (RV.pickFB rfl (not_f hq32) rfl) ?_
      replace H := H.pick (L' := [.blk b1 24 [.int .i64 a0.points, .slice A_a0_readings a0.readings.length c_a0_readings], .blk b2 74 [.slice A_a1_heights a1.heights.length c_a1_heights, .int .i64 a1.i, .int .i64 a1.j], .blk b3 46 [.int .i64 a2.from_, .int .i64 a2.to_, .int .i64 a2.rise, .int .i64 a2.weight]]) [5, 4, 3] (by decide) rfl
      replace R0 := H.ext
      refine LW.nil (jK440 _ _ ⟨_, ?_, ⟨(!((r10.1.num == 2) && (r10.1.den == 3))), F, rfl, H⟩⟩)
      exact ⟨rfl, rfl, rfl, rfl, rfl, trivial⟩
    ·
      replace F := ite_n hp32 F
      have hq32 := dec_f hp32
      refine CW.region ?_
      refine LW.pure rfl rfl (RV.move rfl) ?_
      refine LW.pure rfl rfl (RV.nei rfl rfl) ?_
      refine LW.pure rfl rfl (RV.move rfl) ?_
      refine LW.noB rfl rfl rfl rfl (ne_beq (v := true) (not_t hq32) rfl) ?_
      refine LW.noB rfl rfl rfl rfl (ne_beq (v := true) (not_t hq32) rfl) ?_
      refine LW.noB rfl rfl rfl rfl (ne_beq (v := true) (not_t hq32) rfl) ?_
      refine LW.pure rfl rfl (RV.pickTB rfl (not_t hq32) rfl) ?_
      replace H := H.pick (L' := [.blk b1 24 [.int .i64 a0.points, .slice A_a0_readings a0.readings.length c_a0_readings], .blk b2 74 [.slice A_a1_heights a1.heights.length c_a1_heights, .int .i64 a1.i, .int .i64 a1.j], .blk b3 46 [.int .i64 a2.from_, .int .i64 a2.to_, .int .i64 a2.rise, .int .i64 a2.weight]]) [5, 4, 3] (by decide) rfl
      replace R0 := H.ext
      refine LW.nil (jK440 _ _ ⟨_, ?_, ⟨true, F, rfl, H⟩⟩)
      exact ⟨rfl, rfl, rfl, rfl, rfl, trivial⟩
end Go.D1

namespace Go.Tb
/-- A loop over 0 .. N - 1 with a state, that is left at the first i for which p does not hold. -/
theorem scan_loop {S R : Type} (N : Nat) (p : Nat → Bool) (g : Nat → S) (L : Nat → S → Int → Option R) (yes : Option R) (no : Nat → Option R)
    (step : ∀ n i : Nat, i < N → L (n + 1) (g i) (i : Int) = if p i = true then L n (g (i + 1)) ((i + 1 : Nat) : Int) else no i)
    (stop : ∀ n : Nat, L (n + 1) (g N) (N : Int) = yes) : ∀ (d n i : Nat), N = i + d → d < n → L n (g i) (i : Int) = match (List.range' i d).find? (fun j => !p j) with | none => yes | some j => no j
  | 0, n + 1, i, hd, hn => by
    have hi : i = N := by omega
    subst hi
    rw [stop n]; rfl
  | d + 1, n + 1, i, hd, hn => by
    rw [step n i (by omega), List.range'_succ, List.find?_cons]
    cases hp : p i
    · simp
    · simp only [if_true, Bool.not_true]
      exact scan_loop N p g L yes no step stop d n (i + 1) (by omega) (by omega)
theorem find_all {p : Nat → Bool} {i d : Nat} : (List.range' i d).find? (fun j => !p j) = none ↔ ∀ j, i ≤ j → j < i + d → p j = true := by
  rw [List.find?_eq_none]
  constructor
  · intro h j h1 h2
    have := h j (by rw [List.mem_range'_1]; omega)
    simpa using this
  · intro h x hx
    rw [List.mem_range'_1] at hx
    simp [h x hx.1 hx.2]
/-- A loop over 0 .. N - 1 with a state and no way out. -/
theorem for_loop {S R : Type} (N : Nat) (g : Nat → S) (L : Nat → S → Int → Option R) (yes : Option R)
    (step : ∀ n i : Nat, i < N → L (n + 1) (g i) (i : Int) = L n (g (i + 1)) ((i + 1 : Nat) : Int))
    (stop : ∀ n : Nat, L (n + 1) (g N) (N : Int) = yes) : ∀ (d n i : Nat), N = i + d → d < n → L n (g i) (i : Int) = yes
  | 0, n + 1, i, hd, hn => by
    have hi : i = N := by omega
    subst hi
    exact stop n
  | d + 1, n + 1, i, hd, hn => by
    rw [step n i (by omega)]
    exact for_loop N g L yes step stop d n (i + 1) (by omega) (by omega)
theorem for_loop0 {S R : Type} (N : Nat) (g : Nat → S) (L : Nat → S → Int → Option R) (yes : Option R)
    (step : ∀ n i : Nat, i < N → L (n + 1) (g i) (i : Int) = L n (g (i + 1)) ((i + 1 : Nat) : Int))
    (stop : ∀ n : Nat, L (n + 1) (g N) (N : Int) = yes) (hN : N ≤ 9223372036854775807) : L FU (g 0) 0 = yes :=
  for_loop N g L yes step stop N FU 0 (by omega) (by have := FU_pos; omega)
theorem scan_loop0 {S R : Type} (N : Nat) (p : Nat → Bool) (g : Nat → S) (L : Nat → S → Int → Option R) (yes no : Option R)
    (step : ∀ n i : Nat, i < N → L (n + 1) (g i) (i : Int) = if p i = true then L n (g (i + 1)) ((i + 1 : Nat) : Int) else no)
    (stop : ∀ n : Nat, L (n + 1) (g N) (N : Int) = yes) (hN : N ≤ 9223372036854775807) : L FU (g 0) 0 = if (∀ j, j < N → p j = true) then yes else no := by
  have h := scan_loop N p g L yes (fun _ => no) step stop N FU 0 (by omega) (by have := FU_pos; omega)
  refine Eq.trans h ?_
  cases hf : (List.range' 0 N).find? (fun j => !p j) with
  | none => rw [if_pos (fun j hj => find_all.1 hf j (by omega) (by omega))]
  | some j =>
    have h1 := List.find?_some hf
    have h2 := List.mem_of_find?_eq_some hf
    rw [List.mem_range'_1] at h2
    rw [if_neg]
    intro hall
    have := hall j (by omega)
    simp [this] at h1
/-- The same over the elements of a list. -/
theorem list_loop0 {α R : Type} (l : List α) (p : α → Bool) (L : Nat → Int → Option R) (yes no : Option R)
    (step : ∀ (n i : Nat) (x : α), l[i]? = some x → L (n + 1) (i : Int) = if p x = true then L n ((i + 1 : Nat) : Int) else no)
    (stop : ∀ n : Nat, L (n + 1) (l.length : Int) = yes) (hl : l.length ≤ 9223372036854775807) : L FU 0 = if l.all p = true then yes else no := by
  have h := scan_loop0 l.length (fun i => (l[i]?.map p).getD true) (fun _ => ()) (fun n _ i => L n i) yes no (fun n i hi => by
    have hx : l[i]? = some l[i] := by simp [hi]
    rw [step n i _ hx]; simp [hx]) stop hl
  refine Eq.trans h ?_
  by_cases ha : l.all p = true
  · rw [if_pos ha, if_pos]
    intro j hj
    have := List.all_eq_true.1 ha l[j] (List.getElem_mem hj)
    simp [hj, this]
  · rw [if_neg ha, if_neg]
    intro hc
    refine ha (List.all_eq_true.2 fun x hx => ?_)
    obtain ⟨j, hj⟩ := List.getElem?_of_mem hx
    have := hc j (lt_of_at hj)
    simpa [hj] using this
end Go.Tb

set_option linter.unusedVariables false
set_option linter.unusedSimpArgs false
namespace Go.D1
open Go.Tb
theorem ix0 {α β : Type} {l : List α} {k : α → Option β} {x : α} (h : l[0]? = some x) : ix l 0 k = k x := ix_nat (i := 0) h
theorem for0 {S R : Type} (N : Nat) (g : Nat → S) (L : Nat → S → Int → Option R) (yes : Option R) {s0 : S} (h0 : g 0 = s0)
    (step : ∀ n i : Nat, i < N → L (n + 1) (g i) (i : Int) = L n (g (i + 1)) ((i + 1 : Nat) : Int))
    (stop : ∀ n : Nat, L (n + 1) (g N) (N : Int) = yes) (hN : N ≤ 9223372036854775807) : L FU s0 0 = yes := by
  rw [← h0]; exact for_loop0 N g L yes step stop hN
def gi (l : List Int) (i : Nat) : Int := l.getD i 0
theorem gi_at {l : List Int} {i : Nat} (h : i < l.length) : l[i]? = some (gi l i) := by simp [gi, List.getD, h]
theorem gi_of {l : List Int} {i : Nat} {x : Int} (h : l[i]? = some x) : gi l i = x := by simp [gi, List.getD, h]
theorem gi_set {l : List Int} {i j : Nat} {x : Int} : gi (l.set i x) j = if i = j ∧ j < l.length then x else gi l j := by
  unfold gi
  simp only [List.getD_eq_getElem?_getD, List.getElem?_set]
  by_cases h : i = j
  · subst h
    by_cases h2 : i < l.length
    · simp [h2]
    · simp [h2]
  · simp [h]
theorem gi_ext {l l' : List Int} (hl : l.length = l'.length) (h : ∀ j, j < l.length → gi l j = gi l' j) : l = l' := by
  apply List.ext_getElem?
  intro j
  by_cases hj : j < l.length
  · rw [gi_at hj, gi_at (by omega), h j hj]
  · rw [List.getElem?_eq_none (by omega), List.getElem?_eq_none (by omega)]
def within (n lo hi : Int) : Bool := decide (lo ≤ n) && decide (n ≤ hi)
theorem within_iff {n lo hi : Int} : within n lo hi = true ↔ lo ≤ n ∧ n ≤ hi := by unfold within; simp
theorem lwithin_eq (n lo hi : Int) : level_within n lo hi = some (within n lo hi) := by
  unfold level_within within
  by_cases h : lo ≤ n <;> simp [h]
theorem rwithin_eq (n lo hi : Int) : ref01_within n lo hi = some (within n lo hi) := by
  unfold ref01_within within
  by_cases h : lo ≤ n <;> simp [h]
def okR (s : Survey) (r : Reading) : Bool := within r.from_ 0 (s.points - 1) && within r.to_ 0 (s.points - 1) && !decide (r.from_ = r.to_) && within r.rise (-1000) 1000 && within r.weight 1 3
def validate (s : Survey) : Int := if within s.points 1 5 = true then (if 8 < s.readings.length then 3 else if s.readings.all (okR s) = true then 0 else 1) else 1
theorem Validate_eq (s : Survey) : level_Validate s = some (validate s) := by
  unfold level_Validate validate
  rw [bnd_eq (lwithin_eq _ _ _)]
  by_cases hp : within s.points 1 5 = true
  · have hw := within_iff.1 hp
    rw [if_pos hp, if_pos hp]
    by_cases h8 : 8 < s.readings.length
    · rw [if_pos (by omega), if_pos h8]
    · rw [if_neg (by omega), if_neg h8]
      refine Eq.trans (list_loop0 s.readings (okR s) (level_Validate_L1 s) (some 0) (some 1) (fun k i x hx => ?_) (fun k => ?_) (by omega)) (by split <;> rfl)
      · have := lt_of_at hx
        show level_Validate_B1 s (level_Validate_L1 s k) _ = _
        unfold level_Validate_B1 okR level_Validate_k2
        rw [if_pos (by omega), ix_nat hx, gd_pos (by omega), bnd_eq (lwithin_eq _ _ _)]
        cases h1 : within x.from_ 0 (s.points - 1)
        · rw [if_neg (by simp), if_pos rfl]; rfl
        · rw [if_pos rfl, gd_pos (by omega), bnd_eq (lwithin_eq _ _ _)]
          cases h2 : within x.to_ 0 (s.points - 1)
          · rw [if_neg (by simp), if_pos rfl]; rfl
          · rw [if_pos rfl]
            by_cases h3 : x.from_ = x.to_
            · rw [if_pos h3, if_pos rfl, decide_eq_true h3]; rfl
            · rw [if_neg h3, decide_eq_false h3, bnd_eq (lwithin_eq _ _ _)]
              cases h4 : within x.rise (-1000) 1000
              · rw [if_neg (by simp), if_pos rfl]; rfl
              · rw [if_pos rfl, bnd_eq (lwithin_eq _ _ _)]
                cases h5 : within x.weight 1 3
                · rw [if_pos (by rfl)]; rfl
                · rw [if_neg (by simp), gd_pos (by omega)]; rfl
      · show level_Validate_B1 s (level_Validate_L1 s k) _ = _
        unfold level_Validate_B1
        rw [if_neg (by omega)]; rfl
  · rw [if_neg hp, if_neg hp]
theorem rValidate_eq (s : Survey) : ref01_Validate s = some (validate s) := by
  unfold ref01_Validate validate
  rw [bnd_eq (rwithin_eq _ _ _)]
  by_cases hp : within s.points 1 5 = true
  · have hw := within_iff.1 hp
    rw [if_pos hp, if_pos hp]
    by_cases h8 : 8 < s.readings.length
    · rw [if_pos (by omega), if_pos h8]
    · rw [if_neg (by omega), if_neg h8]
      refine Eq.trans (list_loop0 s.readings (okR s) (ref01_Validate_L1 s) (some 0) (some 1) (fun k i x hx => ?_) (fun k => ?_) (by omega)) (by split <;> rfl)
      · have := lt_of_at hx
        show ref01_Validate_B1 s (ref01_Validate_L1 s k) _ = _
        unfold ref01_Validate_B1 okR ref01_Validate_k2
        rw [if_pos (by omega), ix_nat hx, gd_pos (by omega), bnd_eq (rwithin_eq _ _ _)]
        cases h1 : within x.from_ 0 (s.points - 1)
        · rw [if_neg (by simp), if_pos rfl]; rfl
        · rw [if_pos rfl, gd_pos (by omega), bnd_eq (rwithin_eq _ _ _)]
          cases h2 : within x.to_ 0 (s.points - 1)
          · rw [if_neg (by simp), if_pos rfl]; rfl
          · rw [if_pos rfl]
            by_cases h3 : x.from_ = x.to_
            · rw [if_pos h3, if_pos rfl, decide_eq_true h3]; rfl
            · rw [if_neg h3, decide_eq_false h3, bnd_eq (rwithin_eq _ _ _)]
              cases h4 : within x.rise (-1000) 1000
              · rw [if_neg (by simp), if_pos rfl]; rfl
              · rw [if_pos rfl, bnd_eq (rwithin_eq _ _ _)]
                cases h5 : within x.weight 1 3
                · rw [if_pos (by rfl)]; rfl
                · rw [if_neg (by simp), gd_pos (by omega)]; rfl
      · show ref01_Validate_B1 s (ref01_Validate_L1 s k) _ = _
        unfold ref01_Validate_B1
        rw [if_neg (by omega)]; rfl
  · rw [if_neg hp, if_neg hp]
structure SvOk (s : Survey) : Prop where
  p1 : 1 ≤ s.points
  p5 : s.points ≤ 5
  len : s.readings.length ≤ 8
  rd : ∀ r ∈ s.readings, (0 ≤ r.from_ ∧ r.from_ < s.points) ∧ (0 ≤ r.to_ ∧ r.to_ < s.points) ∧ r.from_ ≠ r.to_ ∧ (-1000 ≤ r.rise ∧ r.rise ≤ 1000) ∧ (1 ≤ r.weight ∧ r.weight ≤ 3)
theorem val0 {s : Survey} : validate s = 0 ↔ SvOk s := by
  unfold validate
  constructor
  · intro h
    split at h
    · rename_i hp
      have hw := within_iff.1 hp
      split at h
      · omega
      · split at h
        · rename_i hall
          refine ⟨hw.1, hw.2, by omega, fun r hr => ?_⟩
          have := List.all_eq_true.1 hall r hr
          unfold okR at this
          simp only [Bool.and_eq_true, within_iff, Bool.not_eq_true', decide_eq_false_iff_not] at this
          omega
        · omega
    · omega
  · intro h
    rw [if_pos (within_iff.2 ⟨h.p1, h.p5⟩), if_neg (by have := h.len; omega), if_pos]
    rw [List.all_eq_true]
    intro r hr
    have := h.rd r hr
    unfold okR
    simp only [Bool.and_eq_true, within_iff, Bool.not_eq_true', decide_eq_false_iff_not]
    omega
theorem Long_eq (s : Survey) : law01_Long s = some (decide ((100 : Int) < (s.readings.length : Int))) := rfl
end Go.D1

set_option linter.unusedVariables false
set_option linter.unusedSimpArgs false
namespace Go.D1
open Go.Tb
def gr (l : List Reading) (i : Nat) : Reading := l.getD i ⟨0, 0, 0, 0⟩
theorem gr_at {l : List Reading} {i : Nat} (h : i < l.length) : l[i]? = some (gr l i) := by simp [gr, List.getD, h]
theorem gr_ok {s : Survey} (h : SvOk s) {i : Nat} (hi : i < s.readings.length) : (0 ≤ (gr s.readings i).from_ ∧ (gr s.readings i).from_ < s.points) ∧ (0 ≤ (gr s.readings i).to_ ∧ (gr s.readings i).to_ < s.points) ∧ (gr s.readings i).from_ ≠ (gr s.readings i).to_ ∧ (-1000 ≤ (gr s.readings i).rise ∧ (gr s.readings i).rise ≤ 1000) ∧ (1 ≤ (gr s.readings i).weight ∧ (gr s.readings i).weight ≤ 3) := h.rd _ (List.mem_of_getElem? (gr_at hi))
/-- Joined by the first j readings. -/
inductive Con (s : Survey) (j : Nat) : Int → Int → Prop where
  | refl (a : Int) : Con s j a a
  | edge {i : Nat} : i < j → i < s.readings.length → Con s j (gr s.readings i).from_ (gr s.readings i).to_
  | symm {a b : Int} : Con s j a b → Con s j b a
  | trans {a b c : Int} : Con s j a b → Con s j b c → Con s j a c
theorem Con.mono {s : Survey} {j k : Nat} (hjk : j ≤ k) {a b : Int} (h : Con s j a b) : Con s k a b := by
  induction h with
  | refl a => exact .refl a
  | edge h1 h2 => exact .edge (by omega) h2
  | symm _ ih => exact ih.symm
  | trans _ _ i1 i2 => exact i1.trans i2
/-- A list that gives the smallest point of each point's part. -/
structure Roots (s : Survey) (j : Nat) (f : List Int) : Prop where
  len : f.length = s.points.toNat
  le : ∀ i, i < f.length → 0 ≤ gi f i ∧ gi f i ≤ i
  con : ∀ i, i < f.length → Con s j (gi f i) (i : Int)
  same : ∀ i, i < j → i < s.readings.length → gi f (gr s.readings i).from_.toNat = gi f (gr s.readings i).to_.toNat
theorem Roots.eq_of {s : Survey} (hs : SvOk s) {j : Nat} {f : List Int} (h : Roots s j f) {a b : Int} (hc : Con s j a b) : (0 ≤ a ∧ a < s.points ↔ 0 ≤ b ∧ b < s.points) ∧ (0 ≤ a ∧ a < s.points → gi f a.toNat = gi f b.toNat) := by
  induction hc with
  | refl a => exact ⟨Iff.rfl, fun _ => rfl⟩
  | edge h1 h2 =>
    have := gr_ok hs h2
    exact ⟨by omega, fun _ => h.same _ h1 h2⟩
  | symm _ ih => exact ⟨ih.1.symm, fun hb => (ih.2 (ih.1.2 hb)).symm⟩
  | trans _ _ i1 i2 => exact ⟨i1.1.trans i2.1, fun ha => (i1.2 ha).trans (i2.2 (i1.1.1 ha))⟩
theorem Roots.uniq {s : Survey} (hs : SvOk s) {j : Nat} {f g : List Int} (hf : Roots s j f) (hg : Roots s j g) : f = g := by
  have hp := hs.p1
  refine gi_ext (by rw [hf.len, hg.len]) fun i hi => ?_
  have hfl := hf.len
  have hgl := hg.len
  have key : ∀ {f g : List Int}, Roots s j f → Roots s j g → ∀ i, i < s.points.toNat → gi g i ≤ gi f i := fun {f g} hf hg i hi => by
    have h1 := hf.le i (by rw [hf.len]; exact hi)
    have h2 := (hg.eq_of hs (hf.con i (by rw [hf.len]; exact hi))).2 (by omega)
    have h3 := hg.le (gi f i).toNat (by rw [hg.len]; omega)
    rw [show ((i : Int)).toNat = i by omega] at h2
    omega
  have := key hf hg i (by omega)
  have := key hg hf i (by omega)
  omega
def relab (f : List Int) (a b : Int) : List Int := f.map fun x => if x = max (gi f a.toNat) (gi f b.toNat) then min (gi f a.toNat) (gi f b.toNat) else x
theorem relab_len (f : List Int) (a b : Int) : (relab f a b).length = f.length := by unfold relab; simp
theorem relab_gi {f : List Int} {a b : Int} {i : Nat} (hi : i < f.length) : gi (relab f a b) i = if gi f i = max (gi f a.toNat) (gi f b.toNat) then min (gi f a.toNat) (gi f b.toNat) else gi f i := by
  apply gi_of
  unfold relab
  rw [List.getElem?_map, gi_at hi]; rfl
theorem join_eq {f : List Int} {a b : Int} (hf : f.length ≤ 1000) (ha : 0 ≤ a ∧ a < (f.length : Int)) (hb : 0 ≤ b ∧ b < (f.length : Int)) : level_forest_1 f a b = some (!decide (gi f a.toNat = gi f b.toNat), relab f a b) := by
  have hA : f[a.toNat]? = some (gi f a.toNat) := gi_at (by omega)
  have hB : f[b.toNat]? = some (gi f b.toNat) := gi_at (by omega)
  unfold level_forest_1
  rw [ix_eq ha.1 hA, ix_eq hb.1 hB, ix_eq ha.1 hA, ix_eq hb.1 hB]
  refine Eq.trans (for0 f.length (fun i => (relab f a b).take i ++ f.drop i) (fun k s i => level_forest_1_L1 f (gi f a.toNat) (gi f b.toNat) (gi f a.toNat) (gi f b.toNat) k i s) (some (!decide (gi f a.toNat = gi f b.toNat), relab f a b)) (by simp) (fun k i hi => ?_) (fun k => ?_) (by omega)) rfl
  · show level_forest_1_B1 f _ _ _ _ (level_forest_1_L1 f _ _ _ _ k) _ _ = _
    have hl := relab_len f a b
    have hx : ((relab f a b).take i ++ f.drop i)[i]? = some (gi f i) := by
      rw [List.getElem?_append_right (by rw [List.length_take]; omega), List.length_take, hl, List.getElem?_drop, show i + (i - min i f.length) = i by omega]
      exact gi_at hi
    have hnext : (relab f a b).take (i + 1) ++ f.drop (i + 1) = ((relab f a b).take i ++ f.drop i).set i (gi (relab f a b) i) := by
      rw [List.set_append_right _ _ (by rw [List.length_take]; omega), List.length_take, hl, show i - min i f.length = 0 by omega, List.drop_eq_getElem_cons hi, List.set_cons_zero, List.take_add_one, gi_at (by omega)]
      simp
    unfold level_forest_1_B1 level_forest_1_k2
    rw [if_pos (by omega), ix_nat hx]
    by_cases hm : gi f i = max (gi f a.toNat) (gi f b.toNat)
    · rw [if_pos hm, ix_nat hx, gd_pos (by omega), hnext, relab_gi hi, if_pos hm]; rfl
    · rw [if_neg hm, gd_pos (by omega), hnext, relab_gi hi, if_neg hm]
      have e : ((relab f a b).take i ++ f.drop i).set i (gi f i) = (relab f a b).take i ++ f.drop i := by
        apply List.ext_getElem?
        intro q
        rw [List.getElem?_set]
        by_cases hq : i = q
        · subst hq; rw [if_pos rfl, if_pos (lt_of_at hx), hx]
        · rw [if_neg hq]
      rw [e]; rfl
  · show level_forest_1_B1 f _ _ _ _ (level_forest_1_L1 f _ _ _ _ k) _ _ = _
    unfold level_forest_1_B1 level_forest_1_k1
    have hl := relab_len f a b
    rw [if_neg (by omega), List.drop_of_length_le (Nat.le_refl _), List.append_nil, List.take_of_length_le (by omega)]
    congr 3
    exact decide_eq_decide.2 (by omega)
def iota (n : Nat) : List Int := (List.range n).map fun (i : Nat) => (i : Int)
theorem iota_gi {n i : Nat} (h : i < n) : gi (iota n) i = i := by
  apply gi_of
  unfold iota
  rw [List.getElem?_map, List.getElem?_range h]; rfl
theorem iota_len (n : Nat) : (iota n).length = n := by unfold iota; simp
theorem iota_succ (n : Nat) : iota (n + 1) = iota n ++ [(n : Int)] := by unfold iota; rw [List.range_succ, List.map_append]; rfl
def firsts (s : Survey) : Nat → List Int
  | 0 => iota s.points.toNat
  | j + 1 => relab (firsts s j) (gr s.readings j).from_ (gr s.readings j).to_
theorem firsts_ok {s : Survey} (hs : SvOk s) : ∀ j, j ≤ s.readings.length → Roots s j (firsts s j)
  | 0, _ => {
    len := iota_len _
    le := fun i hi => by
      simp only [firsts] at hi ⊢
      rw [iota_len] at hi
      rw [iota_gi hi]; omega
    con := fun i hi => by
      simp only [firsts] at hi ⊢
      rw [iota_len] at hi
      rw [iota_gi hi]; exact .refl _
    same := fun i hi => by omega }
  | j + 1, hj => by
    have ih := firsts_ok hs j (by omega)
    have hr := gr_ok hs (i := j) (by omega)
    have hl := ih.len
    have hp := hs.p1
    have la := ih.le (gr s.readings j).from_.toNat (by omega)
    have lb := ih.le (gr s.readings j).to_.toNat (by omega)
    have ca := (ih.con (gr s.readings j).from_.toNat (by omega)).mono (Nat.le_succ j)
    have cb := (ih.con (gr s.readings j).to_.toNat (by omega)).mono (Nat.le_succ j)
    rw [show (((gr s.readings j).from_.toNat : Nat) : Int) = (gr s.readings j).from_ by omega] at ca
    rw [show (((gr s.readings j).to_.toNat : Nat) : Int) = (gr s.readings j).to_ by omega] at cb
    have cab : Con s (j + 1) (gi (firsts s j) (gr s.readings j).from_.toNat) (gi (firsts s j) (gr s.readings j).to_.toNat) := ca.trans ((Con.edge (Nat.lt_succ_self j) (by omega)).trans cb.symm)
    have hg : ∀ i, i < (firsts s j).length → gi (firsts s (j + 1)) i = if gi (firsts s j) i = max (gi (firsts s j) (gr s.readings j).from_.toNat) (gi (firsts s j) (gr s.readings j).to_.toNat) then min (gi (firsts s j) (gr s.readings j).from_.toNat) (gi (firsts s j) (gr s.readings j).to_.toNat) else gi (firsts s j) i := fun i hi => relab_gi hi
    generalize hA : gi (firsts s j) (gr s.readings j).from_.toNat = A at *
    generalize hB : gi (firsts s j) (gr s.readings j).to_.toNat = B at *
    have hl' : (firsts s (j + 1)).length = (firsts s j).length := relab_len _ _ _
    refine ⟨by rw [hl', hl], fun i hi => ?_, fun i hi => ?_, fun i hi hi2 => ?_⟩
    · rw [hl'] at hi
      have := ih.le i hi
      rw [hg i hi]
      split <;> omega
    · rw [hl'] at hi
      rw [hg i hi]
      have hc := (ih.con i hi).mono (Nat.le_succ j)
      split
      · rename_i he
        rw [he] at hc
        have cm : Con s (j + 1) (min A B) (max A B) := by
          rcases Int.le_total A B with h | h
          · rw [show min A B = A by omega, show max A B = B by omega]; exact cab
          · rw [show min A B = B by omega, show max A B = A by omega]; exact cab.symm
        exact cm.trans hc
      · exact hc
    · have hri := gr_ok hs hi2
      rw [hg _ (by omega), hg _ (by omega)]
      by_cases e : i = j
      · subst e
        rw [hA, hB]
        split <;> split <;> omega
      · rw [ih.same i (by omega) hi2]
def treeL (s : Survey) : Nat → List Int
  | 0 => []
  | j + 1 => treeL s j ++ (if gi (firsts s j) (gr s.readings j).from_.toNat = gi (firsts s j) (gr s.readings j).to_.toNat then [] else [(j : Int)])
theorem treeL_len (s : Survey) : ∀ j, (treeL s j).length ≤ j
  | 0 => Nat.le_refl _
  | j + 1 => by
    have := treeL_len s j
    simp only [treeL]
    split <;> simp <;> omega
theorem forest_eq {s : Survey} (hs : SvOk s) : level_forest s = some (firsts s s.readings.length, treeL s s.readings.length) := by
  have hp := hs.p1
  have hp5 := hs.p5
  have h8 := hs.len
  unfold level_forest
  refine for0 s.points.toNat iota (fun k l i => level_forest_L2 s k i l) _ rfl (fun k i hi => ?_) (fun k => ?_) (by omega)
  · show level_forest_B2 s (level_forest_L2 s k) _ _ = _
    unfold level_forest_B2
    have := iota_len i
    rw [if_pos (by omega), gd_pos (by rw [this]; simp; omega), gd_pos (by omega), iota_succ]; rfl
  · show level_forest_B2 s (level_forest_L2 s k) _ _ = _
    unfold level_forest_B2 level_forest_k3
    rw [if_neg (by omega)]
    refine for0 s.readings.length (fun i => (treeL s i, firsts s i)) (fun k l i => level_forest_L1 s k i l.1 l.2) _ (s0 := ([], iota s.points.toNat)) rfl (fun k i hi => ?_) (fun k => ?_) (by omega)
    · show level_forest_B1 s (level_forest_L1 s k) (i : Int) (treeL s i) (firsts s i) = _
      have hF := firsts_ok hs i (by omega)
      have hl := hF.len
      have hr := gr_ok hs hi
      have ht := treeL_len s i
      unfold level_forest_B1 level_forest_k2
      rw [if_pos (by omega), ix_nat (gr_at hi), bnd_eq (join_eq (by omega) (by omega) (by omega))]
      simp only [treeL, firsts]
      by_cases he : gi (firsts s i) (gr s.readings i).from_.toNat = gi (firsts s i) (gr s.readings i).to_.toNat
      · rw [if_neg (by simp [he]), gd_pos (by omega), if_pos he, List.append_nil]; rfl
      · rw [if_pos (by simp [he]), gd_pos (by simp; omega), gd_pos (by omega), if_neg he]; rfl
    · show level_forest_B1 s (level_forest_L1 s k) _ _ _ = _
      unfold level_forest_B1
      rw [if_neg (by omega)]; rfl
/-- What is kept while points are told smaller ones. -/
structure Pre (s : Survey) (j : Nat) (f : List Int) : Prop where
  len : f.length = s.points.toNat
  le : ∀ i, i < f.length → 0 ≤ gi f i ∧ gi f i ≤ i
  con : ∀ i, i < f.length → Con s j (gi f i) (i : Int)
def tot : List Int → Nat
  | [] => 0
  | x :: r => x.toNat + tot r
theorem tot_set : ∀ {l : List Int} {i : Nat} {x : Int}, i < l.length → tot (l.set i x) + (gi l i).toNat = tot l + x.toNat
  | [], i, x, h => by simp at h
  | y :: r, 0, x, h => by simp [tot, gi]; omega
  | y :: r, i + 1, x, h => by
    have := tot_set (l := r) (i := i) (x := x) (by simpa using h)
    have e : gi (y :: r) (i + 1) = gi r i := by simp [gi]
    simp only [List.set_cons_succ, tot, e]; omega
theorem tot_le {B : Nat} : ∀ {l : List Int}, (∀ x ∈ l, x.toNat ≤ B) → tot l ≤ B * l.length
  | [], _ => Nat.le_refl _
  | x :: r, h => by
    have := tot_le (l := r) (fun y hy => h y (List.mem_cons_of_mem _ hy))
    have := h x (List.mem_cons_self ..)
    simp only [tot, List.length_cons, Nat.mul_succ]; omega
/-- One step: two points are told the smaller number. -/
def step (f : List Int) (a b : Nat) : List Int := (f.set a (min (gi f a) (gi f b))).set b (min (gi f a) (gi f b))
theorem step_len (f : List Int) (a b : Nat) : (step f a b).length = f.length := by unfold step; simp
theorem step_gi {f : List Int} {a b : Nat} (ha : a < f.length) (hb : b < f.length) (i : Nat) : gi (step f a b) i = if i = a ∨ i = b then min (gi f a) (gi f b) else gi f i := by
  unfold step
  rw [gi_set, gi_set]
  simp only [List.length_set]
  by_cases h1 : b = i
  · subst h1; rw [if_pos ⟨rfl, hb⟩, if_pos (.inr rfl)]
  · rw [if_neg (fun h => h1 h.1)]
    by_cases h2 : a = i
    · subst h2; rw [if_pos ⟨rfl, ha⟩, if_pos (.inl rfl)]
    · rw [if_neg (fun h => h2 h.1), if_neg (by omega)]
theorem step_pre {s : Survey} (hs : SvOk s) {j : Nat} {f : List Int} (h : Pre s j f) {i : Nat} (hi : i < j) (hi2 : i < s.readings.length) (hne : gi f (gr s.readings i).from_.toNat ≠ gi f (gr s.readings i).to_.toNat) :
    Pre s j (step f (gr s.readings i).from_.toNat (gr s.readings i).to_.toNat) ∧ tot (step f (gr s.readings i).from_.toNat (gr s.readings i).to_.toNat) < tot f := by
  have hr := gr_ok hs hi2
  have hl := h.len
  have ha : (gr s.readings i).from_.toNat < f.length := by omega
  have hb : (gr s.readings i).to_.toNat < f.length := by omega
  have hab : (gr s.readings i).from_.toNat ≠ (gr s.readings i).to_.toNat := by omega
  have ca := h.con _ ha
  have cb := h.con _ hb
  rw [show (((gr s.readings i).from_.toNat : Nat) : Int) = (gr s.readings i).from_ by omega] at ca
  rw [show (((gr s.readings i).to_.toNat : Nat) : Int) = (gr s.readings i).to_ by omega] at cb
  have ce : Con s j (gr s.readings i).from_ (gr s.readings i).to_ := .edge hi hi2
  have la := h.le _ ha
  have lb := h.le _ hb
  constructor
  · refine ⟨by rw [step_len, hl], fun q hq => ?_, fun q hq => ?_⟩
    · rw [step_len] at hq
      have := h.le q hq
      rw [step_gi ha hb]
      split
      · rename_i e
        rcases e with e | e <;> subst e <;> omega
      · exact this
    · rw [step_len] at hq
      rw [step_gi ha hb]
      split
      · rename_i e
        have cm : Con s j (min (gi f (gr s.readings i).from_.toNat) (gi f (gr s.readings i).to_.toNat)) (gr s.readings i).from_ := by
          rcases Int.le_total (gi f (gr s.readings i).from_.toNat) (gi f (gr s.readings i).to_.toNat) with h | h
          · rw [show min (gi f (gr s.readings i).from_.toNat) (gi f (gr s.readings i).to_.toNat) = gi f (gr s.readings i).from_.toNat by omega]; exact ca
          · rw [show min (gi f (gr s.readings i).from_.toNat) (gi f (gr s.readings i).to_.toNat) = gi f (gr s.readings i).to_.toNat by omega]; exact cb.trans ce.symm
        rcases e with e | e
        · rw [e, show (((gr s.readings i).from_.toNat : Nat) : Int) = (gr s.readings i).from_ by omega]; exact cm
        · rw [e, show (((gr s.readings i).to_.toNat : Nat) : Int) = (gr s.readings i).to_ by omega]; exact cm.trans ce
      · exact h.con q hq
  · have t1 := tot_set (l := f) (x := min (gi f (gr s.readings i).from_.toNat) (gi f (gr s.readings i).to_.toNat)) ha
    have t2 := tot_set (l := f.set (gr s.readings i).from_.toNat (min (gi f (gr s.readings i).from_.toNat) (gi f (gr s.readings i).to_.toNat))) (x := min (gi f (gr s.readings i).from_.toNat) (gi f (gr s.readings i).to_.toNat)) (i := (gr s.readings i).to_.toNat) (by rw [List.length_set]; exact hb)
    rw [gi_set, if_neg (fun h => hab h.1)] at t2
    unfold step
    omega
/-- One round of the document's search. -/
theorem round_eq {s : Survey} (hs : SvOk s) {j : Nat} (hj : j ≤ s.readings.length) (rec2 : Bool → List Int → Option (List Int)) : ∀ (d i k : Nat) (f : List Int) (b : Bool), j = i + d → d < k → Pre s j f → (b = false → ∀ q, q < i → gi f (gr s.readings q).from_.toNat = gi f (gr s.readings q).to_.toNat) →
    ∃ f' b', ref01_roots_L1 s (j : Int) rec2 k b (i : Int) f = rec2 b' f' ∧ Pre s j f' ∧ tot f' ≤ tot f ∧ (b = true → b' = true) ∧ (b = false → b' = true → tot f' < tot f) ∧ (b' = false → Roots s j f')
  | 0, i, k + 1, f, b, hd, hk, hP, hb => by
    have h8 := hs.len
    refine ⟨f, b, ?_, hP, Nat.le_refl _, id, (fun h1 h2 => by rw [h1] at h2; cases h2), fun h => ⟨hP.len, hP.le, hP.con, fun q hq hq2 => hb h q (by omega)⟩⟩
    show ref01_roots_B1 s (j : Int) rec2 (ref01_roots_L1 s (j : Int) rec2 k) b _ f = _
    unfold ref01_roots_B1
    rw [if_neg (by omega)]
  | d + 1, i, k + 1, f, b, hd, hk, hP, hb => by
    have h8 := hs.len
    have hi2 : i < s.readings.length := by omega
    have hr := gr_ok hs hi2
    have hl := hP.len
    have hA : f[(gr s.readings i).from_.toNat]? = some (gi f (gr s.readings i).from_.toNat) := gi_at (by omega)
    have hB : f[(gr s.readings i).to_.toNat]? = some (gi f (gr s.readings i).to_.toNat) := gi_at (by omega)
    have e : ref01_roots_L1 s (j : Int) rec2 (k + 1) b (i : Int) f = ref01_roots_B1 s (j : Int) rec2 (ref01_roots_L1 s (j : Int) rec2 k) b (i : Int) f := rfl
    rw [e]
    unfold ref01_roots_B1 ref01_roots_k2
    rw [if_pos (by omega), ix_nat (gr_at hi2), ix_nat (gr_at hi2), ix_eq hr.1.1 hA, ix_eq hr.2.1.1 hB]
    by_cases he : gi f (gr s.readings i).from_.toNat = gi f (gr s.readings i).to_.toNat
    · rw [if_pos he, gd_pos (by omega)]
      exact round_eq hs hj rec2 d (i + 1) k f b (by omega) (by omega) hP (fun h q hq => by
        by_cases e : q = i
        · subst e; exact he
        · exact hb h q (by omega))
    · rw [if_neg he, ix_eq hr.1.1 hA, ix_eq hr.2.1.1 hB, ix_eq hr.1.1 hA]
      have ⟨s1, s2⟩ := step_pre hs hP (i := i) (by omega) hi2 he
      have hX : (f.set (gr s.readings i).from_.toNat (min (gi f (gr s.readings i).from_.toNat) (gi f (gr s.readings i).to_.toNat)))[(gr s.readings i).to_.toNat]? = some (gi (f.set (gr s.readings i).from_.toNat (min (gi f (gr s.readings i).from_.toNat) (gi f (gr s.readings i).to_.toNat))) (gr s.readings i).to_.toNat) := gi_at (by rw [List.length_set]; omega)
      rw [ix_eq hr.2.1.1 hX, gd_pos (by omega)]
      obtain ⟨f', b', q1, q2, q3, q4, q5, q6⟩ := round_eq hs hj rec2 d (i + 1) k (step f (gr s.readings i).from_.toNat (gr s.readings i).to_.toNat) true (by omega) (by omega) s1 (fun h => by cases h)
      exact ⟨f', b', q1, q2, by omega, fun _ => q4 rfl, fun _ _ => by omega, q6⟩
theorem rounds_eq {s : Survey} (hs : SvOk s) {j : Nat} (hj : j ≤ s.readings.length) : ∀ (q k : Nat) (f : List Int), tot f < q → q < k → Pre s j f → ref01_roots_L2 s (j : Int) k true f = some (firsts s j)
  | 0, k, f, hq, _, _ => by omega
  | q + 1, k + 1, f, hq, hk, hP => by
    have e : ref01_roots_L2 s (j : Int) (k + 1) true f = ref01_roots_B2 s (j : Int) (ref01_roots_L2 s (j : Int) k) true f := rfl
    rw [e]
    unfold ref01_roots_B2
    rw [if_pos rfl]
    obtain ⟨f', b', q1, q2, q3, q4, q5, q6⟩ := round_eq hs hj (ref01_roots_L2 s (j : Int) k) j 0 FU f false (by omega) (by have := FU_pos; have := hs.len; omega) hP (fun _ q hq => by omega)
    have q1' : ref01_roots_L1 s (j : Int) (ref01_roots_L2 s (j : Int) k) FU false 0 f = ref01_roots_L2 s (j : Int) k b' f' := q1
    rw [q1']
    cases b' with
    | true => exact rounds_eq hs hj q k f' (by have := q5 rfl rfl; omega) (by omega) q2
    | false =>
      cases k with
      | zero => omega
      | succ k =>
        show ref01_roots_B2 s (j : Int) (ref01_roots_L2 s (j : Int) k) false f' = _
        unfold ref01_roots_B2 ref01_roots_k1
        rw [if_neg (by simp), (q6 rfl).uniq hs (firsts_ok hs j hj)]
theorem roots_eq {s : Survey} (hs : SvOk s) {j : Nat} (hj : j ≤ s.readings.length) : ref01_roots s (j : Int) = some (firsts s j) := by
  have hp := hs.p1
  have hp5 := hs.p5
  have h8 := hs.len
  unfold ref01_roots
  rw [gd_pos (by omega)]
  refine for0 s.points.toNat (fun i => iota i ++ List.replicate (s.points.toNat - i) 0) (fun k l i => ref01_roots_L3 s (j : Int) k i l) _ (by simp [iota]) (fun k i hi => ?_) (fun k => ?_) (by omega)
  · show ref01_roots_B3 s (j : Int) (ref01_roots_L3 s (j : Int) k) _ _ = _
    have hil := iota_len i
    have hx : (iota i ++ List.replicate (s.points.toNat - i) 0)[i]? = some 0 := by
      rw [List.getElem?_append_right (by omega), hil, Nat.sub_self, List.getElem?_replicate, if_pos (by omega)]
    have hn : iota (i + 1) ++ List.replicate (s.points.toNat - (i + 1)) 0 = (iota i ++ List.replicate (s.points.toNat - i) 0).set i (i : Int) := by
      rw [List.set_append_right _ _ (by omega), hil, Nat.sub_self, show s.points.toNat - i = (s.points.toNat - (i + 1)) + 1 by omega, List.replicate_succ, List.set_cons_zero, iota_succ]; simp
    unfold ref01_roots_B3
    rw [if_pos (by omega), ix_nat hx, gd_pos (by omega), hn]; rfl
  · show ref01_roots_B3 s (j : Int) (ref01_roots_L3 s (j : Int) k) _ _ = _
    unfold ref01_roots_B3 ref01_roots_k3
    rw [if_neg (by omega), Nat.sub_self, List.replicate_zero, List.append_nil]
    have h0 := firsts_ok hs 0 (by omega)
    have hP : Pre s j (iota s.points.toNat) := ⟨h0.len, h0.le, fun i hi => (h0.con i hi).mono (Nat.zero_le _)⟩
    have ht : tot (iota s.points.toNat) ≤ 5 * (iota s.points.toNat).length := tot_le fun x hx => by
      obtain ⟨q, hq⟩ := List.getElem?_of_mem hx
      have := hP.le q (lt_of_at hq)
      have := hP.len
      have := lt_of_at hq
      rw [gi_of hq] at *
      omega
    rw [iota_len] at ht
    exact rounds_eq hs hj 100 FU _ (by omega) (by have := FU_pos; omega) hP
end Go.D1

set_option linter.unusedVariables false
set_option linter.unusedSimpArgs false
namespace Go.D1
open Go.Tb
def nodesOf (n : Nat) (p : Int → Bool) : List Int := (iota n).filter p
theorem nodesOf_len (n : Nat) (p : Int → Bool) : (nodesOf n p).length ≤ n := by
  have := List.length_filter_le p (iota n)
  rw [iota_len] at this
  exact this
theorem nodesOf_succ (n : Nat) (p : Int → Bool) : nodesOf (n + 1) p = nodesOf n p ++ (if p (n : Int) = true then [(n : Int)] else []) := by
  unfold nodesOf
  rw [iota_succ, List.filter_append]
  congr 1
  by_cases h : p (n : Int) = true
  · rw [if_pos h, List.filter_cons, if_pos h]; rfl
  · rw [if_neg h, List.filter_cons, if_neg h]; rfl
/-- The points of a part. -/
def partOf (f : List Int) (i : Int) : List Int := nodesOf f.length fun k => decide (gi f k.toNat = i)
def isRoot (f : List Int) (i : Int) : Bool := decide (gi f i.toNat = i)
def partsL (f : List Int) (j : Nat) : List (List Int) := (nodesOf j (isRoot f)).map (partOf f)
theorem partsL_succ (f : List Int) (j : Nat) : partsL f (j + 1) = partsL f j ++ (if gi f j = (j : Int) then [partOf f (j : Int)] else []) := by
  unfold partsL
  rw [nodesOf_succ, List.map_append]
  congr 1
  by_cases h : gi f j = (j : Int)
  · rw [if_pos h, if_pos (show isRoot f (j : Int) = true from decide_eq_true h)]; rfl
  · rw [if_neg h, if_neg (by unfold isRoot; simpa using h)]; rfl
theorem partsL_len (f : List Int) (j : Nat) : (partsL f j).length ≤ j := by
  unfold partsL
  rw [List.length_map]
  exact nodesOf_len _ _
def rootsOf (s : Survey) : List Int := firsts s s.readings.length
theorem rootsOf_ok {s : Survey} (hs : SvOk s) : Roots s s.readings.length (rootsOf s) := firsts_ok hs _ (Nat.le_refl _)
def partsR (s : Survey) : List (List Int) := partsL (rootsOf s) s.points.toNat
theorem parts_eq {s : Survey} (hs : SvOk s) : level_parts s = some (partsR s) := by
  have hp := hs.p1
  have hp5 := hs.p5
  have hf := rootsOf_ok hs
  have hfl := hf.len
  unfold level_parts
  rw [bnd_eq (forest_eq hs)]
  show level_parts_L2 (rootsOf s, _) FU 0 [] = _
  refine for0 s.points.toNat (partsL (rootsOf s)) (fun k l i => level_parts_L2 (rootsOf s, treeL s s.readings.length) k i l) _ rfl (fun k i hi => ?_) (fun k => ?_) (by omega)
  · show level_parts_B2 (rootsOf s, treeL s s.readings.length) (level_parts_L2 (rootsOf s, treeL s s.readings.length) k) _ _ = _
    have hx : (rootsOf s)[i]? = some (gi (rootsOf s) i) := gi_at (by omega)
    have hpl := partsL_len (rootsOf s) i
    unfold level_parts_B2 level_parts_k2
    rw [if_pos (by simp only; omega), ix_nat hx, partsL_succ]
    by_cases he : gi (rootsOf s) i = (i : Int)
    · rw [if_pos he, if_pos he]
      refine for0 (rootsOf s).length (fun q => nodesOf q fun k => decide (gi (rootsOf s) k.toNat = (i : Int))) (fun k' l q => level_parts_L1 (rootsOf s, treeL s s.readings.length) (i : Int) (partsL (rootsOf s) i) (level_parts_L2 (rootsOf s, treeL s s.readings.length) k) k' q l) _ rfl (fun k' q hq => ?_) (fun k' => ?_) (by omega)
      · have hll := nodesOf_len q fun k => decide (gi (rootsOf s) k.toNat = (i : Int))
        show level_parts_B1 _ _ _ _ (level_parts_L1 _ _ _ _ k') _ _ = _
        unfold level_parts_B1 level_parts_k4
        rw [if_pos (by simp only; omega), ix_nat (gi_at hq), nodesOf_succ]
        by_cases h2 : gi (rootsOf s) q = (i : Int)
        · rw [if_pos h2, gd_pos (by simp; omega), gd_pos (by omega), if_pos (show decide (gi (rootsOf s) ((q : Int)).toNat = (i : Int)) = true from decide_eq_true h2)]; rfl
        · rw [if_neg h2, gd_pos (by omega), if_neg (show ¬ decide (gi (rootsOf s) ((q : Int)).toNat = (i : Int)) = true by simpa using h2), List.append_nil]; rfl
      · show level_parts_B1 _ _ _ _ (level_parts_L1 _ _ _ _ k') _ _ = _
        unfold level_parts_B1 level_parts_k3 level_parts_k2
        rw [if_neg (by simp only; omega), gd_pos (by omega), gd_pos (by omega)]; rfl
    · rw [if_neg he, if_neg he, gd_pos (by omega), List.append_nil]; rfl
  · show level_parts_B2 (rootsOf s, treeL s s.readings.length) (level_parts_L2 (rootsOf s, treeL s s.readings.length) k) _ _ = _
    unfold level_parts_B2
    rw [if_neg (by simp only; omega)]; rfl
theorem whole_eq {s : Survey} (hs : SvOk s) : ref01_whole s = some (rootsOf s) := by
  unfold ref01_whole
  rw [bnd_eq (roots_eq hs (Nat.le_refl _))]; rfl
theorem Parts_eq (s : Survey) : level_Parts s = some (if validate s = 0 then (partsR s, 0) else ([], validate s)) := by
  unfold level_Parts
  rw [bnd_eq (Validate_eq s)]
  by_cases hv : validate s = 0
  · rw [if_pos hv, if_pos hv, bnd_eq (parts_eq (val0.1 hv))]
  · rw [if_neg hv, if_neg hv]
end Go.D1
