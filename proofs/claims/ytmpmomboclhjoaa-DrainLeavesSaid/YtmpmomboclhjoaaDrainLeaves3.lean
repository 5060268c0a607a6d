/- Lemmas and walks that the proof of this claim uses: D2m17, Tb22, D2p1, D2p2, D2p3, D2p4, D2p5, D2p7, D2p8, D2pA, D2pB. -/
import Derived.Test.YtmpmomboclhjoaaDrainLeaves2
set_option linter.unusedVariables false
set_option linter.unusedSimpArgs false
namespace Go.D2
open Go.Tb Go.Proofs Go.RowKit
theorem Tc50 : callable Try.prog 50 = true := by kernel_rfl
set_option maxRecDepth 20000 in
set_option maxHeartbeats 1000000 in
theorem law02_DrainLeaves_ok {a0 : Net} {A_a0_drains : Option Addr} {c_a0_drains : Nat} {w : World} {res : Bool} (h_a0_drains : Sl w A_a0_drains c_a0_drains 3 (a0.drains.map encDrain)) (F : law02_DrainLeaves a0 = some res) : Calls Try.prog 12 #[.agg #[.int .i64 a0.nodes, .int .i64 a0.from_, .int .i64 a0.to_, .slice A_a0_drains a0.drains.length c_a0_drains]] w (Rt w (.bool res)) := by
  refine calls_of_cw (args := [.agg #[.int .i64 a0.nodes, .int .i64 a0.from_, .int .i64 a0.to_, .slice A_a0_drains a0.drains.length c_a0_drains]]) Try.func12 rfl rfl rfl rfl ?_
  have H := Hp.start w
  have R0 := H.ext
  unfold law02_DrainLeaves at F
  refine CW.seq fun K1 hK1 => ?_
  refine CW.region ?_
  refine LW.go rfl rfl (OW.box rfl fun b1 w1 N1 => ?_)
  replace H := H.new N1 N1.blk
  replace R0 := H.ext
  refine LW.pure rfl rfl (RV.assign rfl) ?_
  refine LW.nil (hK1 _ _ ?_)
  refine CW.seq fun K2 hK2 => ?_
  refine CW.seq fun K3 hK3 => ?_
  obtain ⟨r13, hr13, F⟩ := bnd_some F
  refine CW.region ?_
  refine LW.pure rfl rfl (RV.loadA [.int .i64 a0.nodes, .int .i64 a0.from_, .int .i64 a0.to_, .slice A_a0_drains a0.drains.length c_a0_drains] Tk24 rfl (H.blk 0 rfl).cells rfl rfl) ?_
  refine LW.go rfl rfl (OW.call Tc16 rfl (law02_Long_ok (a0 := a0) (h_a0_drains.ext R0) hr13) ?_)
  rintro _ w2 ⟨rfl, E1⟩
  refine ⟨_, rfl, ?_⟩
  replace H := H.grow E1
  replace R0 := H.ext
  refine LW.nil (hK3 _ _ ?_)
  by_cases hp1 : r13 = true
  ·
    replace F := ite_y hp1 F
    have hq1 : r13 = true := hp1
    refine CW.condT rfl hq1 ?_
    refine CW.seq fun K4 hK4 => ?_
    obtain ⟨r14, hr14, F⟩ := bnd_some F
    refine CW.region ?_
    refine LW.go rfl rfl (OW.call Tc17 rfl (law02_known_ok hr14) ?_)
    rintro _ w3 ⟨rfl, E2⟩
    refine ⟨_, rfl, ?_⟩
    replace H := H.grow E2
    replace R0 := H.ext
    refine LW.pure rfl rfl (RV.assign rfl) ?_
    refine LW.nil (hK4 _ _ ?_)
    refine CW.ret ?_
    obtain rfl := Option.some.inj F
    refine ⟨_, (ResOK.one rfl), ?_⟩
    refine ⟨(by first | rfl | simp), R0⟩
  ·
    replace F := ite_n hp1 F
    have hq1 : r13 = false := raw_f hp1
    refine CW.condF rfl hq1 ?_
    refine CW.skip (hK2 _ _ ?_)
    refine CW.seq fun K5 hK5 => ?_
    obtain ⟨r2, hr2, F⟩ := bnd_some F
    refine CW.region ?_
    refine LW.pure rfl rfl (RV.loadA [.int .i64 a0.nodes, .int .i64 a0.from_, .int .i64 a0.to_, .slice A_a0_drains a0.drains.length c_a0_drains] Tk24 rfl (H.blk 0 rfl).cells rfl rfl) ?_
    refine LW.go rfl rfl (OW.call Tc30 rfl (drain_Least_ok (a0 := a0) (h_a0_drains.ext R0) hr2) ?_)
    rintro _ w4 ⟨A98_0, c98_0, rfl, E3⟩
    refine ⟨_, rfl, ?_⟩
    replace H : Hp w w4 [.own A98_0 c98_0 3 1 (List.map encN r2.1), .blk b1 24 [.int .i64 a0.nodes, .int .i64 a0.from_, .int .i64 a0.to_, .slice A_a0_drains a0.drains.length c_a0_drains]] := H.append E3
    replace R0 := H.ext
    refine LW.pure rfl rfl (RV.move rfl) ?_
    refine LW.pure rfl rfl (RV.extract rfl rfl) ?_
    refine LW.pure rfl rfl (RV.extract rfl rfl) ?_
    refine LW.pure rfl rfl (RV.assign rfl) ?_
    refine LW.pure rfl rfl (RV.assign rfl) ?_
    refine LW.nil (hK5 _ _ ?_)
    refine CW.seq fun K6 hK6 => ?_
    obtain ⟨r3, hr3, F⟩ := bnd_some F
    refine CW.region ?_
    refine LW.pure rfl rfl (RV.loadA [.int .i64 a0.nodes, .int .i64 a0.from_, .int .i64 a0.to_, .slice A_a0_drains a0.drains.length c_a0_drains] Tk24 rfl (H.blk 1 rfl).cells rfl rfl) ?_
    refine LW.go rfl rfl (OW.call Tc32 rfl (drain_Greatest_ok (a0 := a0) (h_a0_drains.ext R0) hr3) ?_)
    rintro _ w5 ⟨A100_0, c100_0, rfl, E4⟩
    refine ⟨_, rfl, ?_⟩
    replace H : Hp w w5 [.own A100_0 c100_0 3 1 (List.map encN r3.1), .own A98_0 c98_0 3 1 (List.map encN r2.1), .blk b1 24 [.int .i64 a0.nodes, .int .i64 a0.from_, .int .i64 a0.to_, .slice A_a0_drains a0.drains.length c_a0_drains]] := H.append E4
    replace R0 := H.ext
    refine LW.pure rfl rfl (RV.move rfl) ?_
    refine LW.pure rfl rfl (RV.extract rfl rfl) ?_
    refine LW.pure rfl rfl (RV.extract rfl rfl) ?_
    refine LW.pure rfl rfl (RV.assign rfl) ?_
    refine LW.pure rfl rfl (RV.assign rfl) ?_
    refine LW.nil (hK6 _ _ ?_)
    refine CW.seq fun K7 hK7 => ?_
    obtain ⟨r8, hr8, F⟩ := bnd_some F
    refine CW.region ?_
    refine LW.pure rfl rfl (RV.loadA [.int .i64 a0.nodes, .int .i64 a0.from_, .int .i64 a0.to_, .slice A_a0_drains a0.drains.length c_a0_drains] Tk24 rfl (H.blk 2 rfl).cells rfl rfl) ?_
    refine LW.go rfl rfl (OW.call Tc45 rfl (drain_Critical_ok (a0 := a0) (h_a0_drains.ext R0) hr8) ?_)
    rintro _ w6 ⟨A102_0, c102_0, rfl, E5⟩
    refine ⟨_, rfl, ?_⟩
    replace H : Hp w w6 [.own A102_0 c102_0 3 1 (List.map encN r8.1), .own A100_0 c100_0 3 1 (List.map encN r3.1), .own A98_0 c98_0 3 1 (List.map encN r2.1), .blk b1 24 [.int .i64 a0.nodes, .int .i64 a0.from_, .int .i64 a0.to_, .slice A_a0_drains a0.drains.length c_a0_drains]] := H.append E5
    replace R0 := H.ext
    refine LW.pure rfl rfl (RV.move rfl) ?_
    refine LW.pure rfl rfl (RV.extract rfl rfl) ?_
    refine LW.pure rfl rfl (RV.extract rfl rfl) ?_
    refine LW.pure rfl rfl (RV.assign rfl) ?_
    refine LW.pure rfl rfl (RV.assign rfl) ?_
    refine LW.nil (hK7 _ _ ?_)
    refine CW.seq fun K8 hK8 => ?_
    obtain ⟨r4, hr4, F⟩ := bnd_some F
    refine CW.region ?_
    refine LW.pure rfl rfl (RV.loadA [.int .i64 a0.nodes, .int .i64 a0.from_, .int .i64 a0.to_, .slice A_a0_drains a0.drains.length c_a0_drains] Tk24 rfl (H.blk 3 rfl).cells rfl rfl) ?_
    refine LW.go rfl rfl (OW.call Tc43 rfl (drain_Wanted_ok (a0 := a0) (h_a0_drains.ext R0) hr4) ?_)
    rintro _ w7 ⟨A104_0, c104_0, rfl, E6⟩
    refine ⟨_, rfl, ?_⟩
    replace H : Hp w w7 [.own A104_0 c104_0 3 1 (List.map encN r4.1), .own A102_0 c102_0 3 1 (List.map encN r8.1), .own A100_0 c100_0 3 1 (List.map encN r3.1), .own A98_0 c98_0 3 1 (List.map encN r2.1), .blk b1 24 [.int .i64 a0.nodes, .int .i64 a0.from_, .int .i64 a0.to_, .slice A_a0_drains a0.drains.length c_a0_drains]] := H.append E6
    replace R0 := H.ext
    refine LW.pure rfl rfl (RV.move rfl) ?_
    refine LW.pure rfl rfl (RV.extract rfl rfl) ?_
    refine LW.pure rfl rfl (RV.extract rfl rfl) ?_
    refine LW.pure rfl rfl (RV.assign rfl) ?_
    refine LW.pure rfl rfl (RV.assign rfl) ?_
    refine LW.nil (hK8 _ _ ?_)
    refine CW.seq fun K9 hK9 => ?_
    refine CW.seq fun K10 hK10 => ?_
    refine CW.region ?_
    refine LW.pure rfl rfl (RV.move rfl) ?_
    refine LW.pure rfl rfl (RV.nei rfl rfl) ?_
    refine LW.nil (hK10 _ _ ?_)
    by_cases hp2 : r2.2 = 0
    ·
      replace F := ite_y hp2 F
      have hq2 := dec_t hp2
      refine CW.condF rfl (not_f hq2) ?_
      refine CW.skip (hK9 _ _ ?_)
      refine CW.seq fun K11 hK11 => ?_
      refine CW.seqJ (fun ρ wl1 => (∃ (t48_1 : Bool), law02_DrainLeaves_k4 a0 r2 r3 r8 r4 t48_1 = some res ∧ ρ = [(1, .pointer (some (⟨b1, 0, none⟩))), (2, .bool false), (3, .slice A98_0 r2.1.length c98_0), (5, .slice A100_0 r3.1.length c100_0), (7, .slice A102_0 r8.1.length c102_0), (9, .slice A104_0 r4.1.length c104_0), (48, .bool t48_1)] ∧ Hp w wl1 [.own A98_0 c98_0 3 1 (List.map encN r2.1), .own A100_0 c100_0 3 1 (List.map encN r3.1), .own A102_0 c102_0 3 1 (List.map encN r8.1), .own A104_0 c104_0 3 1 (List.map encN r4.1), .blk b1 24 [.int .i64 a0.nodes, .int .i64 a0.from_, .int .i64 a0.to_, .slice A_a0_drains a0.drains.length c_a0_drains]])) ?_ ?_
      ·
        rintro _ wl1 ⟨t48_1, F, rfl, H⟩
        have R0 := H.ext
        unfold law02_DrainLeaves_k4 at F
        by_cases hp3 : t48_1 = true
        ·
          replace F := ite_y hp3 F
          have hq3 : t48_1 = true := hp3
          refine CW.condT rfl hq3 ?_
          refine CW.seq fun K12 hK12 => ?_
          refine CW.region ?_
          refine LW.pure rfl rfl (RV.assign rfl) ?_
          refine LW.nil (hK12 _ _ ?_)
          refine CW.ret ?_
          obtain rfl := Option.some.inj F
          refine ⟨_, (ResOK.one rfl), ?_⟩
          refine ⟨(by first | rfl | simp), R0⟩
        ·
          replace F := ite_n hp3 F
          have hq3 : t48_1 = false := raw_f hp3
          refine CW.condF rfl hq3 ?_
          refine CW.skip (hK11 _ _ ?_)
          refine CW.seqJ (fun ρ wl2 => (law02_DrainLeaves_k1 = some res ∧ ρ = [(2, .bool false)] ∧ Hp w wl2 [])) ?_ ?_
          ·
            rintro _ wl2 ⟨F, rfl, H⟩
            have R0 := H.ext
            unfold law02_DrainLeaves_k1 at F
            refine CW.seq fun K13 hK13 => ?_
            obtain ⟨r1, hr1, F⟩ := bnd_some F
            refine CW.region ?_
            refine LW.go rfl rfl (OW.call Tc17 rfl (law02_known_ok hr1) ?_)
            rintro _ w8 ⟨rfl, E7⟩
            refine ⟨_, rfl, ?_⟩
            replace H := H.grow E7
            replace R0 := H.ext
            refine LW.pure rfl rfl (RV.assign rfl) ?_
            refine LW.nil (hK13 _ _ ?_)
            refine CW.ret ?_
            obtain rfl := Option.some.inj F
            refine ⟨_, (ResOK.one rfl), ?_⟩
            refine ⟨(by first | rfl | simp), R0⟩
          ·
            intro K14 hK14 jK114
            refine CW.seq fun K15 hK15 => ?_
            refine CW.region ?_
            refine LW.pure rfl rfl (RV.assign rfl) ?_
            refine LW.nil (hK15 _ _ ?_)
            refine CW.block ?_
            refine CW.loop (fun meas ρ wl3 => ∃ (t11_1 : Int), law02_DrainLeaves_L1 a0 r2 r3 r8 r4 meas t11_1 = some res ∧ ρ = [(1, .pointer (some (⟨b1, 0, none⟩))), (2, .bool false), (3, .slice A98_0 r2.1.length c98_0), (5, .slice A100_0 r3.1.length c100_0), (7, .slice A102_0 r8.1.length c102_0), (9, .slice A104_0 r4.1.length c104_0), (11, .int .i64 t11_1)] ∧ Hp w wl3 [.own A98_0 c98_0 3 1 (List.map encN r2.1), .own A100_0 c100_0 3 1 (List.map encN r3.1), .own A102_0 c102_0 3 1 (List.map encN r8.1), .own A104_0 c104_0 3 1 (List.map encN r4.1), .blk b1 24 [.int .i64 a0.nodes, .int .i64 a0.from_, .int .i64 a0.to_, .slice A_a0_drains a0.drains.length c_a0_drains]]) FU ⟨_, ?_, ((0 : Int)), F, rfl, H⟩ ?_
            · exact ⟨rfl, rfl, (look_slice rfl (by first | rfl | (simp; done) | (simp; omega))), (look_slice rfl (by first | rfl | (simp; done) | (simp; omega))), (look_slice rfl (by first | rfl | (simp; done) | (simp; omega))), (look_slice rfl (by first | rfl | (simp; done) | (simp; omega))), rfl, trivial⟩
            rintro mk1 _ wl3 ⟨t11_1, F, rfl, H⟩
            have R0 := H.ext
            replace F := law02_DrainLeaves_L1_s F
            obtain ⟨mk1, rfl, F⟩ := F
            generalize hrec1 : law02_DrainLeaves_L1 a0 r2 r3 r8 r4 mk1 = rec1 at F
            unfold law02_DrainLeaves_B1 at F
            refine CW.seq fun K16 hK16 => ?_
            refine CW.seq fun K17 hK17 => ?_
            refine CW.region ?_
            refine LW.pure rfl rfl (RV.move rfl) ?_
            refine LW.pure rfl rfl (RV.fieldAddr Tf24_3 rfl) ?_
            refine LW.pure rfl rfl (RV.load1 Tk22 rfl ((H.blk 4 rfl).cells.off 3) rfl) ?_
            refine LW.pure rfl rfl (RV.len Ts22 rfl) ?_
            refine LW.pure rfl rfl (RV.lss rfl rfl) ?_
            refine LW.nil (hK17 _ _ ?_)
            by_cases hp4 : t11_1 < ((a0.drains.length : Int))
            ·
              replace F := ite_y hp4 F
              have hq4 := dec_t hp4
              refine CW.condT rfl hq4 ?_
              refine CW.skip (hK16 _ _ ?_)
              refine CW.seq fun K18 hK18 => ?_
              refine CW.block ?_
              refine CW.seq fun K19 hK19 => ?_
              obtain ⟨x1, hbx1, hx1, F⟩ := ix_some F
              refine CW.region ?_
              refine LW.pure rfl rfl (RV.fieldAddr Tf24_3 rfl) ?_
              refine LW.pure rfl rfl (RV.load1 Tk22 rfl ((H.blk 4 rfl).cells.off 3) rfl) ?_
              refine LW.pure rfl rfl (RV.move rfl) ?_
              refine LW.pure rfl rfl (RV.indexAddr Ts22 rfl rfl hbx1 (h_a0_drains.addr_ hx1)) ?_
              refine LW.pure rfl rfl (RV.loadA [.int .i64 x1.from_, .int .i64 x1.to_, .int .i64 x1.width] Tk52 rfl ((h_a0_drains.at_ hx1).ext R0) rfl rfl) ?_
              refine LW.go rfl rfl (OW.alloc Tz52 fun b2 w9 N2 => ?_)
              replace H := H.new N2 N2.blk
              replace R0 := H.ext
              refine LW.go rfl rfl (OW.store Tk52 rfl rfl (H.blk 0 rfl) (off := 0) (vs := [.int .i64 x1.from_, .int .i64 x1.to_, .int .i64 x1.width]) rfl rfl rfl rfl rfl fun w10 S1 => ?_)
              replace H : Hp w w10 [.blk b2 52 [.int .i64 x1.from_, .int .i64 x1.to_, .int .i64 x1.width], .own A98_0 c98_0 3 1 (List.map encN r2.1), .own A100_0 c100_0 3 1 (List.map encN r3.1), .own A102_0 c102_0 3 1 (List.map encN r8.1), .own A104_0 c104_0 3 1 (List.map encN r4.1), .blk b1 24 [.int .i64 a0.nodes, .int .i64 a0.from_, .int .i64 a0.to_, .slice A_a0_drains a0.drains.length c_a0_drains]] := H.stored 0 rfl S1
              replace R0 := H.ext
              refine LW.nil (hK19 _ _ ?_)
              refine CW.seq fun K20 hK20 => ?_
              refine CW.seqJ (fun ρ wl4 => (∃ (t79_1 : Bool), law02_DrainLeaves_k3 r2 r3 r4 t11_1 rec1 x1 t79_1 = some res ∧ ρ = [(1, .pointer (some (⟨b1, 0, none⟩))), (2, .bool false), (3, .slice A98_0 r2.1.length c98_0), (5, .slice A100_0 r3.1.length c100_0), (7, .slice A102_0 r8.1.length c102_0), (9, .slice A104_0 r4.1.length c104_0), (11, .int .i64 t11_1), (12, .pointer (some (⟨b2, 0, none⟩))), (79, .bool t79_1)] ∧ Hp w wl4 [.own A98_0 c98_0 3 1 (List.map encN r2.1), .own A100_0 c100_0 3 1 (List.map encN r3.1), .own A102_0 c102_0 3 1 (List.map encN r8.1), .own A104_0 c104_0 3 1 (List.map encN r4.1), .blk b1 24 [.int .i64 a0.nodes, .int .i64 a0.from_, .int .i64 a0.to_, .slice A_a0_drains a0.drains.length c_a0_drains], .blk b2 52 [.int .i64 x1.from_, .int .i64 x1.to_, .int .i64 x1.width]])) ?_ ?_
              ·
                rintro _ wl4 ⟨t79_1, F, rfl, H⟩
                have R0 := H.ext
                unfold law02_DrainLeaves_k3 at F
                by_cases hp5 : t79_1 = true
                ·
                  replace F := ite_y hp5 F
                  have hq5 : t79_1 = true := hp5
                  refine CW.condT rfl hq5 ?_
                  refine CW.seq fun K21 hK21 => ?_
                  refine CW.region ?_
                  refine LW.pure rfl rfl (RV.assign rfl) ?_
                  refine LW.nil (hK21 _ _ ?_)
                  refine CW.ret ?_
                  obtain rfl := Option.some.inj F
                  refine ⟨_, (ResOK.one rfl), ?_⟩
                  refine ⟨(by first | rfl | simp), R0⟩
                ·
                  replace F := ite_n hp5 F
                  have hq5 : t79_1 = false := raw_f hp5
                  refine CW.condF rfl hq5 ?_
                  refine CW.skip (hK20 _ _ ?_)
                  refine CW.seqJ (fun ρ wl5 => (∃ (t93_1 : Bool), law02_DrainLeaves_k2 t11_1 rec1 t93_1 = some res ∧ ρ = [(1, .pointer (some (⟨b1, 0, none⟩))), (2, .bool false), (3, .slice A98_0 r2.1.length c98_0), (5, .slice A100_0 r3.1.length c100_0), (7, .slice A102_0 r8.1.length c102_0), (9, .slice A104_0 r4.1.length c104_0), (11, .int .i64 t11_1), (93, .bool t93_1)] ∧ Hp w wl5 [.own A98_0 c98_0 3 1 (List.map encN r2.1), .own A100_0 c100_0 3 1 (List.map encN r3.1), .own A102_0 c102_0 3 1 (List.map encN r8.1), .own A104_0 c104_0 3 1 (List.map encN r4.1), .blk b1 24 [.int .i64 a0.nodes, .int .i64 a0.from_, .int .i64 a0.to_, .slice A_a0_drains a0.drains.length c_a0_drains]])) ?_ ?_
                  ·
                    rintro _ wl5 ⟨t93_1, F, rfl, H⟩
                    have R0 := H.ext
                    unfold law02_DrainLeaves_k2 at F
                    by_cases hp6 : t93_1 = true
                    ·
                      replace F := ite_y hp6 F
                      have hq6 : t93_1 = true := hp6
                      refine CW.condT rfl hq6 ?_
                      refine CW.seq fun K22 hK22 => ?_
                      refine CW.region ?_
                      refine LW.pure rfl rfl (RV.assign rfl) ?_
                      refine LW.nil (hK22 _ _ ?_)
                      refine CW.ret ?_
                      obtain rfl := Option.some.inj F
                      refine ⟨_, (ResOK.one rfl), ?_⟩
                      refine ⟨(by first | rfl | simp), R0⟩
                    ·
                      replace F := ite_n hp6 F
                      have hq6 : t93_1 = false := raw_f hp6
                      refine CW.condF rfl hq6 ?_
                      refine CW.skip (hK18 _ _ ?_)
                      obtain ⟨hg1, F⟩ := gd_some F
                      refine CW.region ?_
                      refine LW.pure rfl rfl (RV.move rfl) ?_
                      refine LW.pure rfl rfl (RV.add rfl rfl hg1) ?_
                      refine LW.pure rfl rfl (RV.assign rfl) ?_
                      refine LW.nil ?_
                      subst hrec1
                      refine ⟨mk1, Nat.lt_succ_self _, _, ?_, (t11_1 + 1), F, rfl, H⟩
                      exact ⟨rfl, rfl, (look_slice rfl (by first | rfl | (simp; done) | (simp; omega))), (look_slice rfl (by first | rfl | (simp; done) | (simp; omega))), (look_slice rfl (by first | rfl | (simp; done) | (simp; omega))), (look_slice rfl (by first | rfl | (simp; done) | (simp; omega))), rfl, trivial⟩
                  ·
                    intro K23 hK23 jK141
                    obtain ⟨r5, hr5, F⟩ := bnd_some F
                    by_cases hp7 : r5 = true
                    ·
                      replace F := ite_y hp7 F
                      have hq7 : r5 = true := hp7
                      obtain ⟨r6, hr6, F⟩ := bnd_some F
                      by_cases hp8 : r6 = true
                      ·
                        replace F := ite_y hp8 F
                        have hq8 : r6 = true := hp8
                        obtain ⟨r7, hr7, F⟩ := bnd_some F
                        refine CW.region ?_
                        refine LW.pure rfl rfl (RV.move rfl) ?_
                        refine LW.pure rfl rfl (RV.move rfl) ?_
                        refine LW.go rfl rfl (OW.call Tc44 rfl (law02_has_ok (a0 := r4.1) (a1 := t11_1) (H.own 3 rfl).sl hr5) ?_)
                        rintro _ w11 ⟨rfl, E8⟩
                        refine ⟨_, rfl, ?_⟩
                        replace H := H.grow E8
                        replace R0 := H.ext
                        refine LW.pure rfl rfl (RV.move rfl) ?_
                        refine LW.pureYB rfl rfl rfl rfl hq7 (RV.loadA [.int .i64 x1.from_, .int .i64 x1.to_, .int .i64 x1.width] Tk52 rfl (H.blk 5 rfl).cells rfl rfl) ?_
                        refine LW.pureYB rfl rfl rfl rfl hq7 (RV.move rfl) ?_
                        refine LW.yesB rfl rfl rfl rfl hq7 (OW.call Tc50 rfl (law02_leaves_ok (a0 := x1) (a1 := r2.1) (H.own 0 rfl).sl hr6) ?_)
                        rintro _ w12 ⟨rfl, E9⟩
                        refine ⟨_, rfl, ?_⟩
                        replace H := H.grow E9
                        replace R0 := H.ext
                        refine LW.pureYB rfl rfl rfl rfl hq7 (RV.move rfl) ?_
                        refine LW.pureYB rfl rfl rfl rfl hq8 (RV.loadA [.int .i64 x1.from_, .int .i64 x1.to_, .int .i64 x1.width] Tk52 rfl (H.blk 5 rfl).cells rfl rfl) ?_
                        refine LW.pureYB rfl rfl rfl rfl hq8 (RV.move rfl) ?_
                        refine LW.yesB rfl rfl rfl rfl hq8 (OW.call Tc50 rfl (law02_leaves_ok (a0 := x1) (a1 := r3.1) (H.own 1 rfl).sl hr7) ?_)
                        rintro _ w13 ⟨rfl, E10⟩
                        refine ⟨_, rfl, ?_⟩
                        replace H := H.grow E10
                        replace R0 := H.ext
                        refine LW.pureYB rfl rfl rfl rfl hq7 (RV.pickTB rfl hq8 rfl) ?_
                        refine LW.pureYB rfl rfl rfl rfl hq7 (RV.not rfl) ?_
                        refine LW.pure rfl rfl (RV.pickTB rfl hq7 rfl) ?_
                        replace H := H.pick (L' := [.own A98_0 c98_0 3 1 (List.map encN r2.1), .own A100_0 c100_0 3 1 (List.map encN r3.1), .own A102_0 c102_0 3 1 (List.map encN r8.1), .own A104_0 c104_0 3 1 (List.map encN r4.1), .blk b1 24 [.int .i64 a0.nodes, .int .i64 a0.from_, .int .i64 a0.to_, .slice A_a0_drains a0.drains.length c_a0_drains]]) [0, 1, 2, 3, 4] (by decide) rfl
                        replace R0 := H.ext
                        refine LW.nil (jK141 _ _ ⟨_, ?_, ⟨(!r7), F, rfl, H⟩⟩)
                        exact ⟨rfl, rfl, (look_slice rfl (by first | rfl | (simp; done) | (simp; omega))), (look_slice rfl (by first | rfl | (simp; done) | (simp; omega))), (look_slice rfl (by first | rfl | (simp; done) | (simp; omega))), (look_slice rfl (by first | rfl | (simp; done) | (simp; omega))), rfl, rfl, trivial⟩
                      ·
                        replace F := ite_n hp8 F
                        have hq8 : r6 = false := raw_f hp8
                        refine CW.region ?_
                        refine LW.pure rfl rfl (RV.move rfl) ?_
                        refine LW.pure rfl rfl (RV.move rfl) ?_
                        refine LW.go rfl rfl (OW.call Tc44 rfl (law02_has_ok (a0 := r4.1) (a1 := t11_1) (H.own 3 rfl).sl hr5) ?_)
                        rintro _ w14 ⟨rfl, E11⟩
                        refine ⟨_, rfl, ?_⟩
                        replace H := H.grow E11
                        replace R0 := H.ext
                        refine LW.pure rfl rfl (RV.move rfl) ?_
                        refine LW.pureYB rfl rfl rfl rfl hq7 (RV.loadA [.int .i64 x1.from_, .int .i64 x1.to_, .int .i64 x1.width] Tk52 rfl (H.blk 5 rfl).cells rfl rfl) ?_
                        refine LW.pureYB rfl rfl rfl rfl hq7 (RV.move rfl) ?_
                        refine LW.yesB rfl rfl rfl rfl hq7 (OW.call Tc50 rfl (law02_leaves_ok (a0 := x1) (a1 := r2.1) (H.own 0 rfl).sl hr6) ?_)
                        rintro _ w15 ⟨rfl, E12⟩
                        refine ⟨_, rfl, ?_⟩
                        replace H := H.grow E12
                        replace R0 := H.ext
                        refine LW.pureYB rfl rfl rfl rfl hq7 (RV.move rfl) ?_
                        refine LW.noB rfl rfl rfl rfl (ne_beq (v := false) hq8 rfl) ?_
                        refine LW.noB rfl rfl rfl rfl (ne_beq (v := false) hq8 rfl) ?_
                        refine LW.noB rfl rfl rfl rfl (ne_beq (v := false) hq8 rfl) ?_
                        refine LW.pureYB rfl rfl rfl rfl hq7 (RV.pickFB rfl hq8 rfl) ?_
                        refine LW.pureYB rfl rfl rfl rfl hq7 (RV.not rfl) ?_
                        refine LW.pure rfl rfl (RV.pickTB rfl hq7 rfl) ?_
                        replace H := H.pick (L' := [.own A98_0 c98_0 3 1 (List.map encN r2.1), .own A100_0 c100_0 3 1 (List.map encN r3.1), .own A102_0 c102_0 3 1 (List.map encN r8.1), .own A104_0 c104_0 3 1 (List.map encN r4.1), .blk b1 24 [.int .i64 a0.nodes, .int .i64 a0.from_, .int .i64 a0.to_, .slice A_a0_drains a0.drains.length c_a0_drains]]) [0, 1, 2, 3, 4] (by decide) rfl
                        replace R0 := H.ext
                        refine LW.nil (jK141 _ _ ⟨_, ?_, ⟨(!false), F, rfl, H⟩⟩)
                        exact ⟨rfl, rfl, (look_slice rfl (by first | rfl | (simp; done) | (simp; omega))), (look_slice rfl (by first | rfl | (simp; done) | (simp; omega))), (look_slice rfl (by first | rfl | (simp; done) | (simp; omega))), (look_slice rfl (by first | rfl | (simp; done) | (simp; omega))), rfl, rfl, trivial⟩
                    ·
                      replace F := ite_n hp7 F
                      have hq7 : r5 = false := raw_f hp7
                      refine CW.region ?_
                      refine LW.pure rfl rfl (RV.move rfl) ?_
                      refine LW.pure rfl rfl (RV.move rfl) ?_
                      refine LW.go rfl rfl (OW.call Tc44 rfl (law02_has_ok (a0 := r4.1) (a1 := t11_1) (H.own 3 rfl).sl hr5) ?_)
                      rintro _ w16 ⟨rfl, E13⟩
                      refine ⟨_, rfl, ?_⟩
                      replace H := H.grow E13
                      replace R0 := H.ext
                      refine LW.pure rfl rfl (RV.move rfl) ?_
                      refine LW.noB rfl rfl rfl rfl (ne_beq (v := false) hq7 rfl) ?_
                      refine LW.noB rfl rfl rfl rfl (ne_beq (v := false) hq7 rfl) ?_
                      refine LW.noB rfl rfl rfl rfl (ne_beq (v := false) hq7 rfl) ?_
                      refine LW.noB rfl rfl rfl rfl (ne_beq (v := false) hq7 rfl) ?_
                      refine LW.noU rfl rfl rfl rfl ?_
                      refine LW.noU rfl rfl rfl rfl ?_
                      refine LW.noU rfl rfl rfl rfl ?_
                      refine LW.noB rfl rfl rfl rfl (ne_beq (v := false) hq7 rfl) ?_
                      refine LW.noB rfl rfl rfl rfl (ne_beq (v := false) hq7 rfl) ?_
                      refine LW.pure rfl rfl (RV.pickFB rfl hq7 rfl) ?_
                      replace H := H.pick (L' := [.own A98_0 c98_0 3 1 (List.map encN r2.1), .own A100_0 c100_0 3 1 (List.map encN r3.1), .own A102_0 c102_0 3 1 (List.map encN r8.1), .own A104_0 c104_0 3 1 (List.map encN r4.1), .blk b1 24 [.int .i64 a0.nodes, .int .i64 a0.from_, .int .i64 a0.to_, .slice A_a0_drains a0.drains.length c_a0_drains]]) [0, 1, 2, 3, 4] (by decide) rfl
                      replace R0 := H.ext
                      refine LW.nil (jK141 _ _ ⟨_, ?_, ⟨false, F, rfl, H⟩⟩)
                      exact ⟨rfl, rfl, (look_slice rfl (by first | rfl | (simp; done) | (simp; omega))), (look_slice rfl (by first | rfl | (simp; done) | (simp; omega))), (look_slice rfl (by first | rfl | (simp; done) | (simp; omega))), (look_slice rfl (by first | rfl | (simp; done) | (simp; omega))), rfl, rfl, trivial⟩
              ·
                intro K24 hK24 jK142
                by_cases hp9 : (0 : Int) < x1.width
                ·
                  replace F := ite_y hp9 F
                  have hq9 := dec_t hp9
                  obtain ⟨r9, hr9, F⟩ := bnd_some F
                  by_cases hp10 : r9 = true
                  ·
                    replace F := ite_y hp10 F
                    have hq10 : r9 = true := hp10
                    obtain ⟨r10, hr10, F⟩ := bnd_some F
                    refine CW.region ?_
                    refine LW.pure rfl rfl (RV.fieldAddr Tf52_2 rfl) ?_
                    refine LW.pure rfl rfl (RV.load1 Tk3 rfl ((H.blk 0 rfl).cells.off 2) rfl) ?_
                    refine LW.pure rfl rfl (RV.gtr rfl rfl) ?_
                    refine LW.pure rfl rfl (RV.move rfl) ?_
                    refine LW.pureYB rfl rfl rfl rfl hq9 (RV.loadA [.int .i64 x1.from_, .int .i64 x1.to_, .int .i64 x1.width] Tk52 rfl (H.blk 0 rfl).cells rfl rfl) ?_
                    refine LW.pureYB rfl rfl rfl rfl hq9 (RV.move rfl) ?_
                    refine LW.yesB rfl rfl rfl rfl hq9 (OW.call Tc50 rfl (law02_leaves_ok (a0 := x1) (a1 := r2.1) (H.own 1 rfl).sl hr9) ?_)
                    rintro _ w17 ⟨rfl, E14⟩
                    refine ⟨_, rfl, ?_⟩
                    replace H := H.grow E14
                    replace R0 := H.ext
                    refine LW.pureYB rfl rfl rfl rfl hq9 (RV.move rfl) ?_
                    refine LW.noB rfl rfl rfl rfl (ne_beq (v := true) hq10 rfl) ?_
                    refine LW.noB rfl rfl rfl rfl (ne_beq (v := true) hq10 rfl) ?_
                    refine LW.noB rfl rfl rfl rfl (ne_beq (v := true) hq10 rfl) ?_
                    refine LW.pureYB rfl rfl rfl rfl hq9 (RV.pickTB rfl hq10 rfl) ?_
                    refine LW.pure rfl rfl (RV.pickTB rfl hq9 rfl) ?_
                    refine LW.pure rfl rfl (RV.move rfl) ?_
                    refine LW.pureYB rfl rfl rfl rfl rfl (RV.move rfl) ?_
                    refine LW.pureYB rfl rfl rfl rfl rfl (RV.move rfl) ?_
                    refine LW.yesB rfl rfl rfl rfl rfl (OW.call Tc44 rfl (law02_has_ok (a0 := r8.1) (a1 := t11_1) (H.own 3 rfl).sl hr10) ?_)
                    rintro _ w18 ⟨rfl, E15⟩
                    refine ⟨_, rfl, ?_⟩
                    replace H := H.grow E15
                    replace R0 := H.ext
                    refine LW.pureYB rfl rfl rfl rfl rfl (RV.not rfl) ?_
                    refine LW.pure rfl rfl (RV.pickTB rfl rfl rfl) ?_
                    replace H := H.pick (L' := [.own A98_0 c98_0 3 1 (List.map encN r2.1), .own A100_0 c100_0 3 1 (List.map encN r3.1), .own A102_0 c102_0 3 1 (List.map encN r8.1), .own A104_0 c104_0 3 1 (List.map encN r4.1), .blk b1 24 [.int .i64 a0.nodes, .int .i64 a0.from_, .int .i64 a0.to_, .slice A_a0_drains a0.drains.length c_a0_drains], .blk b2 52 [.int .i64 x1.from_, .int .i64 x1.to_, .int .i64 x1.width]]) [1, 2, 3, 4, 5, 0] (by decide) rfl
                    replace R0 := H.ext
                    refine LW.nil (jK142 _ _ ⟨_, ?_, ⟨(!r10), F, rfl, H⟩⟩)
                    exact ⟨rfl, rfl, (look_slice rfl (by first | rfl | (simp; done) | (simp; omega))), (look_slice rfl (by first | rfl | (simp; done) | (simp; omega))), (look_slice rfl (by first | rfl | (simp; done) | (simp; omega))), (look_slice rfl (by first | rfl | (simp; done) | (simp; omega))), rfl, rfl, rfl, trivial⟩
                  ·
                    replace F := ite_n hp10 F
                    have hq10 : r9 = false := raw_f hp10
                    obtain ⟨r11, hr11, F⟩ := bnd_some F
                    by_cases hp11 : r11 = true
                    ·
                      replace F := ite_y hp11 F
                      have hq11 : r11 = true := hp11
                      obtain ⟨r12, hr12, F⟩ := bnd_some F
                      refine CW.region ?_
                      refine LW.pure rfl rfl (RV.fieldAddr Tf52_2 rfl) ?_
                      refine LW.pure rfl rfl (RV.load1 Tk3 rfl ((H.blk 0 rfl).cells.off 2) rfl) ?_
                      refine LW.pure rfl rfl (RV.gtr rfl rfl) ?_
                      refine LW.pure rfl rfl (RV.move rfl) ?_
                      refine LW.pureYB rfl rfl rfl rfl hq9 (RV.loadA [.int .i64 x1.from_, .int .i64 x1.to_, .int .i64 x1.width] Tk52 rfl (H.blk 0 rfl).cells rfl rfl) ?_
                      refine LW.pureYB rfl rfl rfl rfl hq9 (RV.move rfl) ?_
                      refine LW.yesB rfl rfl rfl rfl hq9 (OW.call Tc50 rfl (law02_leaves_ok (a0 := x1) (a1 := r2.1) (H.own 1 rfl).sl hr9) ?_)
                      rintro _ w19 ⟨rfl, E16⟩
                      refine ⟨_, rfl, ?_⟩
                      replace H := H.grow E16
                      replace R0 := H.ext
                      refine LW.pureYB rfl rfl rfl rfl hq9 (RV.move rfl) ?_
                      refine LW.pureYB rfl rfl rfl rfl hq10 (RV.loadA [.int .i64 x1.from_, .int .i64 x1.to_, .int .i64 x1.width] Tk52 rfl (H.blk 0 rfl).cells rfl rfl) ?_
                      refine LW.pureYB rfl rfl rfl rfl hq10 (RV.move rfl) ?_
                      refine LW.yesB rfl rfl rfl rfl hq10 (OW.call Tc50 rfl (law02_leaves_ok (a0 := x1) (a1 := r3.1) (H.own 2 rfl).sl hr11) ?_)
                      rintro _ w20 ⟨rfl, E17⟩
                      refine ⟨_, rfl, ?_⟩
                      replace H := H.grow E17
                      replace R0 := H.ext
                      refine LW.pureYB rfl rfl rfl rfl hq9 (RV.pickFB rfl hq10 rfl) ?_
                      refine LW.pure rfl rfl (RV.pickTB rfl hq9 rfl) ?_
                      refine LW.pure rfl rfl (RV.move rfl) ?_
                      refine LW.pureYB rfl rfl rfl rfl hq11 (RV.move rfl) ?_
                      refine LW.pureYB rfl rfl rfl rfl hq11 (RV.move rfl) ?_
                      refine LW.yesB rfl rfl rfl rfl hq11 (OW.call Tc44 rfl (law02_has_ok (a0 := r8.1) (a1 := t11_1) (H.own 3 rfl).sl hr12) ?_)
                      rintro _ w21 ⟨rfl, E18⟩
                      refine ⟨_, rfl, ?_⟩
                      replace H := H.grow E18
                      replace R0 := H.ext
                      refine LW.pureYB rfl rfl rfl rfl hq11 (RV.not rfl) ?_
                      refine LW.pure rfl rfl (RV.pickTB rfl hq11 rfl) ?_
                      replace H := H.pick (L' := [.own A98_0 c98_0 3 1 (List.map encN r2.1), .own A100_0 c100_0 3 1 (List.map encN r3.1), .own A102_0 c102_0 3 1 (List.map encN r8.1), .own A104_0 c104_0 3 1 (List.map encN r4.1), .blk b1 24 [.int .i64 a0.nodes, .int .i64 a0.from_, .int .i64 a0.to_, .slice A_a0_drains a0.drains.length c_a0_drains], .blk b2 52 [.int .i64 x1.from_, .int .i64 x1.to_, .int .i64 x1.width]]) [1, 2, 3, 4, 5, 0] (by decide) rfl
                      replace R0 := H.ext
                      refine LW.nil (jK142 _ _ ⟨_, ?_, ⟨(!r12), F, rfl, H⟩⟩)
                      exact ⟨rfl, rfl, (look_slice rfl (by first | rfl | (simp; done) | (simp; omega))), (look_slice rfl (by first | rfl | (simp; done) | (simp; omega))), (look_slice rfl (by first | rfl | (simp; done) | (simp; omega))), (look_slice rfl (by first | rfl | (simp; done) | (simp; omega))), rfl, rfl, rfl, trivial⟩
                    ·
                      replace F := ite_n hp11 F
                      have hq11 : r11 = false := raw_f hp11
                      refine CW.region ?_
                      refine LW.pure rfl rfl (RV.fieldAddr Tf52_2 rfl) ?_
                      refine LW.pure rfl rfl (RV.load1 Tk3 rfl ((H.blk 0 rfl).cells.off 2) rfl) ?_
                      refine LW.pure rfl rfl (RV.gtr rfl rfl) ?_
                      refine LW.pure rfl rfl (RV.move rfl) ?_
                      refine LW.pureYB rfl rfl rfl rfl hq9 (RV.loadA [.int .i64 x1.from_, .int .i64 x1.to_, .int .i64 x1.width] Tk52 rfl (H.blk 0 rfl).cells rfl rfl) ?_
                      refine LW.pureYB rfl rfl rfl rfl hq9 (RV.move rfl) ?_
                      refine LW.yesB rfl rfl rfl rfl hq9 (OW.call Tc50 rfl (law02_leaves_ok (a0 := x1) (a1 := r2.1) (H.own 1 rfl).sl hr9) ?_)
                      rintro _ w22 ⟨rfl, E19⟩
                      refine ⟨_, rfl, ?_⟩
                      replace H := H.grow E19
                      replace R0 := H.ext
                      refine LW.pureYB rfl rfl rfl rfl hq9 (RV.move rfl) ?_
                      refine LW.pureYB rfl rfl rfl rfl hq10 (RV.loadA [.int .i64 x1.from_, .int .i64 x1.to_, .int .i64 x1.width] Tk52 rfl (H.blk 0 rfl).cells rfl rfl) ?_
                      refine LW.pureYB rfl rfl rfl rfl hq10 (RV.move rfl) ?_
                      refine LW.yesB rfl rfl rfl rfl hq10 (OW.call Tc50 rfl (law02_leaves_ok (a0 := x1) (a1 := r3.1) (H.own 2 rfl).sl hr11) ?_)
                      rintro _ w23 ⟨rfl, E20⟩
                      refine ⟨_, rfl, ?_⟩
                      replace H := H.grow E20
                      replace R0 := H.ext
                      refine LW.pureYB rfl rfl rfl rfl hq9 (RV.pickFB rfl hq10 rfl) ?_
                      refine LW.pure rfl rfl (RV.pickTB rfl hq9 rfl) ?_
                      refine LW.pure rfl rfl (RV.move rfl) ?_
                      refine LW.noB rfl rfl rfl rfl (ne_beq (v := false) hq11 rfl) ?_
                      refine LW.noB rfl rfl rfl rfl (ne_beq (v := false) hq11 rfl) ?_
                      refine LW.noB rfl rfl rfl rfl (ne_beq (v := false) hq11 rfl) ?_
                      refine LW.noB rfl rfl rfl rfl (ne_beq (v := false) hq11 rfl) ?_
                      refine LW.pure rfl rfl (RV.pickFB rfl hq11 rfl) ?_
                      replace H := H.pick (L' := [.own A98_0 c98_0 3 1 (List.map encN r2.1), .own A100_0 c100_0 3 1 (List.map encN r3.1), .own A102_0 c102_0 3 1 (List.map encN r8.1), .own A104_0 c104_0 3 1 (List.map encN r4.1), .blk b1 24 [.int .i64 a0.nodes, .int .i64 a0.from_, .int .i64 a0.to_, .slice A_a0_drains a0.drains.length c_a0_drains], .blk b2 52 [.int .i64 x1.from_, .int .i64 x1.to_, .int .i64 x1.width]]) [1, 2, 3, 4, 5, 0] (by decide) rfl
                      replace R0 := H.ext
                      refine LW.nil (jK142 _ _ ⟨_, ?_, ⟨false, F, rfl, H⟩⟩)
                      exact ⟨rfl, rfl, (look_slice rfl (by first | rfl | (simp; done) | (simp; omega))), (look_slice rfl (by first | rfl | (simp; done) | (simp; omega))), (look_slice rfl (by first | rfl | (simp; done) | (simp; omega))), (look_slice rfl (by first | rfl | (simp; done) | (simp; omega))), rfl, rfl, rfl, trivial⟩
                ·
                  replace F := ite_n hp9 F
                  have hq9 := dec_f hp9
                  refine CW.region ?_
                  refine LW.pure rfl rfl (RV.fieldAddr Tf52_2 rfl) ?_
                  refine LW.pure rfl rfl (RV.load1 Tk3 rfl ((H.blk 0 rfl).cells.off 2) rfl) ?_
                  refine LW.pure rfl rfl (RV.gtr rfl rfl) ?_
                  refine LW.pure rfl rfl (RV.move rfl) ?_
                  refine LW.noB rfl rfl rfl rfl (ne_beq (v := false) hq9 rfl) ?_
                  refine LW.noB rfl rfl rfl rfl (ne_beq (v := false) hq9 rfl) ?_
                  refine LW.noB rfl rfl rfl rfl (ne_beq (v := false) hq9 rfl) ?_
                  refine LW.noB rfl rfl rfl rfl (ne_beq (v := false) hq9 rfl) ?_
                  refine LW.noU rfl rfl rfl rfl ?_
                  refine LW.noU rfl rfl rfl rfl ?_
                  refine LW.noU rfl rfl rfl rfl ?_
                  refine LW.noB rfl rfl rfl rfl (ne_beq (v := false) hq9 rfl) ?_
                  refine LW.pure rfl rfl (RV.pickFB rfl hq9 rfl) ?_
                  refine LW.pure rfl rfl (RV.move rfl) ?_
                  refine LW.noB rfl rfl rfl rfl (ne_beq (v := false) rfl rfl) ?_
                  refine LW.noB rfl rfl rfl rfl (ne_beq (v := false) rfl rfl) ?_
                  refine LW.noB rfl rfl rfl rfl (ne_beq (v := false) rfl rfl) ?_
                  refine LW.noB rfl rfl rfl rfl (ne_beq (v := false) rfl rfl) ?_
                  refine LW.pure rfl rfl (RV.pickFB rfl rfl rfl) ?_
                  replace H := H.pick (L' := [.own A98_0 c98_0 3 1 (List.map encN r2.1), .own A100_0 c100_0 3 1 (List.map encN r3.1), .own A102_0 c102_0 3 1 (List.map encN r8.1), .own A104_0 c104_0 3 1 (List.map encN r4.1), .blk b1 24 [.int .i64 a0.nodes, .int .i64 a0.from_, .int .i64 a0.to_, .slice A_a0_drains a0.drains.length c_a0_drains], .blk b2 52 [.int .i64 x1.from_, .int .i64 x1.to_, .int .i64 x1.width]]) [1, 2, 3, 4, 5, 0] (by decide) rfl
                  replace R0 := H.ext
                  refine LW.nil (jK142 _ _ ⟨_, ?_, ⟨false, F, rfl, H⟩⟩)
                  exact ⟨rfl, rfl, (look_slice rfl (by first | rfl | (simp; done) | (simp; omega))), (look_slice rfl (by first | rfl | (simp; done) | (simp; omega))), (look_slice rfl (by first | rfl | (simp; done) | (simp; omega))), (look_slice rfl (by first | rfl | (simp; done) | (simp; omega))), rfl, rfl, rfl, trivial⟩
            ·
              replace F := ite_n hp4 F
              have hq4 := dec_f hp4
              refine CW.condF rfl hq4 ?_
              replace H := H.pick (L' := []) [] (by decide) rfl
              replace R0 := H.ext
              refine CW.exit (jK114 _ _ ⟨_, ?_, ⟨F, rfl, H⟩⟩)
              exact ⟨rfl, trivial⟩
      ·
        intro K25 hK25 jK143
        by_cases hp12 : r3.2 = 0
        ·
          replace F := ite_y hp12 F
          have hq12 := dec_t hp12
          by_cases hp13 : r8.2 = 0
          ·
            replace F := ite_y hp13 F
            have hq13 := dec_t hp13
            refine CW.region ?_
            refine LW.pure rfl rfl (RV.move rfl) ?_
            refine LW.pure rfl rfl (RV.nei rfl rfl) ?_
            refine LW.pure rfl rfl (RV.move rfl) ?_
            refine LW.pureYB rfl rfl rfl rfl (not_f hq12) (RV.move rfl) ?_
            refine LW.pureYB rfl rfl rfl rfl (not_f hq12) (RV.nei rfl rfl) ?_
            refine LW.pure rfl rfl (RV.pickFB rfl (not_f hq12) rfl) ?_
            refine LW.pure rfl rfl (RV.move rfl) ?_
            refine LW.pureYB rfl rfl rfl rfl (not_f hq13) (RV.move rfl) ?_
            refine LW.pureYB rfl rfl rfl rfl (not_f hq13) (RV.nei rfl rfl) ?_
            refine LW.pure rfl rfl (RV.pickFB rfl (not_f hq13) rfl) ?_
            replace H := H.pick (L' := [.own A98_0 c98_0 3 1 (List.map encN r2.1), .own A100_0 c100_0 3 1 (List.map encN r3.1), .own A102_0 c102_0 3 1 (List.map encN r8.1), .own A104_0 c104_0 3 1 (List.map encN r4.1), .blk b1 24 [.int .i64 a0.nodes, .int .i64 a0.from_, .int .i64 a0.to_, .slice A_a0_drains a0.drains.length c_a0_drains]]) [3, 2, 1, 0, 4] (by decide) rfl
            replace R0 := H.ext
            refine LW.nil (jK143 _ _ ⟨_, ?_, ⟨(!(decide (r4.2 = 0))), F, rfl, H⟩⟩)
            exact ⟨rfl, rfl, (look_slice rfl (by first | rfl | (simp; done) | (simp; omega))), (look_slice rfl (by first | rfl | (simp; done) | (simp; omega))), (look_slice rfl (by first | rfl | (simp; done) | (simp; omega))), (look_slice rfl (by first | rfl | (simp; done) | (simp; omega))), rfl, trivial⟩
          ·
            replace F := ite_n hp13 F
            have hq13 := dec_f hp13
            refine CW.region ?_
            refine LW.pure rfl rfl (RV.move rfl) ?_
            refine LW.pure rfl rfl (RV.nei rfl rfl) ?_
            refine LW.pure rfl rfl (RV.move rfl) ?_
            refine LW.pureYB rfl rfl rfl rfl (not_f hq12) (RV.move rfl) ?_
            refine LW.pureYB rfl rfl rfl rfl (not_f hq12) (RV.nei rfl rfl) ?_
            refine LW.pure rfl rfl (RV.pickFB rfl (not_f hq12) rfl) ?_
            refine LW.pure rfl rfl (RV.move rfl) ?_
            refine LW.noB rfl rfl rfl rfl (ne_beq (v := true) (not_t hq13) rfl) ?_
            refine LW.noB rfl rfl rfl rfl (ne_beq (v := true) (not_t hq13) rfl) ?_
            refine LW.pure rfl rfl (RV.pickTB rfl (not_t hq13) rfl) ?_
            replace H := H.pick (L' := [.own A98_0 c98_0 3 1 (List.map encN r2.1), .own A100_0 c100_0 3 1 (List.map encN r3.1), .own A102_0 c102_0 3 1 (List.map encN r8.1), .own A104_0 c104_0 3 1 (List.map encN r4.1), .blk b1 24 [.int .i64 a0.nodes, .int .i64 a0.from_, .int .i64 a0.to_, .slice A_a0_drains a0.drains.length c_a0_drains]]) [3, 2, 1, 0, 4] (by decide) rfl
            replace R0 := H.ext
            refine LW.nil (jK143 _ _ ⟨_, ?_, ⟨true, F, rfl, H⟩⟩)
            exact ⟨rfl, rfl, (look_slice rfl (by first | rfl | (simp; done) | (simp; omega))), (look_slice rfl (by first | rfl | (simp; done) | (simp; omega))), (look_slice rfl (by first | rfl | (simp; done) | (simp; omega))), (look_slice rfl (by first | rfl | (simp; done) | (simp; omega))), rfl, trivial⟩
        ·
          replace F := ite_n hp12 F
          have hq12 := dec_f hp12
          refine CW.region ?_
          refine LW.pure rfl rfl (RV.move rfl) ?_
          refine LW.pure rfl rfl (RV.nei rfl rfl) ?_
          refine LW.pure rfl rfl (RV.move rfl) ?_
          refine LW.noB rfl rfl rfl rfl (ne_beq (v := true) (not_t hq12) rfl) ?_
          refine LW.noB rfl rfl rfl rfl (ne_beq (v := true) (not_t hq12) rfl) ?_
          refine LW.pure rfl rfl (RV.pickTB rfl (not_t hq12) rfl) ?_
          refine LW.pure rfl rfl (RV.move rfl) ?_
          refine LW.noB rfl rfl rfl rfl (ne_beq (v := true) rfl rfl) ?_
          refine LW.noB rfl rfl rfl rfl (ne_beq (v := true) rfl rfl) ?_
          refine LW.pure rfl rfl (RV.pickTB rfl rfl rfl) ?_
          replace H := H.pick (L' := [.own A98_0 c98_0 3 1 (List.map encN r2.1), .own A100_0 c100_0 3 1 (List.map encN r3.1), .own A102_0 c102_0 3 1 (List.map encN r8.1), .own A104_0 c104_0 3 1 (List.map encN r4.1), .blk b1 24 [.int .i64 a0.nodes, .int .i64 a0.from_, .int .i64 a0.to_, .slice A_a0_drains a0.drains.length c_a0_drains]]) [3, 2, 1, 0, 4] (by decide) rfl
          replace R0 := H.ext
          refine LW.nil (jK143 _ _ ⟨_, ?_, ⟨true, F, rfl, H⟩⟩)
          exact ⟨rfl, rfl, (look_slice rfl (by first | rfl | (simp; done) | (simp; omega))), (look_slice rfl (by first | rfl | (simp; done) | (simp; omega))), (look_slice rfl (by first | rfl | (simp; done) | (simp; omega))), (look_slice rfl (by first | rfl | (simp; done) | (simp; omega))), rfl, trivial⟩
    ·
      replace F := ite_n hp2 F
      have hq2 := dec_f hp2
      refine CW.condT rfl (not_t hq2) ?_
      refine CW.seq fun K26 hK26 => ?_
      obtain ⟨r15, hr15, F⟩ := bnd_some F
      refine CW.region ?_
      refine LW.go rfl rfl (OW.call Tc17 rfl (law02_known_ok hr15) ?_)
      rintro _ w24 ⟨rfl, E21⟩
      refine ⟨_, rfl, ?_⟩
      replace H := H.grow E21
      replace R0 := H.ext
      refine LW.pure rfl rfl (RV.assign rfl) ?_
      refine LW.nil (hK26 _ _ ?_)
      refine CW.ret ?_
      obtain rfl := Option.some.inj F
      refine ⟨_, (ResOK.one rfl), ?_⟩
      refine ⟨(by first | rfl | simp), R0⟩
end Go.D2

namespace Go.Tb
/-- A loop over 0 .. N - 1 with a state, that is left at the first i for which p does not hold. -/
theorem scan_loop {S R : Type} (N : Nat) (p : Nat → Bool) (g : Nat → S) (L : Nat → S → Int → Option R) (yes : Option R) (no : Nat → Option R)
    (step : ∀ n i : Nat, i < N → L (n + 1) (g i) (i : Int) = if p i = true then L n (g (i + 1)) ((i + 1 : Nat) : Int) else no i)
    (stop : ∀ n : Nat, L (n + 1) (g N) (N : Int) = yes) : ∀ (d n i : Nat), N = i + d → d < n → L n (g i) (i : Int) = match (List.range' i d).find? (fun j => !p j) with | none => yes | some j => no j
  | 0, n + 1, i, hd, hn => by
    have hi : i = N := by omega
    subst hi
    rw [stop n]; rfl
  | d + 1, n + 1, i, hd, hn => by
    rw [step n i (by omega), List.range'_succ, List.find?_cons]
    cases hp : p i
    · simp
    · simp only [if_true, Bool.not_true]
      exact scan_loop N p g L yes no step stop d n (i + 1) (by omega) (by omega)
theorem find_all {p : Nat → Bool} {i d : Nat} : (List.range' i d).find? (fun j => !p j) = none ↔ ∀ j, i ≤ j → j < i + d → p j = true := by
  rw [List.find?_eq_none]
  constructor
  · intro h j h1 h2
    have := h j (by rw [List.mem_range'_1]; omega)
    simpa using this
  · intro h x hx
    rw [List.mem_range'_1] at hx
    simp [h x hx.1 hx.2]
/-- A loop over 0 .. N - 1 with a state and no way out. -/
theorem for_loop {S R : Type} (N : Nat) (g : Nat → S) (L : Nat → S → Int → Option R) (yes : Option R)
    (step : ∀ n i : Nat, i < N → L (n + 1) (g i) (i : Int) = L n (g (i + 1)) ((i + 1 : Nat) : Int))
    (stop : ∀ n : Nat, L (n + 1) (g N) (N : Int) = yes) : ∀ (d n i : Nat), N = i + d → d < n → L n (g i) (i : Int) = yes
  | 0, n + 1, i, hd, hn => by
    have hi : i = N := by omega
    subst hi
    exact stop n
  | d + 1, n + 1, i, hd, hn => by
    rw [step n i (by omega)]
    exact for_loop N g L yes step stop d n (i + 1) (by omega) (by omega)
theorem for_loop0 {S R : Type} (N : Nat) (g : Nat → S) (L : Nat → S → Int → Option R) (yes : Option R)
    (step : ∀ n i : Nat, i < N → L (n + 1) (g i) (i : Int) = L n (g (i + 1)) ((i + 1 : Nat) : Int))
    (stop : ∀ n : Nat, L (n + 1) (g N) (N : Int) = yes) (hN : N ≤ 9223372036854775807) : L FU (g 0) 0 = yes :=
  for_loop N g L yes step stop N FU 0 (by omega) (by have := FU_pos; omega)
theorem scan_loop0 {S R : Type} (N : Nat) (p : Nat → Bool) (g : Nat → S) (L : Nat → S → Int → Option R) (yes no : Option R)
    (step : ∀ n i : Nat, i < N → L (n + 1) (g i) (i : Int) = if p i = true then L n (g (i + 1)) ((i + 1 : Nat) : Int) else no)
    (stop : ∀ n : Nat, L (n + 1) (g N) (N : Int) = yes) (hN : N ≤ 9223372036854775807) : L FU (g 0) 0 = if (∀ j, j < N → p j = true) then yes else no := by
  have h := scan_loop N p g L yes (fun _ => no) step stop N FU 0 (by omega) (by have := FU_pos; omega)
  refine Eq.trans h ?_
  cases hf : (List.range' 0 N).find? (fun j => !p j) with
  | none => rw [if_pos (fun j hj => find_all.1 hf j (by omega) (by omega))]
  | some j =>
    have h1 := List.find?_some hf
    have h2 := List.mem_of_find?_eq_some hf
    rw [List.mem_range'_1] at h2
    rw [if_neg]
    intro hall
    have := hall j (by omega)
    simp [this] at h1
/-- The same over the elements of a list. -/
theorem list_loop0 {α R : Type} (l : List α) (p : α → Bool) (L : Nat → Int → Option R) (yes no : Option R)
    (step : ∀ (n i : Nat) (x : α), l[i]? = some x → L (n + 1) (i : Int) = if p x = true then L n ((i + 1 : Nat) : Int) else no)
    (stop : ∀ n : Nat, L (n + 1) (l.length : Int) = yes) (hl : l.length ≤ 9223372036854775807) : L FU 0 = if l.all p = true then yes else no := by
  have h := scan_loop0 l.length (fun i => (l[i]?.map p).getD true) (fun _ => ()) (fun n _ i => L n i) yes no (fun n i hi => by
    have hx : l[i]? = some l[i] := by simp [hi]
    rw [step n i _ hx]; simp [hx]) stop hl
  refine Eq.trans h ?_
  by_cases ha : l.all p = true
  · rw [if_pos ha, if_pos]
    intro j hj
    have := List.all_eq_true.1 ha l[j] (List.getElem_mem hj)
    simp [hj, this]
  · rw [if_neg ha, if_neg]
    intro hc
    refine ha (List.all_eq_true.2 fun x hx => ?_)
    obtain ⟨j, hj⟩ := List.getElem?_of_mem hx
    have := hc j (lt_of_at hj)
    simpa [hj] using this
end Go.Tb

set_option linter.unusedVariables false
set_option linter.unusedSimpArgs false
namespace Go.D2
open Go.Tb
theorem known_eq : law02_known = some true := by decide +kernel
theorem for0 {S R : Type} (N : Nat) (g : Nat → S) (L : Nat → S → Int → Option R) (yes : Option R) {s0 : S} (h0 : g 0 = s0)
    (step : ∀ n i : Nat, i < N → L (n + 1) (g i) (i : Int) = L n (g (i + 1)) ((i + 1 : Nat) : Int))
    (stop : ∀ n : Nat, L (n + 1) (g N) (N : Int) = yes) (hN : N ≤ 9223372036854775807) : L FU s0 0 = yes := by
  rw [← h0]; exact for_loop0 N g L yes step stop hN
def within (n lo hi : Int) : Bool := decide (lo ≤ n) && decide (n ≤ hi)
theorem within_iff {n lo hi : Int} : within n lo hi = true ↔ lo ≤ n ∧ n ≤ hi := by unfold within; simp
theorem from_eq (n lo hi : Int) : drain_from n lo hi = some (within n lo hi) := by
  unfold drain_from within
  by_cases h : lo ≤ n <;> simp [h]
def isNode (n : Net) (i : Int) : Bool := within i 0 (n.nodes - 1)
theorem isNode_eq {n : Net} (h : InR (n.nodes - 1)) (i : Int) : drain_isNode n i = some (isNode n i) := by
  unfold drain_isNode isNode
  rw [gd_pos h, bnd_eq (from_eq _ _ _)]
def okD (n : Net) (d : Drain) : Bool := isNode n d.from_ && isNode n d.to_ && !decide (d.from_ = d.to_) && within d.width 0 20
def okH (n : Net) : Bool := within n.nodes 2 8 && isNode n n.from_ && isNode n n.to_ && !decide (n.from_ = n.to_)
def validate (n : Net) : Int := if okH n = true then (if 16 < n.drains.length then 3 else if n.drains.all (okD n) = true then 0 else 1) else 1
theorem Validate_eq {n : Net} (hl : n.drains.length ≤ 1000) : drain_Validate n = some (validate n) := by
  unfold drain_Validate validate okH
  rw [bnd_eq (from_eq _ _ _)]
  cases h1 : within n.nodes 2 8
  · rw [if_neg (by simp)]; unfold drain_Validate_k3; rw [if_pos rfl, if_neg (by simp)]
  · have hn := within_iff.1 h1
    have hr : InR (n.nodes - 1) := by omega
    rw [if_pos rfl, bnd_eq (isNode_eq hr _)]
    cases h2 : isNode n n.from_
    · rw [if_neg (by simp)]; unfold drain_Validate_k3; rw [if_pos rfl, if_neg (by simp)]
    · rw [if_pos rfl, bnd_eq (isNode_eq hr _)]
      cases h3 : isNode n n.to_
      · rw [if_neg (by simp)]; unfold drain_Validate_k3; rw [if_pos rfl, if_neg (by simp)]
      · rw [if_pos rfl]
        unfold drain_Validate_k3
        by_cases h4 : n.from_ = n.to_
        · rw [if_pos (by simp [h4]), if_neg (show ¬ (true && true && true && !decide (n.from_ = n.to_)) = true by simp [h4])]
        · rw [if_neg (by simp [h4]), if_pos (show (true && true && true && !decide (n.from_ = n.to_)) = true by simp [h4])]
          by_cases h5 : 16 < n.drains.length
          · rw [if_pos (by omega), if_pos h5]
          · rw [if_neg (by omega), if_neg h5, list_loop0 n.drains (okD n) (drain_Validate_L1 n) (some 0) (some 1) (fun m i x hx => ?_) (fun m => ?_) (by omega)]
            · split <;> rfl
            · have := lt_of_at hx
              show drain_Validate_B1 n (drain_Validate_L1 n m) _ = _
              unfold drain_Validate_B1 okD
              rw [if_pos (by omega), ix_nat hx, bnd_eq (isNode_eq hr _)]
              unfold drain_Validate_k2
              cases isNode n x.from_
              · rw [if_neg (by simp), if_pos rfl, if_neg (by simp)]
              · rw [if_pos rfl, bnd_eq (isNode_eq hr _)]
                cases isNode n x.to_
                · rw [if_neg (by simp), if_pos rfl, if_neg (by simp)]
                · rw [if_pos rfl]
                  by_cases h6 : x.from_ = x.to_
                  · rw [if_pos h6, if_pos rfl, if_neg (by simp [h6])]
                  · rw [if_neg h6, bnd_eq (from_eq _ _ _)]
                    cases within x.width 0 20
                    · rw [if_pos (by rfl), if_neg (by simp)]
                    · rw [if_neg (by simp), gd_pos (by omega), if_pos (by simp [h6])]; rfl
            · show drain_Validate_B1 n (drain_Validate_L1 n m) _ = _
              unfold drain_Validate_B1
              rw [if_neg (by omega)]; rfl
/-- A net that is right, but for how wide its drains are. -/
structure Net0 (n : Net) : Prop where
  n2 : 2 ≤ n.nodes
  n8 : n.nodes ≤ 8
  s0 : 0 ≤ n.from_ ∧ n.from_ < n.nodes
  t0 : 0 ≤ n.to_ ∧ n.to_ < n.nodes
  ne : n.from_ ≠ n.to_
  len : n.drains.length ≤ 16
  dr : ∀ d ∈ n.drains, (0 ≤ d.from_ ∧ d.from_ < n.nodes) ∧ (0 ≤ d.to_ ∧ d.to_ < n.nodes) ∧ d.from_ ≠ d.to_ ∧ 0 ≤ d.width ∧ d.width ≤ 1000
structure NetOk (n : Net) : Prop extends Net0 n where
  w20 : ∀ d ∈ n.drains, d.width ≤ 20
theorem val0 {n : Net} : validate n = 0 ↔ NetOk n := by
  unfold validate
  constructor
  · intro h
    split at h
    · rename_i hh
      split at h
      · cases h
      · split at h
        · rename_i hl ha
          unfold okH isNode at hh
          simp only [Bool.and_eq_true, within_iff, Bool.not_eq_true', decide_eq_false_iff_not] at hh
          obtain ⟨⟨⟨h1, h2⟩, h3⟩, h4⟩ := hh
          have hd : ∀ d ∈ n.drains, (0 ≤ d.from_ ∧ d.from_ ≤ n.nodes - 1) ∧ (0 ≤ d.to_ ∧ d.to_ ≤ n.nodes - 1) ∧ d.from_ ≠ d.to_ ∧ 0 ≤ d.width ∧ d.width ≤ 20 := fun d hd => by
            have := List.all_eq_true.1 ha d hd
            unfold okD isNode at this
            simp only [Bool.and_eq_true, within_iff, Bool.not_eq_true', decide_eq_false_iff_not] at this
            obtain ⟨⟨⟨a1, a2⟩, a3⟩, a4⟩ := this
            exact ⟨a1, a2, a3, a4.1, a4.2⟩
          exact ⟨⟨h1.1, h1.2, by omega, by omega, h4, by omega, fun d hd' => by have := hd d hd'; exact ⟨by omega, by omega, this.2.2.1, by omega, by omega⟩⟩, fun d hd' => (hd d hd').2.2.2.2⟩
        · cases h
    · cases h
  · intro h
    rw [if_pos, if_neg (by have := h.len; omega), if_pos]
    · rw [List.all_eq_true]
      intro d hd
      have := h.dr d hd
      have h20 := h.w20 d hd
      unfold okD isNode
      simp only [Bool.and_eq_true, within_iff, Bool.not_eq_true', decide_eq_false_iff_not]
      exact ⟨⟨⟨by omega, by omega⟩, this.2.2.1⟩, by omega⟩
    · have h1 := h.n2; have h2 := h.n8; have h3 := h.s0; have h4 := h.t0
      unfold okH isNode
      simp only [Bool.and_eq_true, within_iff, Bool.not_eq_true', decide_eq_false_iff_not]
      exact ⟨⟨⟨by omega, by omega⟩, by omega⟩, h.ne⟩
end Go.D2

set_option linter.unusedVariables false
set_option linter.unusedSimpArgs false
namespace Go.D2
open Go.Tb
def Eds (l : List Left) : List Ed := l.map toEd
def Caps (l : List Left) : Prop := ∀ d ∈ l, 0 ≤ d.runs ∧ d.runs ≤ d.drain.width ∧ d.drain.width ≤ 1000
theorem eds_at {l : List Left} {i : Nat} {e : Ed} (h : (Eds l)[i]? = some e) : ∃ d, l[i]? = some d ∧ e = toEd d := by
  unfold Eds at h
  rw [List.getElem?_map] at h
  cases hd : l[i]? with
  | none => rw [hd] at h; cases h
  | some d => rw [hd] at h; cases h; exact ⟨d, rfl, rfl⟩
theorem caps_room {l : List Left} (h : Caps l) : RoomOk (Eds l) := fun e he => by
  obtain ⟨d, hd, rfl⟩ := List.mem_map.1 he
  have := h d hd
  show InR d.runs ∧ InR (d.drain.width - d.runs)
  omega
theorem left_room_eq {d : Left} {u : Int} (h : 0 ≤ d.runs ∧ d.runs ≤ d.drain.width ∧ d.drain.width ≤ 1000) : drain_left_room d u = some (other (toEd d) u, room (toEd d) u) := by
  unfold drain_left_room other room
  by_cases h1 : d.drain.from_ = u
  · have h2 : (toEd d).a = u := h1
    rw [if_pos h1, if_pos h2, if_pos h2]; exact gd_pos (by omega)
  · have h2 : ¬ (toEd d).a = u := h1
    rw [if_neg h1, if_neg h2, if_neg h2]; rfl
def ints (ks : List Nat) : List Int := ks.map (fun (q : Nat) => (q : Int))
theorem ints_at {pre suf : List Nat} {i : Nat} : (ints (pre ++ i :: suf))[pre.length]? = some (i : Int) := by
  unfold ints
  rw [List.getElem?_map, List.getElem?_append_right (Nat.le_refl _)]; simp
/-- The smallest room along a way. -/
def minRoom (E : List Ed) : Int → Int → List Nat → Int
  | _, m, [] => m
  | u, m, i :: r => match E[i]? with
    | some e => minRoom E (other e u) (if m < 0 ∨ room e u < m then room e u else m) r
    | none => m
theorem minRoom_spec {E : List Ed} : ∀ (ks : List Nat) (vis : List Int) (u v m : Int), SP E vis u ks v → (0 < m ∨ (m < 0 ∧ ks ≠ [])) → 0 < minRoom E u m ks ∧ (0 < m → minRoom E u m ks ≤ m) ∧ AllRoom E (minRoom E u m ks) u ks
  | [], vis, u, v, m, h, hm => by
    rcases hm with h1 | ⟨_, h1⟩
    · exact ⟨h1, fun _ => Int.le_refl _, trivial⟩
    · exact absurd rfl h1
  | i :: r, vis, u, v, m, h, hm => by
    obtain ⟨e, he, hu, hp, hn, hr⟩ := h
    have e1 : minRoom E u m (i :: r) = minRoom E (other e u) (if m < 0 ∨ room e u < m then room e u else m) r := by simp only [minRoom, he]
    rw [e1]
    have hm' : 0 < (if m < 0 ∨ room e u < m then room e u else m) := by
      split
      · exact hp
      · rename_i hc
        rcases hm with h1 | ⟨h1, h1'⟩
        · exact h1
        · exact absurd (.inl h1) hc
    obtain ⟨i1, i2, i3⟩ := minRoom_spec r (u :: vis) (other e u) v _ hr (.inl hm')
    have i2 := i2 hm'
    generalize minRoom E (other e u) (if m < 0 ∨ room e u < m then room e u else m) r = q at *
    refine ⟨i1, fun h0 => ?_, e, he, ?_, i3⟩
    · split at i2 <;> omega
    · split at i2
      · exact i2
      · rename_i hc; omega
theorem run_L2 {n : Net} {l : List Left} (hc : Caps l) (rec2 : List Left → Option (List Left)) {ks : List Nat} (hk : ks.length ≤ 1000) : ∀ (suf pre : List Nat) (vis : List Int) (u v m : Int) (k : Nat), ks = pre ++ suf → SP (Eds l) vis u suf v → suf.length < k →
    drain_run_L2 n l rec2 (ints ks) k u m (pre.length : Int) = drain_run_k2 n l rec2 (ints ks) (minRoom (Eds l) u m suf)
  | [], pre, vis, u, v, m, k + 1, hks, h, hlt => by
    show drain_run_B2 n l rec2 (ints ks) (drain_run_L2 n l rec2 (ints ks) k) u m _ = _
    unfold drain_run_B2
    rw [if_neg (by rw [hks]; simp [ints])]; rfl
  | i :: r, pre, vis, u, v, m, k + 1, hks, h, hlt => by
    have h0 := h
    obtain ⟨e, he, hu, hp, hn, hr⟩ := h
    obtain ⟨d, hd, rfl⟩ := eds_at he
    have hcd := hc d (List.mem_of_getElem? hd)
    have hpl : pre.length < 1000 := by rw [hks] at hk; simp at hk; omega
    have ih := run_L2 (n := n) hc rec2 hk r (pre ++ [i]) (u :: vis) (other (toEd d) u) v (if m < 0 ∨ room (toEd d) u < m then room (toEd d) u else m) k (by rw [hks]; simp) hr (by simp at hlt; omega)
    have e1 : minRoom (Eds l) u m (i :: r) = minRoom (Eds l) (other (toEd d) u) (if m < 0 ∨ room (toEd d) u < m then room (toEd d) u else m) r := by simp only [minRoom, he]
    have e2 : (((pre ++ [i]).length : Nat) : Int) = (pre.length : Int) + 1 := by simp
    rw [e1, ← ih, e2]
    show drain_run_B2 n l rec2 (ints ks) (drain_run_L2 n l rec2 (ints ks) k) u m _ = _
    unfold drain_run_B2
    have hi : (ints ks)[pre.length]? = some (i : Int) := by rw [hks]; exact ints_at
    rw [if_pos (by have := lt_of_at hi; omega), ix_nat hi, ix_nat hd, bnd_eq (left_room_eq hcd)]
    unfold drain_run_k4 drain_run_k3
    by_cases h1 : m < 0
    · rw [if_pos h1, if_pos rfl, gd_pos (by omega), if_pos (.inl h1)]
    · rw [if_neg h1]
      by_cases h2 : room (toEd d) u < m
      · rw [if_pos (by simpa using h2), gd_pos (by omega), if_pos (.inr h2)]
      · rw [if_neg (by simpa using h2), gd_pos (by omega), if_neg (by omega)]
def moreL (m : Int) (d : Left) (u : Int) : Left := if d.drain.from_ = u then ⟨d.drain, d.runs + m⟩ else ⟨d.drain, d.runs - m⟩
theorem moreL_ed (m : Int) (d : Left) (u : Int) : toEd (moreL m d u) = more m (toEd d) u := by
  unfold moreL more
  by_cases h : d.drain.from_ = u
  · have h2 : (toEd d).a = u := h
    rw [if_pos h, if_pos h2]; rfl
  · have h2 : ¬ (toEd d).a = u := h
    rw [if_neg h, if_neg h2]; rfl
def augL (m : Int) : List Left → Int → List Nat → List Left
  | l, _, [] => l
  | l, u, i :: r => match l[i]? with
    | some d => augL m (l.set i (moreL m d u)) (other (toEd d) u) r
    | none => l
theorem eds_set {l : List Left} {i : Nat} {m : Int} {d : Left} {u : Int} : Eds (l.set i (moreL m d u)) = (Eds l).set i (more m (toEd d) u) := by
  unfold Eds
  rw [List.map_set, moreL_ed]
theorem augL_ed {m : Int} : ∀ (ks : List Nat) (l : List Left) (u : Int), Eds (augL m l u ks) = aug m (Eds l) u ks
  | [], l, u => rfl
  | i :: r, l, u => by
    cases hd : l[i]? with
    | none =>
      have he : (Eds l)[i]? = none := by unfold Eds; rw [List.getElem?_map, hd]; rfl
      simp only [augL, aug, hd, he]
    | some d =>
      have he : (Eds l)[i]? = some (toEd d) := by unfold Eds; rw [List.getElem?_map, hd]; rfl
      simp only [augL, aug, hd, he]
      rw [augL_ed r, eds_set]
theorem augL_drains {m : Int} : ∀ (ks : List Nat) (l : List Left) (u : Int), (augL m l u ks).map Left.drain = l.map Left.drain
  | [], l, u => rfl
  | i :: r, l, u => by
    cases hd : l[i]? with
    | none => simp only [augL, hd]
    | some d =>
      simp only [augL, hd]
      rw [augL_drains r, List.map_set]
      have : (moreL m d u).drain = d.drain := by unfold moreL; split <;> rfl
      rw [this]
      apply List.ext_getElem?
      intro j
      rw [List.getElem?_set]
      by_cases h : i = j
      · subst h
        have := lt_of_at hd
        rw [if_pos rfl, if_pos (by simpa using this), List.getElem?_map, hd]; rfl
      · rw [if_neg h]
theorem caps_set {l : List Left} {i : Nat} {d d' : Left} (hc : Caps l) (h : 0 ≤ d'.runs ∧ d'.runs ≤ d'.drain.width ∧ d'.drain.width ≤ 1000) : Caps (l.set i d') := fun x hx => by
  rcases List.mem_or_eq_of_mem_set hx with h1 | rfl
  · exact hc x h1
  · exact h
theorem run_L1 (rec2 : List Left → Option (List Left)) {ks : List Nat} (hk : ks.length ≤ 1000) {m : Int} (hm : 0 ≤ m ∧ m ≤ 1000) : ∀ (suf pre : List Nat) (vis : List Int) (u v : Int) (l : List Left) (k : Nat), ks = pre ++ suf → Caps l → SP (Eds l) vis u suf v → AllRoom (Eds l) m u suf → suf.length < k →
    drain_run_L1 rec2 (ints ks) m k u (pre.length : Int) l = rec2 (augL m l u suf)
  | [], pre, vis, u, v, l, k + 1, hks, hc, h, ha, hlt => by
    show drain_run_B1 rec2 (ints ks) m (drain_run_L1 rec2 (ints ks) m k) u _ l = _
    unfold drain_run_B1
    rw [if_neg (by rw [hks]; simp [ints])]; rfl
  | i :: r, pre, vis, u, v, l, k + 1, hks, hc, h, ha, hlt => by
    have honce := sp_once h
    obtain ⟨e, he, hu, hp, hn, hr⟩ := h
    obtain ⟨e0, he0, hmr, har⟩ := ha
    rw [he] at he0; cases he0
    obtain ⟨d, hd, rfl⟩ := eds_at he
    have hcd := hc d (List.mem_of_getElem? hd)
    have hpl : pre.length < 1000 := by rw [hks] at hk; simp at hk; omega
    have hcong : ∀ j ∈ r, (Eds (l.set i (moreL m d u)))[j]? = (Eds l)[j]? := fun j hj => by
      rw [eds_set, List.getElem?_set_ne (fun h : i = j => honce (by rw [h]; exact hj))]
    have hcm : 0 ≤ (moreL m d u).runs ∧ (moreL m d u).runs ≤ (moreL m d u).drain.width ∧ (moreL m d u).drain.width ≤ 1000 := by
      unfold room at hmr
      unfold moreL
      by_cases h1 : d.drain.from_ = u
      · have h2 : (toEd d).a = u := h1
        rw [if_pos h2] at hmr
        rw [if_pos h1]
        have : m ≤ d.drain.width - d.runs := hmr
        simp only; omega
      · have h2 : ¬ (toEd d).a = u := h1
        rw [if_neg h2] at hmr
        rw [if_neg h1]
        have : m ≤ d.runs := hmr
        simp only; omega
    have ih := run_L1 rec2 hk hm r (pre ++ [i]) (u :: vis) (other (toEd d) u) v (l.set i (moreL m d u)) k (by rw [hks]; simp) (caps_set (d := d) hc hcm) (sp_congr r _ _ v hcong hr) (allRoom_congr r _ hcong har) (by simp at hlt; omega)
    have e1 : augL m l u (i :: r) = augL m (l.set i (moreL m d u)) (other (toEd d) u) r := by simp only [augL, hd]
    have e2 : (((pre ++ [i]).length : Nat) : Int) = (pre.length : Int) + 1 := by simp
    rw [e1, ← ih, e2]
    show drain_run_B1 rec2 (ints ks) m (drain_run_L1 rec2 (ints ks) m k) u _ l = _
    unfold drain_run_B1
    have hi : (ints ks)[pre.length]? = some (i : Int) := by rw [hks]; exact ints_at
    rw [if_pos (by have := lt_of_at hi; omega), ix_nat hi, ix_nat hd, bnd_eq (left_room_eq hcd), ix_nat hd]
    unfold drain_run_k1 moreL
    by_cases h1 : d.drain.from_ = u
    · rw [if_pos h1, ix_nat hd, gd_pos (by omega), ix_nat hd, gd_pos (by omega), if_pos h1]; rfl
    · rw [if_neg h1, ix_nat hd, gd_pos (by omega), ix_nat hd, gd_pos (by omega), if_neg h1]; rfl
/-- What is known of the program's drains. -/
structure FlowL (n : Net) (l : List Left) : Prop where
  drains : l.map Left.drain = n.drains
  flow : Flow n.nodes.toNat n.from_ n.to_ (Eds l)
  caps : Caps l
theorem flowL_ne {n : Net} {l : List Left} (hn : Net0 n) (h : FlowL n l) : ∀ e ∈ Eds l, e.a ≠ e.b := fun e he => by
  obtain ⟨d, hd, rfl⟩ := List.mem_map.1 he
  have : d.drain ∈ n.drains := by rw [← h.drains]; exact List.mem_map_of_mem hd
  exact (hn.dr _ this).2.2.1
theorem sp_len {E : List Ed} : ∀ (ks : List Nat) (vis : List Int) (u v : Int), SP E vis u ks v → (∀ i ∈ ks, i < E.length) ∧ ks.Nodup
  | [], _, _, _, _ => ⟨by simp, List.nodup_nil⟩
  | i :: r, vis, u, v, h => by
    have h1 := sp_once h
    obtain ⟨e, he, _, _, _, hr⟩ := h
    have ⟨i1, i2⟩ := sp_len r _ _ _ hr
    exact ⟨fun j hj => by
      rcases List.mem_cons.1 hj with rfl | hj
      · exact lt_at he
      · exact i1 j hj, List.nodup_cons.2 ⟨h1, i2⟩⟩
theorem nodup_len : ∀ (n : Nat) (ks : List Nat), (∀ i ∈ ks, i < n) → ks.Nodup → ks.length ≤ n
  | 0, [], _, _ => Nat.le_refl _
  | 0, i :: r, h, _ => absurd (h i (List.mem_cons_self ..)) (by omega)
  | n + 1, ks, h, hd => by
    have h1 : (ks.erase n).length ≤ n := nodup_len n (ks.erase n) (fun i hi => by
      have h2 := h i (List.mem_of_mem_erase hi)
      have h3 : i ≠ n := fun e => by rw [e] at hi; exact (List.Nodup.mem_erase_iff hd).1 hi |>.1 rfl
      omega) (hd.erase n)
    have := List.length_erase_le (a := n) (l := ks)
    by_cases hm : n ∈ ks
    · have := List.length_erase_of_mem hm; omega
    · rw [List.erase_of_not_mem hm] at h1; omega
/-- The search in the program's drains. -/
theorem search_eq {n : Net} {l : List Left} (hn : Net0 n) (h : FlowL n l) {s t : Int} (hs : 0 ≤ s ∧ s < n.nodes) (hst : s ≠ t) :
    (∃ ks : List Nat, ks ≠ [] ∧ ks.length ≤ 1000 ∧ drain_search l s t = some (ints ks) ∧ SP (Eds l) [] s ks t) ∨ (drain_search l s t = some [] ∧ ∃ S : Int → Bool, S s = true ∧ S t = false ∧ Closed S (Eds l) ∧ ∀ v, S v = true → Reach (Eds l) s v) := by
  have h8 := hn.n8
  have h2 := hn.n2
  have hlen : (Eds l).length ≤ 16 := by
    have := congrArg List.length h.drains
    have h3 := hn.len
    unfold Eds; simp at this ⊢; omega
  rcases search_spec (K := FU) h.flow.dom (caps_room h.caps) (by omega) (show 0 ≤ s ∧ s < ((n.nodes.toNat : Nat) : Int) by omega) hst (flowL_ne hn h) (by have := FU_pos; omega) with ⟨ks, k1, k2, k3⟩ | ⟨S, k1, k2, k3, k4, k5⟩
  · refine .inl ⟨ks, k1, ?_, ?_, k3⟩
    · have ⟨q1, q2⟩ := sp_len ks [] s t k3
      have := nodup_len _ ks q1 q2
      omega
    · unfold drain_search
      have k2' : dfs (l.map toEd) t FU s [] [] = some (.inr (ints ks)) := k2
      rw [gd_pos hst, k2']
      exact gd_pos (by unfold ints; simpa using k1)
  · refine .inr ⟨?_, sees S, k2, k3, k4, k5⟩
    unfold drain_search
    have k1' : dfs (l.map toEd) t FU s [] [] = some (.inl S) := k1
    rw [gd_pos hst, k1']
def Maxed (n : Net) (l : List Left) : Prop := FlowL n l ∧ ∃ S : Int → Bool, S n.from_ = true ∧ S n.to_ = false ∧ Closed S (Eds l) ∧ ∀ v, S v = true → Reach (Eds l) n.from_ v
theorem run_L3 {n : Net} (hn : Net0 n) : ∀ (q : Nat) (l : List Left) (k : Nat), FlowL n l → cutW (fun v => decide (v = n.from_)) (Eds l) - out (Eds l) n.from_ ≤ q → q < k → ∃ l', drain_run_L3 n k l = some l' ∧ Maxed n l' := by
  intro q
  induction q with
  | zero =>
    intro l k h hq hk
    obtain ⟨k, rfl⟩ : ∃ k', k = k' + 1 := ⟨k - 1, by omega⟩
    rcases search_eq hn h (s := n.from_) (t := n.to_) hn.s0 hn.ne with ⟨ks, k1, k2, k3, k4⟩ | ⟨k1, S, k2⟩
    · exfalso
      obtain ⟨m1, _, m3⟩ := minRoom_spec ks [] n.from_ n.to_ (-1) k4 (.inr ⟨by omega, k1⟩)
      obtain ⟨f1, f2, f3⟩ := aug_flow h.flow (Int.le_of_lt m1) hn.ne k4 m3
      have hw := weak f1 (show 0 ≤ n.from_ ∧ n.from_ < ((n.nodes.toNat : Nat) : Int) by have := hn.s0; omega) (S := fun v => decide (v = n.from_)) (by simp) (by have := hn.ne; simp; omega)
      rw [f2, alike_cut _ f3] at hw
      omega
    · refine ⟨l, ?_, h, S, k2⟩
      show drain_run_B3 n (drain_run_L3 n k) l = _
      unfold drain_run_B3
      rw [bnd_eq k1, if_pos rfl]
  | succ q ih =>
    intro l k h hq hk
    obtain ⟨k, rfl⟩ : ∃ k', k = k' + 1 := ⟨k - 1, by omega⟩
    rcases search_eq hn h (s := n.from_) (t := n.to_) hn.s0 hn.ne with ⟨ks, k1, k2, k3, k4⟩ | ⟨k1, S, k2⟩
    · obtain ⟨m1, _, m3⟩ := minRoom_spec ks [] n.from_ n.to_ (-1) k4 (.inr ⟨by omega, k1⟩)
      obtain ⟨f1, f2, f3⟩ := aug_flow h.flow (Int.le_of_lt m1) hn.ne k4 m3
      have hm1000 : minRoom (Eds l) n.from_ (-1) ks ≤ 1000 := by
        cases ks with
        | nil => exact absurd rfl k1
        | cons i r =>
          obtain ⟨e, he, hmr, _⟩ := m3
          obtain ⟨d, hd, rfl⟩ := eds_at he
          have := h.caps d (List.mem_of_getElem? hd)
          have : room (toEd d) n.from_ ≤ 1000 := by
            unfold room; split
            · show d.drain.width - d.runs ≤ 1000; omega
            · show d.runs ≤ 1000; omega
          omega
      have hcaps : Caps (augL (minRoom (Eds l) n.from_ (-1) ks) l n.from_ ks) := fun d hd => by
        have he : toEd d ∈ aug (minRoom (Eds l) n.from_ (-1) ks) (Eds l) n.from_ ks := by rw [← augL_ed]; exact List.mem_map_of_mem hd
        have hc := f1.cap _ he
        have hdm : d.drain ∈ n.drains := by rw [← h.drains, ← augL_drains (m := minRoom (Eds l) n.from_ (-1) ks) ks l n.from_]; exact List.mem_map_of_mem hd
        have := hn.dr _ hdm
        exact ⟨hc.1, hc.2, this.2.2.2.2⟩
      have hf' : FlowL n (augL (minRoom (Eds l) n.from_ (-1) ks) l n.from_ ks) := ⟨by rw [augL_drains]; exact h.drains, by rw [augL_ed]; exact f1, hcaps⟩
      obtain ⟨l', l1, l2⟩ := ih (augL (minRoom (Eds l) n.from_ (-1) ks) l n.from_ ks) k hf' (by rw [augL_ed, f2, alike_cut _ f3]; omega) (by omega)
      refine ⟨l', ?_, l2⟩
      rw [← l1]
      show drain_run_B3 n (drain_run_L3 n k) l = _
      unfold drain_run_B3
      rw [bnd_eq k3, if_neg (by unfold ints; simpa using k1)]
      have e1 := run_L2 (n := n) h.caps (drain_run_L3 n k) k2 ks [] [] n.from_ n.to_ (-1) FU rfl k4 (by have := FU_pos; omega)
      have e2 := run_L1 (drain_run_L3 n k) k2 (m := minRoom (Eds l) n.from_ (-1) ks) ⟨by omega, hm1000⟩ ks [] [] n.from_ n.to_ l FU rfl h.caps k4 m3 (by have := FU_pos; omega)
      refine Eq.trans e1 ?_
      unfold drain_run_k2
      exact e2
    · refine ⟨l, ?_, h, S, k2⟩
      show drain_run_B3 n (drain_run_L3 n k) l = _
      unfold drain_run_B3
      rw [bnd_eq k1, if_pos rfl]
def start (n : Net) : List Left := n.drains.map fun d => ⟨d, 0⟩
theorem out_zero (v : Int) : ∀ l : List Drain, out (Eds (l.map fun d => ⟨d, 0⟩)) v = 0
  | [] => rfl
  | d :: r => by
    have := out_zero v r
    unfold Eds at this ⊢
    simp only [List.map_cons, out, this]
    show ((if d.from_ = v then (0 : Int) else 0) - (if d.to_ = v then 0 else 0)) + 0 = 0
    split <;> split <;> rfl
theorem start_flow {n : Net} (hn : Net0 n) : FlowL n (start n) := by
  have h2 := hn.n2
  refine ⟨by unfold start; rw [List.map_map]; exact List.map_id _, ⟨fun e he => ?_, fun e he => ?_, fun v _ _ _ _ => out_zero v _⟩, fun d hd => ?_⟩
  · obtain ⟨x, hx, rfl⟩ := List.mem_map.1 he
    obtain ⟨d, hd, rfl⟩ := List.mem_map.1 hx
    have := hn.dr d hd
    refine ⟨⟨this.1.1, ?_⟩, this.2.1.1, ?_⟩
    · show d.from_ < _; omega
    · show d.to_ < _; omega
  · obtain ⟨x, hx, rfl⟩ := List.mem_map.1 he
    obtain ⟨d, hd, rfl⟩ := List.mem_map.1 hx
    have := hn.dr d hd
    exact ⟨Int.le_refl _, this.2.2.2.1⟩
  · obtain ⟨x, hx, rfl⟩ := List.mem_map.1 hd
    have := hn.dr x hx
    exact ⟨Int.le_refl _, this.2.2.2.1, this.2.2.2.2⟩
theorem cut_bnd (S : Int → Bool) : ∀ (l : List Left), (∀ d ∈ l, 0 ≤ d.drain.width ∧ d.drain.width ≤ 1000) → 0 ≤ cutW S (Eds l) ∧ cutW S (Eds l) ≤ 1000 * (l.length : Int)
  | [], _ => ⟨Int.le_refl _, Int.le_refl _⟩
  | d :: r, h => by
    have ih := cut_bnd S r (fun x hx => h x (List.mem_cons_of_mem _ hx))
    have := h d (List.mem_cons_self ..)
    have e : cutW S (Eds (d :: r)) = (if S d.drain.from_ = true ∧ S d.drain.to_ = false then d.drain.width else 0) + cutW S (Eds r) := rfl
    rw [e, List.length_cons]
    split <;> omega
theorem run_eq {n : Net} (hn : Net0 n) : ∃ l, drain_run n = some l ∧ Maxed n l := by
  have hlen := hn.len
  have hf := start_flow hn
  have hb := cut_bnd (fun v => decide (v = n.from_)) (start n) (fun d hd => by have := hf.caps d hd; omega)
  have hsl : (start n).length = n.drains.length := by unfold start; simp
  obtain ⟨l, l1, l2⟩ := run_L3 hn 16000 (start n) FU hf (by unfold start; rw [out_zero]; have := hb.2; unfold start at this; simp only [List.length_map] at this; omega) (by have := FU_pos; omega)
  refine ⟨l, ?_, l2⟩
  unfold drain_run
  refine Eq.trans (for0 n.drains.length (fun i => (start n).take i) (fun k s i => drain_run_L4 n k i s) (some l) rfl (fun k i hi => ?_) (fun k => ?_) (by omega)) rfl
  · have hx : n.drains[i]? = some n.drains[i] := by simp [hi]
    have hs : (start n)[i]? = some ⟨n.drains[i], 0⟩ := by unfold start; rw [List.getElem?_map, hx]; rfl
    show drain_run_B4 n (drain_run_L4 n k) _ _ = _
    unfold drain_run_B4
    rw [if_pos (by omega), ix_nat hx, gd_pos (by simp; omega), gd_pos (by omega), List.take_add_one, hs]; rfl
  · show drain_run_B4 n (drain_run_L4 n k) _ _ = _
    unfold drain_run_B4
    rw [if_neg (by omega)]
    unfold drain_run_k5
    rw [List.take_of_length_le (by omega)]; exact l1
end Go.D2

set_option linter.unusedVariables false
set_option linter.unusedSimpArgs false
namespace Go.D2
open Go.Tb
def En (n : Net) (fl : List Int) : List Ed := List.zipWith (fun d f => (⟨d.from_, d.to_, d.width, f⟩ : Ed)) n.drains fl
theorem en_at {n : Net} {fl : List Int} {i : Nat} {d : Drain} {f : Int} (h1 : n.drains[i]? = some d) (h2 : fl[i]? = some f) : (En n fl)[i]? = some ⟨d.from_, d.to_, d.width, f⟩ := by
  unfold En
  rw [List.getElem?_zipWith, h1, h2]
theorem en_len {n : Net} {fl : List Int} (h : fl.length = n.drains.length) : (En n fl).length = n.drains.length := by unfold En; simp; omega
theorem eds_en : ∀ (l : List Left), Eds l = List.zipWith (fun d f => (⟨d.from_, d.to_, d.width, f⟩ : Ed)) (l.map Left.drain) (l.map Left.runs)
  | [] => rfl
  | d :: r => by
    have := eds_en r
    unfold Eds at this ⊢
    simp only [List.map_cons, List.zipWith_cons_cons, this]; rfl
theorem flowL_en {n : Net} {l : List Left} (h : l.map Left.drain = n.drains) : Eds l = En n (l.map Left.runs) := by
  rw [eds_en, h]; rfl
theorem flowOf_eq {l : List Left} (hl : l.length ≤ 1000) : drain_flowOf l = some (l.map Left.runs) := by
  unfold drain_flowOf
  refine Eq.trans (for0 l.length (fun i => (l.map Left.runs).take i) (fun n s i => drain_flowOf_L1 l n i s) (some (l.map Left.runs)) rfl (fun n i hi => ?_) (fun n => ?_) (by omega)) rfl
  · have hx : l[i]? = some l[i] := by simp [hi]
    have hs : (l.map Left.runs)[i]? = some l[i].runs := by rw [List.getElem?_map, hx]; rfl
    show drain_flowOf_B1 l (drain_flowOf_L1 l n) _ _ = _
    unfold drain_flowOf_B1
    rw [if_pos (by omega), ix_nat hx, gd_pos (by simp; omega), gd_pos (by omega), List.take_add_one, hs]; rfl
  · show drain_flowOf_B1 l (drain_flowOf_L1 l n) _ _ = _
    unfold drain_flowOf_B1
    rw [if_neg (by omega)]
    unfold drain_flowOf_k1
    rw [List.take_of_length_le (by simp)]
theorem out_take {e : Ed} (v : Int) : ∀ {E : List Ed} {i : Nat}, E[i]? = some e → out (E.take (i + 1)) v = out (E.take i) v + con1 e v
  | [], i, h => by simp at h
  | x :: r, 0, h => by simp at h; subst h; simp [out, con1]
  | x :: r, i + 1, h => by
    have := out_take (e := e) v (E := r) (i := i) (by simpa using h)
    simp only [List.take_succ_cons, out_cons, this]; omega
theorem out_bnd {M : Int} (hM : 0 ≤ M) (v : Int) : ∀ E : List Ed, (∀ e ∈ E, -M ≤ e.f ∧ e.f ≤ M) → -(2 * M) * (E.length : Int) ≤ out E v ∧ out E v ≤ 2 * M * (E.length : Int)
  | [], _ => by simp [out]
  | e :: r, h => by
    have ih := out_bnd hM v r (fun x hx => h x (List.mem_cons_of_mem _ hx))
    have he := h e (List.mem_cons_self ..)
    have e1 : ((List.length (e :: r) : Nat) : Int) = (r.length : Int) + 1 := by simp
    rw [out_cons, e1, Int.mul_add, Int.mul_add]
    have : -(2 * M) ≤ con1 e v ∧ con1 e v ≤ 2 * M := by
      unfold con1
      split <;> split <;> omega
    omega
def FBnd (fl : List Int) : Prop := ∀ x ∈ fl, -1000000 ≤ x ∧ x ≤ 1000000
theorem en_bnd {n : Net} {fl : List Int} (h : FBnd fl) : ∀ e ∈ En n fl, -1000000 ≤ e.f ∧ e.f ≤ 1000000 := fun e he => by
  obtain ⟨i, hi⟩ := List.getElem?_of_mem he
  unfold En at hi
  rw [List.getElem?_zipWith] at hi
  cases h1 : n.drains[i]? with
  | none => rw [h1] at hi; cases hi
  | some d =>
    cases h2 : fl[i]? with
    | none => rw [h1, h2] at hi; cases hi
    | some f =>
      rw [h1, h2] at hi; cases hi
      exact h f (List.mem_of_getElem? h2)
theorem part_bnd {n : Net} {fl : List Int} (h : FBnd fl) (hl : n.drains.length ≤ 1000) (v : Int) (i : Nat) : -2000000000 ≤ out ((En n fl).take i) v ∧ out ((En n fl).take i) v ≤ 2000000000 := by
  have := out_bnd (M := 1000000) (by omega) v ((En n fl).take i) (fun e he => en_bnd h e (List.mem_of_mem_take he))
  have h2 : ((En n fl).take i).length ≤ 1000 := by
    rw [List.length_take]
    have : (En n fl).length ≤ n.drains.length := by unfold En; simp; omega
    omega
  omega
theorem value_eq {n : Net} {fl : List Int} (hf : fl.length = n.drains.length) (hl : n.drains.length ≤ 1000) (hb : FBnd fl) (v : Int) : drain_value n fl v = some (out (En n fl) v) := by
  have hE := en_len hf
  unfold drain_value
  refine Eq.trans (for0 n.drains.length (fun i => out ((En n fl).take i) v) (fun k s i => drain_value_L1 n fl v k s i) (some (out (En n fl) v)) rfl (fun k i hi => ?_) (fun k => ?_) (by omega)) rfl
  · have hx : n.drains[i]? = some n.drains[i] := by simp [hi]
    have hy : fl[i]? = some (fl[i]'(by omega)) := List.getElem?_eq_getElem _
    have he := out_take v (en_at hx hy)
    have b1 := part_bnd hb hl v i
    have b2 := hb _ (List.mem_of_getElem? hy)
    show drain_value_B1 n fl v (drain_value_L1 n fl v k) _ _ = _
    unfold drain_value_B1 drain_value_k3 drain_value_k2
    rw [if_pos (by omega), ix_nat hx, he]
    unfold con1
    simp only
    by_cases h1 : n.drains[i].from_ = v
    · rw [if_pos h1, ix_nat hy, gd_pos (by omega), if_pos h1]
      by_cases h2 : n.drains[i].to_ = v
      · rw [if_pos h2, ix_nat hy, gd_pos (by omega), gd_pos (by omega), if_pos h2]
        congr 1; omega
      · rw [if_neg h2, gd_pos (by omega), if_neg h2]
        congr 1; omega
    · rw [if_neg h1, if_neg h1]
      by_cases h2 : n.drains[i].to_ = v
      · rw [if_pos h2, ix_nat hy, gd_pos (by omega), gd_pos (by omega), if_pos h2]
        congr 1; omega
      · rw [if_neg h2, gd_pos (by omega), if_neg h2]
        congr 1; omega
  · show drain_value_B1 n fl v (drain_value_L1 n fl v k) _ _ = _
    unfold drain_value_B1
    rw [if_neg (by omega)]
    unfold drain_value_k1
    rw [List.take_of_length_le (by omega)]
def inS (m : Nat) (v : Int) : Bool := m.testBit v.toNat
theorem set_of : ∀ (k : Nat) (S : Nat → Bool), ∃ m, m < 2 ^ k ∧ ∀ v, v < k → m.testBit v = S v
  | 0, S => ⟨0, by decide, fun v hv => by omega⟩
  | k + 1, S => by
    obtain ⟨m, h1, h2⟩ := set_of k (fun v => S (v + 1))
    refine ⟨2 * m + (S 0).toNat, ?_, fun v hv => ?_⟩
    · rw [Nat.pow_succ]
      have : (S 0).toNat ≤ 1 := Bool.toNat_le _
      omega
    · cases v with
      | zero =>
        rw [Nat.testBit_zero]
        cases S 0 <;> simp
      | succ v =>
        rw [Nat.testBit_succ]
        have : (2 * m + (S 0).toNat) / 2 = m := by
          have : (S 0).toNat ≤ 1 := Bool.toNat_le _
          omega
        rw [this]; exact h2 v (by omega)
def cutD (S : Int → Bool) : List Drain → Int
  | [] => 0
  | d :: r => (if S d.from_ = true ∧ S d.to_ = false then d.width else 0) + cutD S r
theorem cutW_eds (S : Int → Bool) : ∀ l : List Left, cutW S (Eds l) = cutD S (l.map Left.drain)
  | [] => rfl
  | d :: r => by
    have := cutW_eds S r
    have e : cutW S (Eds (d :: r)) = (if S d.drain.from_ = true ∧ S d.drain.to_ = false then d.drain.width else 0) + cutW S (Eds r) := rfl
    rw [e, this]; rfl
theorem cutD_congr {S T : Int → Bool} : ∀ l : List Drain, (∀ d ∈ l, S d.from_ = T d.from_ ∧ S d.to_ = T d.to_) → cutD S l = cutD T l
  | [], _ => rfl
  | d :: r, h => by
    have := h d (List.mem_cons_self ..)
    simp only [cutD, this.1, this.2, cutD_congr r (fun x hx => h x (List.mem_cons_of_mem _ hx))]
theorem cutD_bnd (S : Int → Bool) : ∀ l : List Drain, (∀ d ∈ l, 0 ≤ d.width ∧ d.width ≤ 1000) → 0 ≤ cutD S l ∧ cutD S l ≤ 1000 * (l.length : Int)
  | [], _ => ⟨Int.le_refl _, Int.le_refl _⟩
  | d :: r, h => by
    have ih := cutD_bnd S r (fun x hx => h x (List.mem_cons_of_mem _ hx))
    have := h d (List.mem_cons_self ..)
    simp only [cutD, List.length_cons]
    split <;> omega
def cutB (n : Net) (m : Nat) : Bool := inS m n.from_ && !inS m n.to_
def bestC (n : Net) : Nat → Int
  | 0 => -1
  | i + 1 => if cutB n i = true then (if bestC n i < 0 ∨ cutD (inS i) n.drains < bestC n i then cutD (inS i) n.drains else bestC n i) else bestC n i
theorem bestC_spec {n : Net} (hn : Net0 n) : ∀ i, ((∀ j, j < i → cutB n j = false) ∧ bestC n i = -1) ∨ (0 ≤ bestC n i ∧ (∀ j, j < i → cutB n j = true → bestC n i ≤ cutD (inS j) n.drains) ∧ ∃ j, j < i ∧ cutB n j = true ∧ cutD (inS j) n.drains = bestC n i)
  | 0 => .inl ⟨fun j hj => by omega, rfl⟩
  | i + 1 => by
    have ih := bestC_spec hn i
    have hb := (cutD_bnd (inS i) n.drains (fun d hd => by have := hn.dr d hd; omega)).1
    simp only [bestC]
    by_cases hc : cutB n i = true
    · rw [if_pos hc]
      refine .inr ?_
      rcases ih with ⟨h1, h2⟩ | ⟨h1, h2, j, h3, h4, h5⟩
      · rw [if_pos (.inl (by omega))]
        refine ⟨hb, fun j hj hcj => ?_, i, by omega, hc, rfl⟩
        by_cases hji : j = i
        · subst hji; exact Int.le_refl _
        · rw [h1 j (by omega)] at hcj; cases hcj
      · by_cases hlt : cutD (inS i) n.drains < bestC n i
        · rw [if_pos (.inr hlt)]
          refine ⟨hb, fun j hj hcj => ?_, i, by omega, hc, rfl⟩
          by_cases hji : j = i
          · subst hji; exact Int.le_refl _
          · have := h2 j (by omega) hcj; omega
        · rw [if_neg (by omega)]
          refine ⟨h1, fun j hj hcj => ?_, j, by omega, h4, h5⟩
          by_cases hji : j = i
          · subst hji; omega
          · exact h2 j (by omega) hcj
    · rw [if_neg hc]
      rcases ih with ⟨h1, h2⟩ | ⟨h1, h2, j, h3, h4, h5⟩
      · refine .inl ⟨fun j hj => ?_, h2⟩
        by_cases hji : j = i
        · subst hji; simpa using hc
        · exact h1 j (by omega)
      · refine .inr ⟨h1, fun j hj hcj => ?_, j, by omega, h4, h5⟩
        by_cases hji : j = i
        · subst hji; exact absurd hcj hc
        · exact h2 j (by omega) hcj
def mostN (n : Net) : Int := bestC n (2 ^ n.nodes.toNat)
/-- A set as a number, and its width. -/
theorem cut_num {n : Net} (hn : Net0 n) (S : Int → Bool) : ∃ m, m < 2 ^ n.nodes.toNat ∧ (∀ v : Int, 0 ≤ v → v < n.nodes → inS m v = S v) ∧ cutD (inS m) n.drains = cutD S n.drains := by
  obtain ⟨m, h1, h2⟩ := set_of n.nodes.toNat (fun v => S (v : Int))
  have key : ∀ v : Int, 0 ≤ v → v < n.nodes → inS m v = S v := fun v v0 v1 => by
    unfold inS
    rw [h2 v.toNat (by omega), show ((v.toNat : Nat) : Int) = v by omega]
  exact ⟨m, h1, key, cutD_congr _ fun d hd => by have := hn.dr d hd; exact ⟨key _ this.1.1 this.1.2, key _ this.2.1.1 this.2.1.2⟩⟩
theorem most_le {n : Net} (hn : Net0 n) {S : Int → Bool} (h1 : S n.from_ = true) (h2 : S n.to_ = false) : mostN n ≤ cutD S n.drains := by
  obtain ⟨m, m1, m2, m3⟩ := cut_num hn S
  have hc : cutB n m = true := by
    unfold cutB
    rw [m2 _ hn.s0.1 hn.s0.2, m2 _ hn.t0.1 hn.t0.2, h1, h2]; rfl
  rcases bestC_spec hn (2 ^ n.nodes.toNat) with ⟨h3, _⟩ | ⟨_, h3, _⟩
  · rw [h3 m m1] at hc; cases hc
  · have := h3 m m1 hc
    rw [m3] at this; exact this
theorem most_at {n : Net} (hn : Net0 n) : ∃ S : Int → Bool, S n.from_ = true ∧ S n.to_ = false ∧ cutD S n.drains = mostN n := by
  obtain ⟨m, m1, m2, m3⟩ := cut_num hn (fun v => decide (v = n.from_))
  have hne := hn.ne
  have hc : cutB n m = true := by
    unfold cutB
    rw [m2 _ hn.s0.1 hn.s0.2, m2 _ hn.t0.1 hn.t0.2]; simp; omega
  rcases bestC_spec hn (2 ^ n.nodes.toNat) with ⟨h3, _⟩ | ⟨_, _, j, j1, j2, j3⟩
  · rw [h3 m m1] at hc; cases hc
  · unfold cutB at j2
    simp only [Bool.and_eq_true, Bool.not_eq_true'] at j2
    exact ⟨inS j, j2.1, j2.2, j3⟩
theorem maxed_val {n : Net} (hn : Net0 n) {l : List Left} (h : Maxed n l) : out (Eds l) n.from_ = mostN n := by
  obtain ⟨hf, S, s1, s2, s3, _⟩ := h
  have hs : 0 ≤ n.from_ ∧ n.from_ < ((n.nodes.toNat : Nat) : Int) := by have := hn.s0; omega
  have h1 : out (Eds l) n.from_ = cutW S (Eds l) := (tight_iff hf.flow hs s1 s2).2 ((closed_tight hf.flow.cap).1 s3)
  rw [cutW_eds, hf.drains] at h1
  have h2 := most_le hn s1 s2
  obtain ⟨T, t1, t2, t3⟩ := most_at hn
  have h3 := weak hf.flow hs t1 t2
  rw [cutW_eds, hf.drains, t3] at h3
  omega
theorem maxed_bnd {n : Net} {l : List Left} (h : Maxed n l) : FBnd (l.map Left.runs) := fun x hx => by
  obtain ⟨d, hd, rfl⟩ := List.mem_map.1 hx
  have := h.1.caps d hd
  omega
theorem maxed_len {n : Net} {l : List Left} (h : Maxed n l) : l.length = n.drains.length := by
  have := congrArg List.length h.1.drains
  simpa using this
theorem most_eq {n : Net} (hn : Net0 n) : drain_most n = some (mostN n) := by
  obtain ⟨l, l1, l2⟩ := run_eq hn
  have hl := hn.len
  have hll := maxed_len l2
  unfold drain_most
  rw [bnd_eq l1, bnd_eq (flowOf_eq (by omega)), bnd_eq (value_eq (by simpa using hll) (by omega) (maxed_bnd l2) _), ← flowL_en l2.1.drains, maxed_val hn l2]
end Go.D2

set_option linter.unusedVariables false
set_option linter.unusedSimpArgs false
namespace Go.D2
open Go.Tb
def gi (l : List Int) (i : Nat) : Int := l.getD i 0
theorem gi_at {l : List Int} {i : Nat} (h : i < l.length) : l[i]? = some (gi l i) := by simp [gi, List.getD, h]
def gd_ (l : List Drain) (i : Nat) : Drain := l.getD i ⟨0, 0, 0⟩
theorem gd_at {l : List Drain} {i : Nat} (h : i < l.length) : l[i]? = some (gd_ l i) := by simp [gd_, List.getD, h]
theorem Long_eq (n : Net) : law02_Long n = some (decide ((100 : Int) < (n.drains.length : Int))) := rfl
end Go.D2

set_option linter.unusedVariables false
set_option linter.unusedSimpArgs false
namespace Go.D2
open Go.Tb
def mem (l : List Int) (x : Int) : Bool := decide (x ∈ l)
end Go.D2

set_option linter.unusedVariables false
set_option linter.unusedSimpArgs false
namespace Go.D2
open Go.Tb
def nodesOf (n : Nat) (p : Int → Bool) : List Int := ((List.range n).map (fun (i : Nat) => (i : Int))).filter p
theorem nodesOf_len (n : Nat) (p : Int → Bool) : (nodesOf n p).length ≤ n := by
  unfold nodesOf
  refine Nat.le_trans (List.length_filter_le _ _) ?_
  simp
theorem nodesOf_succ (n : Nat) (p : Int → Bool) : nodesOf (n + 1) p = nodesOf n p ++ (if p (n : Int) = true then [(n : Int)] else []) := by
  unfold nodesOf
  rw [List.range_succ, List.map_append, List.filter_append]
  congr 1
  by_cases h : p (n : Int) = true
  · rw [if_pos h]; simp [h]
  · rw [if_neg h]; simp [h]
theorem nodes_eq {n : Net} (hn : Net0 n) {f : Int → Option Bool} {p : Int → Bool} (hf : ∀ v : Int, 0 ≤ v → v < n.nodes → f v = some (p v)) : drain_nodes n f = some (nodesOf n.nodes.toNat p) := by
  have h2 := hn.n2
  have h8 := hn.n8
  unfold drain_nodes
  refine for0 n.nodes.toNat (fun i => nodesOf i p) (fun k s i => drain_nodes_L1 n f k i s) _ rfl (fun k i hi => ?_) (fun k => ?_) (by omega)
  · have hl := nodesOf_len i p
    show drain_nodes_B1 n f (drain_nodes_L1 n f k) _ _ = _
    unfold drain_nodes_B1 drain_nodes_k2
    rw [if_pos (by omega), bnd_eq (hf _ (by omega) (by omega)), nodesOf_succ]
    by_cases h : p (i : Int) = true
    · rw [if_pos h, if_pos h, gd_pos (by simp; omega), gd_pos (by omega)]; rfl
    · rw [if_neg h, if_neg h, gd_pos (by omega), List.append_nil]; rfl
  · show drain_nodes_B1 n f (drain_nodes_L1 n f k) _ _ = _
    unfold drain_nodes_B1
    rw [if_neg (by omega)]; rfl
def narrow (n : Net) (i : Nat) : Bool := cutB n i && decide (cutD (inS i) n.drains = mostN n)
def andN (n : Net) : Nat → Nat
  | 0 => 2 ^ n.nodes.toNat - 1
  | i + 1 => if narrow n i = true then andN n i &&& i else andN n i
def orN (n : Net) : Nat → Nat
  | 0 => 0
  | i + 1 => if narrow n i = true then orN n i ||| i else orN n i
theorem andN_bit {n : Net} {v : Nat} (hv : v < n.nodes.toNat) : ∀ i, (andN n i).testBit v = true ↔ ∀ j, j < i → narrow n j = true → j.testBit v = true
  | 0 => by simp [andN, Nat.testBit_two_pow_sub_one, hv]
  | i + 1 => by
    have ih := andN_bit (n := n) hv i
    simp only [andN]
    by_cases h : narrow n i = true
    · rw [if_pos h, Nat.testBit_and, Bool.and_eq_true, ih]
      constructor
      · rintro ⟨h1, h2⟩ j hj hn
        by_cases hji : j = i
        · subst hji; exact h2
        · exact h1 j (by omega) hn
      · intro h1
        exact ⟨fun j hj => h1 j (by omega), h1 i (by omega) h⟩
    · rw [if_neg h, ih]
      constructor
      · intro h1 j hj hn
        by_cases hji : j = i
        · subst hji; exact absurd hn h
        · exact h1 j (by omega) hn
      · intro h1 j hj; exact h1 j (by omega)
theorem orN_bit {n : Net} {v : Nat} : ∀ i, (orN n i).testBit v = true ↔ ∃ j, j < i ∧ narrow n j = true ∧ j.testBit v = true
  | 0 => by simp [orN]
  | i + 1 => by
    have ih := orN_bit (n := n) (v := v) i
    simp only [orN]
    by_cases h : narrow n i = true
    · rw [if_pos h, Nat.testBit_or, Bool.or_eq_true, ih]
      constructor
      · rintro (⟨j, h1, h2⟩ | h1)
        · exact ⟨j, by omega, h2⟩
        · exact ⟨i, by omega, h, h1⟩
      · rintro ⟨j, h1, h2, h3⟩
        by_cases hji : j = i
        · subst hji; exact .inr h3
        · exact .inl ⟨j, by omega, h2, h3⟩
    · rw [if_neg h, ih]
      constructor
      · rintro ⟨j, h1, h2⟩; exact ⟨j, by omega, h2⟩
      · rintro ⟨j, h1, h2, h3⟩
        by_cases hji : j = i
        · subst hji; exact absurd h2 h
        · exact ⟨j, by omega, h2, h3⟩
def least (n : Net) : List Int := nodesOf n.nodes.toNat (inS (andN n (2 ^ n.nodes.toNat)))
def greatest (n : Net) : List Int := nodesOf n.nodes.toNat (inS (orN n (2 ^ n.nodes.toNat)))
theorem sp_reach {E : List Ed} : ∀ (ks : List Nat) (vis : List Int) (u v : Int), SP E vis u ks v → Reach E u v
  | [], vis, u, v, h => by have h : u = v := h; subst h; exact .here
  | i :: r, vis, u, v, h => by
    obtain ⟨e, he, hu, hp, hn, hr⟩ := h
    exact reach_other (List.mem_of_getElem? he) hu hp (sp_reach r _ _ _ hr)
/-- A cut is narrowest exactly if nothing more can leave it. -/
theorem closed_iff {n : Net} (hn : Net0 n) {l : List Left} (h : Maxed n l) {S : Int → Bool} (h1 : S n.from_ = true) (h2 : S n.to_ = false) : cutD S n.drains = mostN n ↔ Closed S (Eds l) := by
  have hs : 0 ≤ n.from_ ∧ n.from_ < ((n.nodes.toNat : Nat) : Int) := by have := hn.s0; omega
  rw [closed_tight h.1.flow.cap, ← tight_iff h.1.flow hs h1 h2, maxed_val hn h, cutW_eds, h.1.drains]
  exact ⟨fun e => e.symm, fun e => e.symm⟩
theorem closed_num {n : Net} (hn : Net0 n) {l : List Left} (h : Maxed n l) {S : Int → Bool} (h1 : S n.from_ = true) (h2 : S n.to_ = false) (hc : Closed S (Eds l)) : ∃ j, j < 2 ^ n.nodes.toNat ∧ narrow n j = true ∧ ∀ v : Int, 0 ≤ v → v < n.nodes → inS j v = S v := by
  obtain ⟨j, j1, j2, j3⟩ := cut_num hn S
  refine ⟨j, j1, ?_, j2⟩
  unfold narrow cutB
  rw [j2 _ hn.s0.1 hn.s0.2, j2 _ hn.t0.1 hn.t0.2, h1, h2, decide_eq_true (j3.trans ((closed_iff hn h h1 h2).2 hc))]; rfl
theorem narrow_cl {n : Net} (hn : Net0 n) {l : List Left} (h : Maxed n l) {j : Nat} (hj : narrow n j = true) : inS j n.from_ = true ∧ inS j n.to_ = false ∧ Closed (inS j) (Eds l) := by
  unfold narrow cutB at hj
  simp only [Bool.and_eq_true, Bool.not_eq_true', decide_eq_true_eq] at hj
  exact ⟨hj.1.1, hj.1.2, (closed_iff hn h hj.1.1 hj.1.2).1 hj.2⟩
/-- Where the program's search gets to. -/
theorem least_key {n : Net} (hn : Net0 n) {l : List Left} (h : Maxed n l) {v : Int} (hv : 0 ≤ v ∧ v < n.nodes) : inS (andN n (2 ^ n.nodes.toNat)) v = true ↔ Reach (Eds l) n.from_ v := by
  unfold inS
  rw [andN_bit (by omega)]
  constructor
  · intro hall
    have h' := h
    obtain ⟨_, S, s1, s2, s3, s4⟩ := h'
    obtain ⟨j, j1, j2, j3⟩ := closed_num hn h s1 s2 s3
    have := hall j j1 j2
    exact s4 v (by rw [← j3 v hv.1 hv.2]; exact this)
  · intro hr j _ hj
    obtain ⟨c1, c2, c3⟩ := narrow_cl hn h hj
    exact hr.sub c3 c1
theorem least_at {n : Net} (hn : Net0 n) {l : List Left} (h : Maxed n l) {v : Int} (hv : 0 ≤ v ∧ v < n.nodes) : drain_Least_1 n l v = some (inS (andN n (2 ^ n.nodes.toNat)) v) := by
  have h2 := hn.n2
  have key := least_key hn h hv
  unfold drain_Least_1
  by_cases e : v = n.from_
  · rw [if_pos e, key.2 (by rw [e]; exact .here)]
  · rw [if_neg e]
    rcases search_eq hn h.1 (s := n.from_) (t := v) hn.s0 (fun x => e x.symm) with ⟨ks, k1, _, k3, k4⟩ | ⟨k1, S, s1, s2, s3, s4⟩
    · rw [bnd_eq k3, key.2 (sp_reach _ _ _ _ k4), decide_eq_false (by unfold ints; simpa using k1)]; rfl
    · rw [bnd_eq k1]
      have : ¬ inS (andN n (2 ^ n.nodes.toNat)) v = true := fun hc => by
        have := (key.1 hc).sub s3 s1
        rw [s2] at this; cases this
      rw [decide_eq_true rfl]
      cases hq : inS (andN n (2 ^ n.nodes.toNat)) v
      · rfl
      · exact absurd hq this
open Classical in
theorem greatest_cl {n : Net} (hn : Net0 n) {l : List Left} (h : Maxed n l) : ∃ S : Int → Bool, S n.from_ = true ∧ S n.to_ = false ∧ Closed S (Eds l) ∧ ∀ v, S v = true ↔ ¬ Coreach (Eds l) n.to_ v := by
  refine ⟨fun v => decide (¬ Coreach (Eds l) n.to_ v), ?_, ?_, fun e he => ⟨fun h1 h2 => ?_, fun h1 h2 => ?_⟩, fun v => by simp⟩
  · obtain ⟨_, S, s1, s2, s3, s4⟩ := h
    simp only [decide_eq_true_eq]
    intro hc
    have := hc.reach.sub s3 s1
    rw [s2] at this; cases this
  · simp only [decide_eq_false_iff_not, Decidable.not_not]
    exact .here
  · simp only [decide_eq_true_eq] at h1 ⊢
    exact fun hc => h1 (.on he hc h2)
  · simp only [decide_eq_true_eq] at h1 ⊢
    exact fun hc => h1 (.back he hc h2)
theorem greatest_key {n : Net} (hn : Net0 n) {l : List Left} (h : Maxed n l) {v : Int} (hv : 0 ≤ v ∧ v < n.nodes) : inS (orN n (2 ^ n.nodes.toNat)) v = true ↔ ¬ Coreach (Eds l) n.to_ v := by
  unfold inS
  rw [orN_bit]
  constructor
  · rintro ⟨j, _, hj, hb⟩ hr
    obtain ⟨c1, c2, c3⟩ := narrow_cl hn h hj
    have : inS j v = false := hr.sub c3 c2
    unfold inS at this
    rw [hb] at this; cases this
  · intro hr
    obtain ⟨S, s1, s2, s3, s4⟩ := greatest_cl hn h
    obtain ⟨j, j1, j2, j3⟩ := closed_num hn h s1 s2 s3
    exact ⟨j, j1, j2, (j3 v hv.1 hv.2).trans ((s4 v).2 hr)⟩
theorem greatest_at {n : Net} (hn : Net0 n) {l : List Left} (h : Maxed n l) {v : Int} (hv : 0 ≤ v ∧ v < n.nodes) : drain_Greatest_1 n l v = some (inS (orN n (2 ^ n.nodes.toNat)) v) := by
  have h2 := hn.n2
  have key := greatest_key hn h hv
  unfold drain_Greatest_1
  by_cases e : v = n.to_
  · rw [if_pos e]
    cases hq : inS (orN n (2 ^ n.nodes.toNat)) v
    · rfl
    · exact absurd (by rw [e]; exact Coreach.here) (key.1 hq)
  · rw [if_neg e]
    rcases search_eq hn h.1 (s := v) (t := n.to_) hv e with ⟨ks, k1, _, k3, k4⟩ | ⟨k1, S, s1, s2, s3, s4⟩
    · rw [bnd_eq k3]
      have : ¬ inS (orN n (2 ^ n.nodes.toNat)) v = true := fun hc => key.1 hc (sp_reach _ _ _ _ k4).co
      rw [decide_eq_false (by unfold ints; simpa using k1)]
      cases hq : inS (orN n (2 ^ n.nodes.toNat)) v
      · rfl
      · exact absurd hq this
    · rw [bnd_eq k1, decide_eq_true rfl, key.2 (fun hc => by
        have := hc.reach.sub s3 s1
        rw [s2] at this; cases this)]
theorem Least_eq {n : Net} (hl : n.drains.length ≤ 1000) : drain_Least n = some (if validate n = 0 then (least n, 0) else ([], validate n)) := by
  unfold drain_Least
  rw [bnd_eq (Validate_eq hl)]
  by_cases hv : validate n = 0
  · have hn := val0.1 hv
    obtain ⟨l, l1, l2⟩ := run_eq hn.toNet0
    rw [if_pos hv, if_pos hv, bnd_eq l1, bnd_eq (nodes_eq hn.toNet0 (fun v v0 v1 => least_at hn.toNet0 l2 ⟨v0, v1⟩))]; rfl
  · rw [if_neg hv, if_neg hv]
theorem Greatest_eq {n : Net} (hl : n.drains.length ≤ 1000) : drain_Greatest n = some (if validate n = 0 then (greatest n, 0) else ([], validate n)) := by
  unfold drain_Greatest
  rw [bnd_eq (Validate_eq hl)]
  by_cases hv : validate n = 0
  · have hn := val0.1 hv
    obtain ⟨l, l1, l2⟩ := run_eq hn.toNet0
    rw [if_pos hv, if_pos hv, bnd_eq l1, bnd_eq (nodes_eq hn.toNet0 (fun v v0 v1 => greatest_at hn.toNet0 l2 ⟨v0, v1⟩))]; rfl
  · rw [if_neg hv, if_neg hv]
end Go.D2

set_option linter.unusedVariables false
set_option linter.unusedSimpArgs false
namespace Go.D2
open Go.Tb
/-- The least and the greatest narrowest cut are narrowest cuts. -/
theorem least_ok {n : Net} (hn : Net0 n) : inS (andN n (2 ^ n.nodes.toNat)) n.from_ = true ∧ inS (andN n (2 ^ n.nodes.toNat)) n.to_ = false ∧ cutD (inS (andN n (2 ^ n.nodes.toNat))) n.drains = mostN n := by
  obtain ⟨l, _, h⟩ := run_eq hn
  have h' := h
  obtain ⟨_, S, s1, s2, s3, s4⟩ := h'
  have key : ∀ v : Int, 0 ≤ v → v < n.nodes → inS (andN n (2 ^ n.nodes.toNat)) v = S v := fun v v0 v1 => by
    rw [Bool.eq_iff_iff, least_key hn h ⟨v0, v1⟩]
    exact ⟨fun hr => hr.sub s3 s1, s4 v⟩
  refine ⟨(key _ hn.s0.1 hn.s0.2).trans s1, (key _ hn.t0.1 hn.t0.2).trans s2, ?_⟩
  rw [cutD_congr (T := S) _ fun d hd => by have := hn.dr d hd; exact ⟨key _ this.1.1 this.1.2, key _ this.2.1.1 this.2.1.2⟩]
  exact (closed_iff hn h s1 s2).2 s3
theorem greatest_ok {n : Net} (hn : Net0 n) : inS (orN n (2 ^ n.nodes.toNat)) n.from_ = true ∧ inS (orN n (2 ^ n.nodes.toNat)) n.to_ = false ∧ cutD (inS (orN n (2 ^ n.nodes.toNat))) n.drains = mostN n := by
  obtain ⟨l, _, h⟩ := run_eq hn
  obtain ⟨S, s1, s2, s3, s4⟩ := greatest_cl hn h
  have key : ∀ v : Int, 0 ≤ v → v < n.nodes → inS (orN n (2 ^ n.nodes.toNat)) v = S v := fun v v0 v1 => by
    rw [Bool.eq_iff_iff, greatest_key hn h ⟨v0, v1⟩]
    exact (s4 v).symm
  refine ⟨(key _ hn.s0.1 hn.s0.2).trans s1, (key _ hn.t0.1 hn.t0.2).trans s2, ?_⟩
  rw [cutD_congr (T := S) _ fun d hd => by have := hn.dr d hd; exact ⟨key _ this.1.1 this.1.2, key _ this.2.1.1 this.2.1.2⟩]
  exact (closed_iff hn h s1 s2).2 s3
theorem mem_nodesOf {k : Nat} {p : Int → Bool} {v : Int} (h : 0 ≤ v ∧ v < k) : mem (nodesOf k p) v = p v := by
  unfold mem nodesOf
  rw [Bool.eq_iff_iff, decide_eq_true_eq, List.mem_filter]
  constructor
  · exact fun h => h.2
  · intro hp
    refine ⟨List.mem_map.2 ⟨v.toNat, ?_, ?_⟩, hp⟩
    · rw [List.mem_range]; omega
    · omega
end Go.D2

set_option linter.unusedVariables false
set_option linter.unusedSimpArgs false
namespace Go.D2
open Go.Tb
def withW (d : Drain) (w : Int) : Drain := ⟨d.from_, d.to_, w⟩
def chg (n : Net) (i : Nat) (w : Int) : Net := ⟨n.nodes, n.from_, n.to_, n.drains.set i (withW (gd_ n.drains i) w)⟩
theorem changed_eq {n : Net} (hl : n.drains.length ≤ 1000) {i : Nat} (hi : i < n.drains.length) (w : Int) : drain_changed n i w = some (chg n i w) := by
  unfold drain_changed
  have h : slices_Clone_Drain n.drains = some n.drains := by
    unfold slices_Clone_Drain
    rw [gd_pos (by simp; omega)]; rfl
  rw [bnd_eq h, ix_nat (gd_at hi)]; rfl
theorem chg_net0 {n : Net} (hn : Net0 n) {i : Nat} (hi : i < n.drains.length) {w : Int} (hw : 0 ≤ w ∧ w ≤ 1000) : Net0 (chg n i w) :=
  { n2 := hn.n2, n8 := hn.n8, s0 := hn.s0, t0 := hn.t0, ne := hn.ne, len := by show (n.drains.set i _).length ≤ 16; rw [List.length_set]; exact hn.len
    dr := fun d hd => by
      rcases List.mem_or_eq_of_mem_set hd with h | rfl
      · exact hn.dr d h
      · have := hn.dr _ (List.mem_of_getElem? (gd_at hi))
        exact ⟨this.1, this.2.1, this.2.2.1, hw⟩ }
theorem cutD_set {S : Int → Bool} {d : Drain} {w : Int} : ∀ {l : List Drain} {i : Nat}, l[i]? = some d → cutD S (l.set i (withW d w)) = cutD S l + (if S d.from_ = true ∧ S d.to_ = false then w - d.width else 0)
  | [], i, h => by simp at h
  | x :: r, 0, h => by
    simp at h; subst h
    simp only [List.set_cons_zero, cutD, withW]
    split <;> omega
  | x :: r, i + 1, h => by
    have := cutD_set (S := S) (d := d) (w := w) (l := r) (i := i) (by simpa using h)
    simp only [List.set_cons_succ, cutD, this]; omega
theorem cutD_chg {n : Net} {S : Int → Bool} {i : Nat} (hi : i < n.drains.length) (w : Int) : cutD S (chg n i w).drains = cutD S n.drains + (if S (gd_ n.drains i).from_ = true ∧ S (gd_ n.drains i).to_ = false then w - (gd_ n.drains i).width else 0) := cutD_set (gd_at hi)
/-- A drain that leaves a narrowest cut is critical. -/
theorem leaves_crit {n : Net} (hn : Net0 n) {i : Nat} (hi : i < n.drains.length) {S : Int → Bool} (h1 : S n.from_ = true) (h2 : S n.to_ = false) (h3 : cutD S n.drains = mostN n)
    (hl : S (gd_ n.drains i).from_ = true ∧ S (gd_ n.drains i).to_ = false) (hw : 0 < (gd_ n.drains i).width) : mostN (chg n i ((gd_ n.drains i).width - 1)) < mostN n := by
  have hd := hn.dr _ (List.mem_of_getElem? (gd_at hi))
  have h := most_le (chg_net0 hn hi (w := (gd_ n.drains i).width - 1) (by omega)) (S := S) h1 h2
  rw [cutD_chg hi, if_pos hl] at h
  omega
theorem wanted_leaves {n : Net} (hn : Net0 n) {i : Nat} (hi : i < n.drains.length) (h20 : (gd_ n.drains i).width ≤ 20) {S : Int → Bool} (h1 : S n.from_ = true) (h2 : S n.to_ = false) (h3 : cutD S n.drains = mostN n)
    (hm : mostN n < mostN (chg n i ((gd_ n.drains i).width + 1))) : S (gd_ n.drains i).from_ = true ∧ S (gd_ n.drains i).to_ = false := by
  have hd := hn.dr _ (List.mem_of_getElem? (gd_at hi))
  have h := most_le (chg_net0 hn hi (w := (gd_ n.drains i).width + 1) (by omega)) (S := S) h1 h2
  rw [cutD_chg hi] at h
  split at h
  · assumption
  · omega
theorem those_eq {n : Net} (hl : n.drains.length ≤ 1000) {f : Int → Option Bool} {p : Int → Bool} (hf : ∀ i : Nat, i < n.drains.length → f (i : Int) = some (p i)) : drain_those n f = some (nodesOf n.drains.length p) := by
  unfold drain_those
  refine for0 n.drains.length (fun i => nodesOf i p) (fun k s i => drain_those_L1 n f k i s) _ rfl (fun k i hi => ?_) (fun k => ?_) (by omega)
  · have hll := nodesOf_len i p
    show drain_those_B1 n f (drain_those_L1 n f k) _ _ = _
    unfold drain_those_B1 drain_those_k2
    rw [if_pos (by omega), bnd_eq (hf _ hi), nodesOf_succ]
    by_cases h : p (i : Int) = true
    · rw [if_pos h, if_pos h, gd_pos (by simp; omega), gd_pos (by omega)]; rfl
    · rw [if_neg h, if_neg h, gd_pos (by omega), List.append_nil]; rfl
  · show drain_those_B1 n f (drain_those_L1 n f k) _ _ = _
    unfold drain_those_B1
    rw [if_neg (by omega)]; rfl
def wantP (n : Net) (v : Int) : Bool := decide (mostN n < mostN (chg n v.toNat ((gd_ n.drains v.toNat).width + 1)))
def critP (n : Net) (v : Int) : Bool := decide (0 < (gd_ n.drains v.toNat).width) && decide (mostN (chg n v.toNat ((gd_ n.drains v.toNat).width - 1)) < mostN n)
def listR (n : Net) (p : Int → Bool) : List Int × Int := if validate n = 0 then (nodesOf n.drains.length p, 0) else ([], validate n)
theorem Wanted_eq {n : Net} (hl : n.drains.length ≤ 1000) : drain_Wanted n = some (listR n (wantP n)) := by
  unfold drain_Wanted listR
  rw [bnd_eq (Validate_eq hl)]
  by_cases hv : validate n = 0
  · have hn := val0.1 hv
    rw [if_pos hv, if_pos hv, bnd_eq (most_eq hn.toNet0), bnd_eq (those_eq hl (p := wantP n) fun i hi => ?_)]
    have hd := hn.dr _ (List.mem_of_getElem? (gd_at hi))
    unfold drain_Wanted_1 wantP
    rw [ix_nat (gd_at hi), gd_pos (by omega), bnd_eq (changed_eq hl hi _), bnd_eq (most_eq (chg_net0 hn.toNet0 hi (by have := hn.w20 _ (List.mem_of_getElem? (gd_at hi)); omega)))]; rfl
  · rw [if_neg hv, if_neg hv]
theorem Critical_eq {n : Net} (hl : n.drains.length ≤ 1000) : drain_Critical n = some (listR n (critP n)) := by
  unfold drain_Critical listR
  rw [bnd_eq (Validate_eq hl)]
  by_cases hv : validate n = 0
  · have hn := val0.1 hv
    rw [if_pos hv, if_pos hv, bnd_eq (most_eq hn.toNet0), bnd_eq (those_eq hl (p := critP n) fun i hi => ?_)]
    have hd := hn.dr _ (List.mem_of_getElem? (gd_at hi))
    unfold drain_Critical_1 critP
    rw [ix_nat (gd_at hi)]
    simp only [Int.toNat_natCast]
    by_cases h : 0 < (gd_ n.drains i).width
    · rw [if_pos h, gd_pos (by omega), bnd_eq (changed_eq hl hi _), bnd_eq (most_eq (chg_net0 hn.toNet0 hi (by omega))), decide_eq_true h]; rfl
    · rw [if_neg h, decide_eq_false h]; rfl
  · rw [if_neg hv, if_neg hv]
theorem has_eq {l : List Int} (x : Int) (hl : l.length ≤ 1000) : law02_has l x = some (mem l x) := by
  unfold law02_has
  have h := list_loop0 l (fun y => !decide (y = x)) (law02_has_L1 l x) (some false) (some true) (fun k i y hy => ?_) (fun k => ?_) (by omega)
  · refine Eq.trans h ?_
    unfold mem
    by_cases hm : x ∈ l
    · rw [decide_eq_true hm, if_neg]
      intro hc
      have := List.all_eq_true.1 hc x hm
      simp at this
    · rw [decide_eq_false hm, if_pos]
      refine List.all_eq_true.2 fun y hy => ?_
      simp only [Bool.not_eq_true', decide_eq_false_iff_not]
      intro e; subst e; exact hm hy
  · have := lt_of_at hy
    show law02_has_B1 l x (law02_has_L1 l x k) _ = _
    unfold law02_has_B1
    rw [if_pos (by omega), ix_nat hy]
    by_cases h : y = x
    · rw [if_pos h, if_neg (by simp [h])]
    · rw [if_neg h, gd_pos (by omega), if_pos (by simp [h])]; rfl
  · show law02_has_B1 l x (law02_has_L1 l x k) _ = _
    unfold law02_has_B1
    rw [if_neg (by omega)]; rfl
end Go.D2

set_option linter.unusedVariables false
set_option linter.unusedSimpArgs false
namespace Go.D2
open Go.Tb
theorem mem_take {l : List Int} {x y : Int} {i : Nat} (h : l[i]? = some y) : mem (l.take (i + 1)) x = (mem (l.take i) x || decide (y = x)) := by
  unfold mem
  rw [Bool.eq_iff_iff, List.take_add_one, h]
  simp only [decide_eq_true_eq, Bool.or_eq_true, List.mem_append, Option.toList_some, List.mem_singleton]
  exact ⟨fun h => h.imp id Eq.symm, fun h => h.imp id Eq.symm⟩
theorem leaves_eq {l : List Int} (d : Drain) (hl : l.length ≤ 1000) : law02_leaves d l = some (mem l d.from_ && !mem l d.to_) := by
  unfold law02_leaves
  refine Eq.trans (for0 l.length (fun i => (mem (l.take i) d.from_, mem (l.take i) d.to_)) (fun k s i => law02_leaves_L1 d l k s.1 s.2 i) (some (mem l d.from_ && !mem l d.to_)) (s0 := (false, false)) rfl (fun k i hi => ?_) (fun k => ?_) (by omega)) rfl
  · have hx : l[i]? = some (gi l i) := gi_at hi
    show law02_leaves_B1 d l (law02_leaves_L1 d l k) _ _ _ = _
    unfold law02_leaves_B1 law02_leaves_k3 law02_leaves_k2
    rw [if_pos (by omega)]
    simp only
    rw [mem_take hx, mem_take hx]
    cases mem (l.take i) d.from_
    · rw [if_neg (by simp), ix_nat hx]
      cases mem (l.take i) d.to_
      · rw [if_neg (by simp), ix_nat hx, gd_pos (by omega)]; rfl
      · rw [if_pos rfl, gd_pos (by omega)]; rfl
    · rw [if_pos rfl]
      cases mem (l.take i) d.to_
      · rw [if_neg (by simp), ix_nat hx, gd_pos (by omega)]; rfl
      · rw [if_pos rfl, gd_pos (by omega)]; rfl
  · show law02_leaves_B1 d l (law02_leaves_L1 d l k) _ _ _ = _
    unfold law02_leaves_B1 law02_leaves_k1
    rw [if_neg (by omega), List.take_length]
    cases mem l d.from_ <;> rfl
theorem law_DrainLeaves (n : Net) (hb : n.drains.length ≤ 9223372036854775807) : law02_DrainLeaves n = some true := by
  unfold law02_DrainLeaves
  rw [bnd_eq (Long_eq n)]
  by_cases hL : (100 : Int) < (n.drains.length : Int)
  · rw [if_pos (by simpa using hL), bnd_eq known_eq]
  · have hl : n.drains.length ≤ 1000 := by omega
    rw [if_neg (by simpa using hL), bnd_eq (Least_eq hl), bnd_eq (Greatest_eq hl), bnd_eq (Critical_eq hl), bnd_eq (Wanted_eq hl)]
    by_cases hv : validate n = 0
    · have hn := val0.1 hv
      have h8 := hn.n8
      have a := least_ok hn.toNet0
      have b := greatest_ok hn.toNet0
      have l1 : (least n).length ≤ n.nodes.toNat := nodesOf_len _ _
      have l2 : (greatest n).length ≤ n.nodes.toNat := nodesOf_len _ _
      have l3 := nodesOf_len n.drains.length (critP n)
      have l4 := nodesOf_len n.drains.length (wantP n)
      have e1 : listR n (critP n) = (nodesOf n.drains.length (critP n), 0) := if_pos hv
      have e2 : listR n (wantP n) = (nodesOf n.drains.length (wantP n), 0) := if_pos hv
      rw [e1, e2, if_pos hv, if_pos hv, if_pos rfl, if_pos rfl, if_pos rfl]
      unfold law02_DrainLeaves_k4
      rw [if_neg (by simp)]
      refine Eq.trans (for0 n.drains.length (fun _ => ()) (fun k _ i => law02_DrainLeaves_L1 n (least n, 0) (greatest n, 0) (nodesOf n.drains.length (critP n), 0) (nodesOf n.drains.length (wantP n), 0) k i) (some true) rfl (fun k i hi => ?_) (fun k => ?_) (by omega)) rfl
      · have hx : n.drains[i]? = some (gd_ n.drains i) := gd_at hi
        have hd := hn.dr _ (List.mem_of_getElem? hx)
        have h20 := hn.w20 _ (List.mem_of_getElem? hx)
        show law02_DrainLeaves_B1 n (least n, 0) (greatest n, 0) (nodesOf n.drains.length (critP n), 0) (nodesOf n.drains.length (wantP n), 0) (law02_DrainLeaves_L1 n (least n, 0) (greatest n, 0) (nodesOf n.drains.length (critP n), 0) (nodesOf n.drains.length (wantP n), 0) k) _ = law02_DrainLeaves_L1 n (least n, 0) (greatest n, 0) (nodesOf n.drains.length (critP n), 0) (nodesOf n.drains.length (wantP n), 0) k ((i + 1 : Nat) : Int)
        generalize hR : law02_DrainLeaves_L1 n (least n, 0) (greatest n, 0) (nodesOf n.drains.length (critP n), 0) (nodesOf n.drains.length (wantP n), 0) k = R
        have q1 : law02_leaves (gd_ n.drains i) (least n) = some (inS (andN n (2 ^ n.nodes.toNat)) (gd_ n.drains i).from_ && !inS (andN n (2 ^ n.nodes.toNat)) (gd_ n.drains i).to_) := by
          rw [leaves_eq _ (by omega)]
          unfold least
          rw [mem_nodesOf (by omega), mem_nodesOf (by omega)]
        have q2 : law02_leaves (gd_ n.drains i) (greatest n) = some (inS (orN n (2 ^ n.nodes.toNat)) (gd_ n.drains i).from_ && !inS (orN n (2 ^ n.nodes.toNat)) (gd_ n.drains i).to_) := by
          rw [leaves_eq _ (by omega)]
          unfold greatest
          rw [mem_nodesOf (by omega), mem_nodesOf (by omega)]
        have q3 : law02_has (nodesOf n.drains.length (critP n)) (i : Int) = some (critP n i) := by
          rw [has_eq _ (by omega), mem_nodesOf (by omega)]
        have q4 : law02_has (nodesOf n.drains.length (wantP n)) (i : Int) = some (wantP n i) := by
          rw [has_eq _ (by omega), mem_nodesOf (by omega)]
        have c1 : 0 < (gd_ n.drains i).width → (inS (andN n (2 ^ n.nodes.toNat)) (gd_ n.drains i).from_ && !inS (andN n (2 ^ n.nodes.toNat)) (gd_ n.drains i).to_) = true → critP n i = true := fun hw h => by
          simp only [Bool.and_eq_true, Bool.not_eq_true'] at h
          unfold critP
          rw [Int.toNat_natCast, decide_eq_true hw, decide_eq_true (leaves_crit hn.toNet0 hi a.1 a.2.1 a.2.2 h hw)]; rfl
        have c2 : 0 < (gd_ n.drains i).width → (inS (orN n (2 ^ n.nodes.toNat)) (gd_ n.drains i).from_ && !inS (orN n (2 ^ n.nodes.toNat)) (gd_ n.drains i).to_) = true → critP n i = true := fun hw h => by
          simp only [Bool.and_eq_true, Bool.not_eq_true'] at h
          unfold critP
          rw [Int.toNat_natCast, decide_eq_true hw, decide_eq_true (leaves_crit hn.toNet0 hi b.1 b.2.1 b.2.2 h hw)]; rfl
        have c3 : wantP n i = true → (inS (andN n (2 ^ n.nodes.toNat)) (gd_ n.drains i).from_ && !inS (andN n (2 ^ n.nodes.toNat)) (gd_ n.drains i).to_) = true := fun h => by
          have := wanted_leaves hn.toNet0 hi h20 a.1 a.2.1 a.2.2 (of_decide_eq_true h)
          rw [this.1, this.2]; rfl
        have c4 : wantP n i = true → (inS (orN n (2 ^ n.nodes.toNat)) (gd_ n.drains i).from_ && !inS (orN n (2 ^ n.nodes.toNat)) (gd_ n.drains i).to_) = true := fun h => by
          have := wanted_leaves hn.toNet0 hi h20 b.1 b.2.1 b.2.2 (of_decide_eq_true h)
          rw [this.1, this.2]; rfl
        have k3 : law02_DrainLeaves_k3 (least n, 0) (greatest n, 0) (nodesOf n.drains.length (wantP n), 0) (i : Int) R (gd_ n.drains i) false = R ((i + 1 : Nat) : Int) := by
          unfold law02_DrainLeaves_k3 law02_DrainLeaves_k2
          rw [if_neg (by simp), bnd_eq q4]
          by_cases hw : wantP n i = true
          · rw [if_pos hw, bnd_eq q1, if_pos (c3 hw), bnd_eq q2, c4 hw, if_neg (by simp), gd_pos (by omega)]; rfl
          · rw [if_neg hw, if_neg (by simp), gd_pos (by omega)]; rfl
        unfold law02_DrainLeaves_B1
        rw [if_pos (by omega), ix_nat hx]
        by_cases hw : 0 < (gd_ n.drains i).width
        · rw [if_pos hw, bnd_eq q1]
          by_cases h1 : (inS (andN n (2 ^ n.nodes.toNat)) (gd_ n.drains i).from_ && !inS (andN n (2 ^ n.nodes.toNat)) (gd_ n.drains i).to_) = true
          · rw [if_pos h1, bnd_eq q3, c1 hw h1]; exact k3
          · rw [if_neg h1, bnd_eq q2]
            by_cases h2 : (inS (orN n (2 ^ n.nodes.toNat)) (gd_ n.drains i).from_ && !inS (orN n (2 ^ n.nodes.toNat)) (gd_ n.drains i).to_) = true
            · rw [if_pos h2, bnd_eq q3, c2 hw h2]; exact k3
            · rw [if_neg h2]; exact k3
        · rw [if_neg hw]; exact k3
      · show law02_DrainLeaves_B1 n (least n, 0) (greatest n, 0) (nodesOf n.drains.length (critP n), 0) (nodesOf n.drains.length (wantP n), 0) (law02_DrainLeaves_L1 n (least n, 0) (greatest n, 0) (nodesOf n.drains.length (critP n), 0) (nodesOf n.drains.length (wantP n), 0) k) _ = _
        unfold law02_DrainLeaves_B1
        rw [if_neg (by omega)]
        unfold law02_DrainLeaves_k1
        rw [bnd_eq known_eq]
    · rw [if_neg hv, if_neg hv, bnd_eq known_eq]
end Go.D2
