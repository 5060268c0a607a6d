/- Lemmas and walks that the proof of this claim uses: D2m5, D2m6, D2m9, D2m10, D2m13D, Tb22, D2p1, D2p2. -/
import Derived.Test.YtmpmomboclhjoaaDrainCuts2
set_option linter.unusedVariables false
set_option linter.unusedSimpArgs false
namespace Go.D2
open Go.Tb Go.Proofs Go.RowKit
theorem Tc27 : callable Try.prog 27 = true := by kernel_rfl
theorem Tc57 : callable Try.prog 57 = true := by kernel_rfl
theorem Tc68 : callable Try.prog 68 = true := by kernel_rfl
theorem Tc72 : callable Try.prog 72 = true := by kernel_rfl
set_option maxRecDepth 20000 in
set_option maxHeartbeats 1000000 in
theorem ref02_width_ok {a0 : Net} {a1 : Int} {A_a0_drains : Option Addr} {c_a0_drains : Nat} {w : World} {res : Int} (h_a0_drains : Sl w A_a0_drains c_a0_drains 3 (a0.drains.map encDrain)) (F : ref02_width a0 a1 = some res) : Calls Try.prog 68 #[.agg #[.int .i64 a0.nodes, .int .i64 a0.from_, .int .i64 a0.to_, .slice A_a0_drains a0.drains.length c_a0_drains], .int .i64 a1] w (Rt w (.int .i64 res)) := by
  refine calls_of_cw (args := [.agg #[.int .i64 a0.nodes, .int .i64 a0.from_, .int .i64 a0.to_, .slice A_a0_drains a0.drains.length c_a0_drains], .int .i64 a1]) Try.func68 rfl rfl rfl rfl ?_
  have H := Hp.start w
  have R0 := H.ext
  unfold ref02_width at F
  refine CW.seq fun K1 hK1 => ?_
  refine CW.region ?_
  refine LW.go rfl rfl (OW.box rfl fun b1 w1 N1 => ?_)
  replace H := H.new N1 N1.blk
  replace R0 := H.ext
  refine LW.pure rfl rfl (RV.assign rfl) ?_
  refine LW.nil (hK1 _ _ ?_)
  refine CW.seq fun K2 hK2 => ?_
  refine CW.region ?_
  refine LW.pure rfl rfl (RV.assign rfl) ?_
  refine LW.nil (hK2 _ _ ?_)
  refine CW.seqJ (fun ρ wl1 => (∃ (t5_1 : Int), ref02_width_k1 t5_1 = some res ∧ ρ = [(4, .int .i64 0), (5, .int .i64 t5_1)] ∧ Hp w wl1 [])) ?_ ?_
  ·
    rintro _ wl1 ⟨t5_1, F, rfl, H⟩
    have R0 := H.ext
    unfold ref02_width_k1 at F
    refine CW.seq fun K3 hK3 => ?_
    refine CW.region ?_
    refine LW.pure rfl rfl (RV.move rfl) ?_
    refine LW.pure rfl rfl (RV.assign rfl) ?_
    refine LW.nil (hK3 _ _ ?_)
    refine CW.ret ?_
    obtain rfl := Option.some.inj F
    refine ⟨_, (ResOK.one rfl), ?_⟩
    refine ⟨(by first | rfl | simp), R0⟩
  ·
    intro K4 hK4 jK74
    refine CW.seq fun K5 hK5 => ?_
    refine CW.region ?_
    refine LW.pure rfl rfl (RV.assign rfl) ?_
    refine LW.nil (hK5 _ _ ?_)
    refine CW.block ?_
    refine CW.loop (fun meas ρ wl2 => ∃ (t5_3 : Int) (t6_1 : Int), ref02_width_L1 a0 a1 meas t5_3 t6_1 = some res ∧ ρ = [(1, .int .i64 a1), (2, .pointer (some (⟨b1, 0, none⟩))), (4, .int .i64 0), (5, .int .i64 t5_3), (6, .int .i64 t6_1)] ∧ Hp w wl2 [.blk b1 24 [.int .i64 a0.nodes, .int .i64 a0.from_, .int .i64 a0.to_, .slice A_a0_drains a0.drains.length c_a0_drains]]) FU ⟨_, ?_, ((0 : Int)), ((0 : Int)), F, rfl, H⟩ ?_
    · exact ⟨rfl, rfl, rfl, rfl, rfl, trivial⟩
    rintro mk1 _ wl2 ⟨t5_3, t6_1, F, rfl, H⟩
    have R0 := H.ext
    replace F := ref02_width_L1_s F
    obtain ⟨mk1, rfl, F⟩ := F
    generalize hrec1 : ref02_width_L1 a0 a1 mk1 = rec1 at F
    unfold ref02_width_B1 at F
    refine CW.seq fun K6 hK6 => ?_
    refine CW.seq fun K7 hK7 => ?_
    refine CW.region ?_
    refine LW.pure rfl rfl (RV.move rfl) ?_
    refine LW.pure rfl rfl (RV.fieldAddr Tf24_3 rfl) ?_
    refine LW.pure rfl rfl (RV.load1 Tk22 rfl ((H.blk 0 rfl).cells.off 3) rfl) ?_
    refine LW.pure rfl rfl (RV.len Ts22 rfl) ?_
    refine LW.pure rfl rfl (RV.lss rfl rfl) ?_
    refine LW.nil (hK7 _ _ ?_)
    by_cases hp1 : t6_1 < ((a0.drains.length : Int))
    ·
      replace F := ite_y hp1 F
      have hq1 := dec_t hp1
      refine CW.condT rfl hq1 ?_
      refine CW.skip (hK6 _ _ ?_)
      refine CW.seqJ (fun ρ wl3 => (∃ (t5_2 : Int), ref02_width_k2 t6_1 rec1 t5_2 = some res ∧ ρ = [(1, .int .i64 a1), (2, .pointer (some (⟨b1, 0, none⟩))), (4, .int .i64 0), (5, .int .i64 t5_2), (6, .int .i64 t6_1)] ∧ Hp w wl3 [.blk b1 24 [.int .i64 a0.nodes, .int .i64 a0.from_, .int .i64 a0.to_, .slice A_a0_drains a0.drains.length c_a0_drains]])) ?_ ?_
      ·
        rintro _ wl3 ⟨t5_2, F, rfl, H⟩
        have R0 := H.ext
        unfold ref02_width_k2 at F
        obtain ⟨hg1, F⟩ := gd_some F
        refine CW.region ?_
        refine LW.pure rfl rfl (RV.move rfl) ?_
        refine LW.pure rfl rfl (RV.add rfl rfl hg1) ?_
        refine LW.pure rfl rfl (RV.assign rfl) ?_
        refine LW.nil ?_
        subst hrec1
        refine ⟨mk1, Nat.lt_succ_self _, _, ?_, t5_2, (t6_1 + 1), F, rfl, H⟩
        exact ⟨rfl, rfl, rfl, rfl, rfl, trivial⟩
      ·
        intro K8 hK8 jK94
        refine CW.block ?_
        refine CW.seq fun K9 hK9 => ?_
        obtain ⟨x1, hbx1, hx1, F⟩ := ix_some F
        refine CW.region ?_
        refine LW.pure rfl rfl (RV.fieldAddr Tf24_3 rfl) ?_
        refine LW.pure rfl rfl (RV.load1 Tk22 rfl ((H.blk 0 rfl).cells.off 3) rfl) ?_
        refine LW.pure rfl rfl (RV.move rfl) ?_
        refine LW.pure rfl rfl (RV.indexAddr Ts22 rfl rfl hbx1 (h_a0_drains.addr_ hx1)) ?_
        refine LW.pure rfl rfl (RV.loadA [.int .i64 x1.from_, .int .i64 x1.to_, .int .i64 x1.width] Tk52 rfl ((h_a0_drains.at_ hx1).ext R0) rfl rfl) ?_
        refine LW.go rfl rfl (OW.alloc Tz52 fun b2 w2 N2 => ?_)
        replace H := H.new N2 N2.blk
        replace R0 := H.ext
        refine LW.go rfl rfl (OW.store Tk52 rfl rfl (H.blk 0 rfl) (off := 0) (vs := [.int .i64 x1.from_, .int .i64 x1.to_, .int .i64 x1.width]) rfl rfl rfl rfl rfl fun w3 S1 => ?_)
        replace H : Hp w w3 [.blk b2 52 [.int .i64 x1.from_, .int .i64 x1.to_, .int .i64 x1.width], .blk b1 24 [.int .i64 a0.nodes, .int .i64 a0.from_, .int .i64 a0.to_, .slice A_a0_drains a0.drains.length c_a0_drains]] := H.stored 0 rfl S1
        replace R0 := H.ext
        refine LW.nil (hK9 _ _ ?_)
        refine CW.seqJ (fun ρ wl4 => (∃ (t30_1 : Bool), ref02_width_k3 t5_3 t6_1 rec1 x1 t30_1 = some res ∧ ρ = [(1, .int .i64 a1), (2, .pointer (some (⟨b1, 0, none⟩))), (4, .int .i64 0), (5, .int .i64 t5_3), (6, .int .i64 t6_1), (7, .pointer (some (⟨b2, 0, none⟩))), (30, .bool t30_1)] ∧ Hp w wl4 [.blk b1 24 [.int .i64 a0.nodes, .int .i64 a0.from_, .int .i64 a0.to_, .slice A_a0_drains a0.drains.length c_a0_drains], .blk b2 52 [.int .i64 x1.from_, .int .i64 x1.to_, .int .i64 x1.width]])) ?_ ?_
        ·
          rintro _ wl4 ⟨t30_1, F, rfl, H⟩
          have R0 := H.ext
          unfold ref02_width_k3 at F
          by_cases hp2 : t30_1 = true
          ·
            replace F := ite_y hp2 F
            have hq2 : t30_1 = true := hp2
            refine CW.condT rfl hq2 ?_
            obtain ⟨hg2, F⟩ := gd_some F
            refine CW.region ?_
            refine LW.pure rfl rfl (RV.move rfl) ?_
            refine LW.pure rfl rfl (RV.fieldAddr Tf52_2 rfl) ?_
            refine LW.pure rfl rfl (RV.load1 Tk3 rfl ((H.blk 1 rfl).cells.off 2) rfl) ?_
            refine LW.pure rfl rfl (RV.add rfl rfl hg2) ?_
            refine LW.pure rfl rfl (RV.assign rfl) ?_
            replace H := H.pick (L' := [.blk b1 24 [.int .i64 a0.nodes, .int .i64 a0.from_, .int .i64 a0.to_, .slice A_a0_drains a0.drains.length c_a0_drains]]) [0] (by decide) rfl
            replace R0 := H.ext
            refine LW.nil (jK94 _ _ ⟨_, ?_, ⟨(t5_3 + x1.width), F, rfl, H⟩⟩)
            exact ⟨rfl, rfl, rfl, rfl, rfl, trivial⟩
          ·
            replace F := ite_n hp2 F
            have hq2 : t30_1 = false := raw_f hp2
            refine CW.condF rfl hq2 ?_
            replace H := H.pick (L' := [.blk b1 24 [.int .i64 a0.nodes, .int .i64 a0.from_, .int .i64 a0.to_, .slice A_a0_drains a0.drains.length c_a0_drains]]) [0] (by decide) rfl
            replace R0 := H.ext
            refine CW.skip (jK94 _ _ ⟨_, ?_, ⟨t5_3, F, rfl, H⟩⟩)
            exact ⟨rfl, rfl, rfl, rfl, rfl, trivial⟩
        ·
          intro K10 hK10 jK96
          obtain ⟨r1, hr1, F⟩ := bnd_some F
          by_cases hp3 : r1 = true
          ·
            replace F := ite_y hp3 F
            have hq3 : r1 = true := hp3
            obtain ⟨r2, hr2, F⟩ := bnd_some F
            refine CW.region ?_
            refine LW.pure rfl rfl (RV.move rfl) ?_
            refine LW.pure rfl rfl (RV.fieldAddr Tf52_0 rfl) ?_
            refine LW.pure rfl rfl (RV.load1 Tk3 rfl ((H.blk 0 rfl).cells.off 0) rfl) ?_
            refine LW.go rfl rfl (OW.call Tc92 rfl (ref02_in_ok (a0 := a1) (a1 := x1.from_) hr1) ?_)
            rintro _ w4 ⟨rfl, E1⟩
            refine ⟨_, rfl, ?_⟩
            replace H := H.grow E1
            replace R0 := H.ext
            refine LW.pure rfl rfl (RV.move rfl) ?_
            refine LW.pureYB rfl rfl rfl rfl hq3 (RV.move rfl) ?_
            refine LW.pureYB rfl rfl rfl rfl hq3 (RV.fieldAddr Tf52_1 rfl) ?_
            refine LW.pureYB rfl rfl rfl rfl hq3 (RV.load1 Tk3 rfl ((H.blk 0 rfl).cells.off 1) rfl) ?_
            refine LW.yesB rfl rfl rfl rfl hq3 (OW.call Tc92 rfl (ref02_in_ok (a0 := a1) (a1 := x1.to_) hr2) ?_)
            rintro _ w5 ⟨rfl, E2⟩
            refine ⟨_, rfl, ?_⟩
            replace H := H.grow E2
            replace R0 := H.ext
            refine LW.pureYB rfl rfl rfl rfl hq3 (RV.not rfl) ?_
            refine LW.pure rfl rfl (RV.pickTB rfl hq3 rfl) ?_
            replace H := H.pick (L' := [.blk b1 24 [.int .i64 a0.nodes, .int .i64 a0.from_, .int .i64 a0.to_, .slice A_a0_drains a0.drains.length c_a0_drains], .blk b2 52 [.int .i64 x1.from_, .int .i64 x1.to_, .int .i64 x1.width]]) [1, 0] (by decide) rfl
            replace R0 := H.ext
            refine LW.nil (jK96 _ _ ⟨_, ?_, ⟨(!r2), F, rfl, H⟩⟩)
            exact ⟨rfl, rfl, rfl, rfl, rfl, rfl, rfl, trivial⟩
          ·
            replace F := ite_n hp3 F
            have hq3 : r1 = false := raw_f hp3
            refine CW.region ?_
            refine LW.pure rfl rfl (RV.move rfl) ?_
            refine LW.pure rfl rfl (RV.fieldAddr Tf52_0 rfl) ?_
            refine LW.pure rfl rfl (RV.load1 Tk3 rfl ((H.blk 0 rfl).cells.off 0) rfl) ?_
            refine LW.go rfl rfl (OW.call Tc92 rfl (ref02_in_ok (a0 := a1) (a1 := x1.from_) hr1) ?_)
            rintro _ w6 ⟨rfl, E3⟩
            refine ⟨_, rfl, ?_⟩
            replace H := H.grow E3
            replace R0 := H.ext
            refine LW.pure rfl rfl (RV.move rfl) ?_
            refine LW.noB rfl rfl rfl rfl (ne_beq (v := false) hq3 rfl) ?_
            refine LW.noB rfl rfl rfl rfl (ne_beq (v := false) hq3 rfl) ?_
            refine LW.noB rfl rfl rfl rfl (ne_beq (v := false) hq3 rfl) ?_
            refine LW.noB rfl rfl rfl rfl (ne_beq (v := false) hq3 rfl) ?_
            refine LW.noB rfl rfl rfl rfl (ne_beq (v := false) hq3 rfl) ?_
            refine LW.pure rfl rfl (RV.pickFB rfl hq3 rfl) ?_
            replace H := H.pick (L' := [.blk b1 24 [.int .i64 a0.nodes, .int .i64 a0.from_, .int .i64 a0.to_, .slice A_a0_drains a0.drains.length c_a0_drains], .blk b2 52 [.int .i64 x1.from_, .int .i64 x1.to_, .int .i64 x1.width]]) [1, 0] (by decide) rfl
            replace R0 := H.ext
            refine LW.nil (jK96 _ _ ⟨_, ?_, ⟨false, F, rfl, H⟩⟩)
            exact ⟨rfl, rfl, rfl, rfl, rfl, rfl, rfl, trivial⟩
    ·
      replace F := ite_n hp1 F
      have hq1 := dec_f hp1
      refine CW.condF rfl hq1 ?_
      replace H := H.pick (L' := []) [] (by decide) rfl
      replace R0 := H.ext
      refine CW.exit (jK74 _ _ ⟨_, ?_, ⟨t5_3, F, rfl, H⟩⟩)
      exact ⟨rfl, rfl, trivial⟩
set_option maxRecDepth 20000 in
set_option maxHeartbeats 1000000 in
theorem ref02_most_ok {a0 : Net} {A_a0_drains : Option Addr} {c_a0_drains : Nat} {w : World} {res : Int} (h_a0_drains : Sl w A_a0_drains c_a0_drains 3 (a0.drains.map encDrain)) (F : ref02_most a0 = some res) : Calls Try.prog 57 #[.agg #[.int .i64 a0.nodes, .int .i64 a0.from_, .int .i64 a0.to_, .slice A_a0_drains a0.drains.length c_a0_drains]] w (Rt w (.int .i64 res)) := by
  refine calls_of_cw (args := [.agg #[.int .i64 a0.nodes, .int .i64 a0.from_, .int .i64 a0.to_, .slice A_a0_drains a0.drains.length c_a0_drains]]) Try.func57 rfl rfl rfl rfl ?_
  have H := Hp.start w
  have R0 := H.ext
  unfold ref02_most at F
  refine CW.seq fun K1 hK1 => ?_
  refine CW.region ?_
  refine LW.go rfl rfl (OW.box rfl fun b1 w1 N1 => ?_)
  replace H := H.new N1 N1.blk
  replace R0 := H.ext
  refine LW.pure rfl rfl (RV.assign rfl) ?_
  refine LW.nil (hK1 _ _ ?_)
  refine CW.seq fun K2 hK2 => ?_
  refine CW.region ?_
  refine LW.pure rfl rfl (RV.assign rfl) ?_
  refine LW.nil (hK2 _ _ ?_)
  refine CW.seqJ (fun ρ wl1 => (∃ (t3_1 : Int), ref02_most_k1 t3_1 = some res ∧ ρ = [(2, .int .i64 0), (3, .int .i64 t3_1)] ∧ Hp w wl1 [])) ?_ ?_
  ·
    rintro _ wl1 ⟨t3_1, F, rfl, H⟩
    have R0 := H.ext
    unfold ref02_most_k1 at F
    refine CW.seq fun K3 hK3 => ?_
    refine CW.region ?_
    refine LW.pure rfl rfl (RV.move rfl) ?_
    refine LW.pure rfl rfl (RV.assign rfl) ?_
    refine LW.nil (hK3 _ _ ?_)
    refine CW.ret ?_
    obtain rfl := Option.some.inj F
    refine ⟨_, (ResOK.one rfl), ?_⟩
    refine ⟨(by first | rfl | simp), R0⟩
  ·
    intro K4 hK4 jK92
    refine CW.seq fun K5 hK5 => ?_
    refine CW.region ?_
    refine LW.pure rfl rfl (RV.assign rfl) ?_
    refine LW.nil (hK5 _ _ ?_)
    refine CW.block ?_
    refine CW.loop (fun meas ρ wl2 => ∃ (t3_3 : Int) (t4_1 : Int), ref02_most_L1 a0 meas t3_3 t4_1 = some res ∧ ρ = [(1, .pointer (some (⟨b1, 0, none⟩))), (2, .int .i64 0), (3, .int .i64 t3_3), (4, .int .i64 t4_1)] ∧ Hp w wl2 [.blk b1 24 [.int .i64 a0.nodes, .int .i64 a0.from_, .int .i64 a0.to_, .slice A_a0_drains a0.drains.length c_a0_drains]]) FU ⟨_, ?_, ((-1 : Int)), ((0 : Int)), F, rfl, H⟩ ?_
    · exact ⟨rfl, rfl, rfl, rfl, trivial⟩
    rintro mk1 _ wl2 ⟨t3_3, t4_1, F, rfl, H⟩
    have R0 := H.ext
    replace F := ref02_most_L1_s F
    obtain ⟨mk1, rfl, F⟩ := F
    generalize hrec1 : ref02_most_L1 a0 mk1 = rec1 at F
    unfold ref02_most_B1 at F
    refine CW.seq fun K6 hK6 => ?_
    refine CW.seq fun K7 hK7 => ?_
    obtain ⟨hg1, F⟩ := gd_some F
    refine CW.region ?_
    refine LW.pure rfl rfl (RV.move rfl) ?_
    refine LW.pure rfl rfl (RV.fieldAddr Tf24_0 rfl) ?_
    refine LW.pure rfl rfl (RV.load1 Tk3 rfl ((H.blk 0 rfl).cells.off 0) rfl) ?_
    refine LW.pure rfl rfl (RV.convW Tu3s Tu74 rfl) ?_
    refine LW.pure rfl rfl (RV.shl rfl rfl hg1) ?_
    refine LW.pure rfl rfl (RV.lss rfl rfl) ?_
    refine LW.nil (hK7 _ _ ?_)
    by_cases hp1 : t4_1 < (shlI ((1 : Int)) (IntKind.u64.wrap a0.nodes))
    ·
      replace F := ite_y hp1 F
      have hq1 := dec_t hp1
      refine CW.condT rfl hq1 ?_
      refine CW.skip (hK6 _ _ ?_)
      refine CW.seqJ (fun ρ wl3 => (∃ (t3_2 : Int), ref02_most_k2 t4_1 rec1 t3_2 = some res ∧ ρ = [(1, .pointer (some (⟨b1, 0, none⟩))), (2, .int .i64 0), (3, .int .i64 t3_2), (4, .int .i64 t4_1)] ∧ Hp w wl3 [.blk b1 24 [.int .i64 a0.nodes, .int .i64 a0.from_, .int .i64 a0.to_, .slice A_a0_drains a0.drains.length c_a0_drains]])) ?_ ?_
      ·
        rintro _ wl3 ⟨t3_2, F, rfl, H⟩
        have R0 := H.ext
        unfold ref02_most_k2 at F
        obtain ⟨hg2, F⟩ := gd_some F
        refine CW.region ?_
        refine LW.pure rfl rfl (RV.move rfl) ?_
        refine LW.pure rfl rfl (RV.add rfl rfl hg2) ?_
        refine LW.pure rfl rfl (RV.assign rfl) ?_
        refine LW.nil ?_
        subst hrec1
        refine ⟨mk1, Nat.lt_succ_self _, _, ?_, t3_2, (t4_1 + 1), F, rfl, H⟩
        exact ⟨rfl, rfl, rfl, rfl, trivial⟩
      ·
        intro K8 hK8 jK117
        refine CW.block ?_
        refine CW.seq fun K9 hK9 => ?_
        obtain ⟨r2, hr2, F⟩ := bnd_some F
        refine CW.region ?_
        refine LW.pure rfl rfl (RV.loadA [.int .i64 a0.nodes, .int .i64 a0.from_, .int .i64 a0.to_, .slice A_a0_drains a0.drains.length c_a0_drains] Tk24 rfl (H.blk 0 rfl).cells rfl rfl) ?_
        refine LW.pure rfl rfl (RV.move rfl) ?_
        refine LW.go rfl rfl (OW.call Tc72 rfl (ref02_isCut_ok (a0 := a0) (a1 := t4_1) (h_a0_drains.ext R0) hr2) ?_)
        rintro _ w2 ⟨rfl, E1⟩
        refine ⟨_, rfl, ?_⟩
        replace H := H.grow E1
        replace R0 := H.ext
        refine LW.nil (hK9 _ _ ?_)
        by_cases hp2 : r2 = true
        ·
          replace F := ite_y hp2 F
          have hq2 : r2 = true := hp2
          refine CW.condT rfl hq2 ?_
          refine CW.seq fun K10 hK10 => ?_
          obtain ⟨r1, hr1, F⟩ := bnd_some F
          refine CW.region ?_
          refine LW.pure rfl rfl (RV.loadA [.int .i64 a0.nodes, .int .i64 a0.from_, .int .i64 a0.to_, .slice A_a0_drains a0.drains.length c_a0_drains] Tk24 rfl (H.blk 0 rfl).cells rfl rfl) ?_
          refine LW.pure rfl rfl (RV.move rfl) ?_
          refine LW.go rfl rfl (OW.call Tc68 rfl (ref02_width_ok (a0 := a0) (a1 := t4_1) (h_a0_drains.ext R0) hr1) ?_)
          rintro _ w3 ⟨rfl, E2⟩
          refine ⟨_, rfl, ?_⟩
          replace H := H.grow E2
          replace R0 := H.ext
          refine LW.pure rfl rfl (RV.assign rfl) ?_
          refine LW.nil (hK10 _ _ ?_)
          refine CW.seqJ (fun ρ wl4 => (∃ (t26_1 : Bool), ref02_most_k3 t3_3 t4_1 rec1 r1 t26_1 = some res ∧ ρ = [(1, .pointer (some (⟨b1, 0, none⟩))), (2, .int .i64 0), (3, .int .i64 t3_3), (4, .int .i64 t4_1), (5, .int .i64 r1), (26, .bool t26_1)] ∧ Hp w wl4 [.blk b1 24 [.int .i64 a0.nodes, .int .i64 a0.from_, .int .i64 a0.to_, .slice A_a0_drains a0.drains.length c_a0_drains]])) ?_ ?_
          ·
            rintro _ wl4 ⟨t26_1, F, rfl, H⟩
            have R0 := H.ext
            unfold ref02_most_k3 at F
            by_cases hp3 : t26_1 = true
            ·
              replace F := ite_y hp3 F
              have hq3 : t26_1 = true := hp3
              refine CW.condT rfl hq3 ?_
              refine CW.region ?_
              refine LW.pure rfl rfl (RV.move rfl) ?_
              refine LW.pure rfl rfl (RV.assign rfl) ?_
              refine LW.nil (jK117 _ _ ⟨_, ?_, ⟨r1, F, rfl, H⟩⟩)
              exact ⟨rfl, rfl, rfl, rfl, trivial⟩
            ·
              replace F := ite_n hp3 F
              have hq3 : t26_1 = false := raw_f hp3
              refine CW.condF rfl hq3 ?_
              refine CW.skip (jK117 _ _ ⟨_, ?_, ⟨t3_3, F, rfl, H⟩⟩)
              exact ⟨rfl, rfl, rfl, rfl, trivial⟩
          ·
            intro K11 hK11 jK120
            by_cases hp4 : t3_3 < 0
            ·
              replace F := ite_y hp4 F
              have hq4 := dec_t hp4
              refine CW.region ?_
              refine LW.pure rfl rfl (RV.move rfl) ?_
              refine LW.pure rfl rfl (RV.lss rfl rfl) ?_
              refine LW.pure rfl rfl (RV.move rfl) ?_
              refine LW.noB rfl rfl rfl rfl (ne_beq (v := true) hq4 rfl) ?_
              refine LW.noB rfl rfl rfl rfl (ne_beq (v := true) hq4 rfl) ?_
              refine LW.noB rfl rfl rfl rfl (ne_beq (v := true) hq4 rfl) ?_
              refine LW.pure rfl rfl (RV.pickTB rfl hq4 rfl) ?_
              refine LW.nil (jK120 _ _ ⟨_, ?_, ⟨true, F, rfl, H⟩⟩)
              exact ⟨rfl, rfl, rfl, rfl, rfl, rfl, trivial⟩
            ·
              replace F := ite_n hp4 F
              have hq4 := dec_f hp4
              refine CW.region ?_
              refine LW.pure rfl rfl (RV.move rfl) ?_
              refine LW.pure rfl rfl (RV.lss rfl rfl) ?_
              refine LW.pure rfl rfl (RV.move rfl) ?_
              refine LW.pureYB rfl rfl rfl rfl hq4 (RV.move rfl) ?_
              refine LW.pureYB rfl rfl rfl rfl hq4 (RV.move rfl) ?_
              refine LW.pureYB rfl rfl rfl rfl hq4 (RV.lss rfl rfl) ?_
              refine LW.pure rfl rfl (RV.pickFB rfl hq4 rfl) ?_
              refine LW.nil (jK120 _ _ ⟨_, ?_, ⟨(decide (r1 < t3_3)), F, rfl, H⟩⟩)
              exact ⟨rfl, rfl, rfl, rfl, rfl, rfl, trivial⟩
        ·
          replace F := ite_n hp2 F
          have hq2 : r2 = false := raw_f hp2
          refine CW.condF rfl hq2 ?_
          refine CW.skip (jK117 _ _ ⟨_, ?_, ⟨t3_3, F, rfl, H⟩⟩)
          exact ⟨rfl, rfl, rfl, rfl, trivial⟩
    ·
      replace F := ite_n hp1 F
      have hq1 := dec_f hp1
      refine CW.condF rfl hq1 ?_
      replace H := H.pick (L' := []) [] (by decide) rfl
      replace R0 := H.ext
      refine CW.exit (jK92 _ _ ⟨_, ?_, ⟨t3_3, F, rfl, H⟩⟩)
      exact ⟨rfl, rfl, trivial⟩
end Go.D2

set_option linter.unusedVariables false
set_option linter.unusedSimpArgs false
namespace Go.D2
open Go.Tb Go.Proofs Go.RowKit
theorem Tc16 : callable Try.prog 16 = true := by kernel_rfl
theorem Tc17 : callable Try.prog 17 = true := by kernel_rfl
end Go.D2

set_option linter.unusedVariables false
set_option linter.unusedSimpArgs false
namespace Go.D2
open Go.Tb Go.Proofs Go.RowKit
theorem Tc67 : callable Try.prog 67 = true := by kernel_rfl
theorem Tc69 : callable Try.prog 69 = true := by kernel_rfl
theorem Tc70 : callable Try.prog 70 = true := by kernel_rfl
theorem Tc73 : callable Try.prog 73 = true := by kernel_rfl
theorem Tk63 : tyK Try.prog 63 = some (false, 1) := by kernel_rfl
theorem Tz63 : tyZ Try.prog 63 = some (.slice none 0 0) := by kernel_rfl
set_option maxRecDepth 20000 in
set_option maxHeartbeats 1000000 in
theorem ref02_mask_ok {a0 : Net} {a1 : List Int} {A_a0_drains : Option Addr} {c_a0_drains : Nat} {A_a1 : Option Addr} {c_a1 : Nat} {w : World} {res : Int × Bool} (h_a0_drains : Sl w A_a0_drains c_a0_drains 3 (a0.drains.map encDrain)) (h_a1 : Sl w A_a1 c_a1 1 (a1.map encN)) (F : ref02_mask a0 a1 = some res) : Calls Try.prog 67 #[.agg #[.int .i64 a0.nodes, .int .i64 a0.from_, .int .i64 a0.to_, .slice A_a0_drains a0.drains.length c_a0_drains], .slice A_a1 a1.length c_a1] w (Rt w (.tuple #[.int .i64 res.1, .bool res.2])) := by
  refine calls_of_cw (args := [.agg #[.int .i64 a0.nodes, .int .i64 a0.from_, .int .i64 a0.to_, .slice A_a0_drains a0.drains.length c_a0_drains], .slice A_a1 a1.length c_a1]) Try.func67 rfl rfl rfl rfl ?_
  have H := Hp.start w
  have R0 := H.ext
  unfold ref02_mask at F
  refine CW.seq fun K1 hK1 => ?_
  refine CW.region ?_
  refine LW.go rfl rfl (OW.box rfl fun b1 w1 N1 => ?_)
  replace H := H.new N1 N1.blk
  replace R0 := H.ext
  refine LW.pure rfl rfl (RV.assign rfl) ?_
  refine LW.pure rfl rfl (RV.assign rfl) ?_
  refine LW.nil (hK1 _ _ ?_)
  refine CW.seq fun K2 hK2 => ?_
  refine CW.region ?_
  refine LW.pure rfl rfl (RV.assign rfl) ?_
  refine LW.nil (hK2 _ _ ?_)
  refine CW.seqJ (fun ρ wl1 => (∃ (t6_1 : Int), ref02_mask_k1 a0 t6_1 = some res ∧ ρ = [(2, .pointer (some (⟨b1, 0, none⟩))), (4, .int .i64 0), (5, .bool false), (6, .int .i64 t6_1)] ∧ Hp w wl1 [.blk b1 24 [.int .i64 a0.nodes, .int .i64 a0.from_, .int .i64 a0.to_, .slice A_a0_drains a0.drains.length c_a0_drains]])) ?_ ?_
  ·
    rintro _ wl1 ⟨t6_1, F, rfl, H⟩
    have R0 := H.ext
    unfold ref02_mask_k1 at F
    refine CW.seq fun K3 hK3 => ?_
    obtain ⟨r1, hr1, F⟩ := bnd_some F
    refine CW.region ?_
    refine LW.pure rfl rfl (RV.move rfl) ?_
    refine LW.pure rfl rfl (RV.loadA [.int .i64 a0.nodes, .int .i64 a0.from_, .int .i64 a0.to_, .slice A_a0_drains a0.drains.length c_a0_drains] Tk24 rfl (H.blk 0 rfl).cells rfl rfl) ?_
    refine LW.pure rfl rfl (RV.move rfl) ?_
    refine LW.go rfl rfl (OW.call Tc72 rfl (ref02_isCut_ok (a0 := a0) (a1 := t6_1) (h_a0_drains.ext R0) hr1) ?_)
    rintro _ w2 ⟨rfl, E1⟩
    refine ⟨_, rfl, ?_⟩
    replace H := H.grow E1
    replace R0 := H.ext
    refine LW.pure rfl rfl (RV.assign rfl) ?_
    refine LW.pure rfl rfl (RV.assign rfl) ?_
    refine LW.nil (hK3 _ _ ?_)
    refine CW.ret ?_
    obtain rfl := Option.some.inj F
    refine ⟨_, (ResOK.two rfl rfl), ?_⟩
    refine ⟨(by first | rfl | simp), R0⟩
  ·
    intro K4 hK4 jK65
    refine CW.seq fun K5 hK5 => ?_
    refine CW.region ?_
    refine LW.pure rfl rfl (RV.assign rfl) ?_
    refine LW.nil (hK5 _ _ ?_)
    refine CW.block ?_
    refine CW.loop (fun meas ρ wl2 => ∃ (t6_2 : Int) (t7_1 : Int), ref02_mask_L1 a0 a1 meas t6_2 t7_1 = some res ∧ ρ = [(1, .slice A_a1 a1.length c_a1), (2, .pointer (some (⟨b1, 0, none⟩))), (4, .int .i64 0), (5, .bool false), (6, .int .i64 t6_2), (7, .int .i64 t7_1)] ∧ Hp w wl2 [.blk b1 24 [.int .i64 a0.nodes, .int .i64 a0.from_, .int .i64 a0.to_, .slice A_a0_drains a0.drains.length c_a0_drains]]) FU ⟨_, ?_, ((0 : Int)), ((0 : Int)), F, rfl, H⟩ ?_
    · exact ⟨rfl, rfl, rfl, rfl, rfl, rfl, trivial⟩
    rintro mk1 _ wl2 ⟨t6_2, t7_1, F, rfl, H⟩
    have R0 := H.ext
    replace F := ref02_mask_L1_s F
    obtain ⟨mk1, rfl, F⟩ := F
    generalize hrec1 : ref02_mask_L1 a0 a1 mk1 = rec1 at F
    unfold ref02_mask_B1 at F
    refine CW.seq fun K6 hK6 => ?_
    refine CW.seq fun K7 hK7 => ?_
    refine CW.region ?_
    refine LW.pure rfl rfl (RV.move rfl) ?_
    refine LW.pure rfl rfl (RV.move rfl) ?_
    refine LW.pure rfl rfl (RV.len Ts30 rfl) ?_
    refine LW.pure rfl rfl (RV.lss rfl rfl) ?_
    refine LW.nil (hK7 _ _ ?_)
    by_cases hp1 : t7_1 < ((a1.length : Int))
    ·
      replace F := ite_y hp1 F
      have hq1 := dec_t hp1
      refine CW.condT rfl hq1 ?_
      refine CW.skip (hK6 _ _ ?_)
      refine CW.seq fun K8 hK8 => ?_
      refine CW.block ?_
      refine CW.seq fun K9 hK9 => ?_
      refine CW.seqJ (fun ρ wl3 => (∃ (t38_1 : Bool), ref02_mask_k2 a1 t6_2 t7_1 rec1 t38_1 = some res ∧ ρ = [(1, .slice A_a1 a1.length c_a1), (2, .pointer (some (⟨b1, 0, none⟩))), (4, .int .i64 0), (5, .bool false), (6, .int .i64 t6_2), (7, .int .i64 t7_1), (38, .bool t38_1)] ∧ Hp w wl3 [.blk b1 24 [.int .i64 a0.nodes, .int .i64 a0.from_, .int .i64 a0.to_, .slice A_a0_drains a0.drains.length c_a0_drains]])) ?_ ?_
      ·
        rintro _ wl3 ⟨t38_1, F, rfl, H⟩
        have R0 := H.ext
        unfold ref02_mask_k2 at F
        by_cases hp2 : t38_1 = true
        ·
          replace F := ite_y hp2 F
          have hq2 : t38_1 = true := hp2
          refine CW.condT rfl hq2 ?_
          refine CW.seq fun K10 hK10 => ?_
          refine CW.region ?_
          refine LW.pure rfl rfl (RV.assign rfl) ?_
          refine LW.pure rfl rfl (RV.assign rfl) ?_
          refine LW.nil (hK10 _ _ ?_)
          refine CW.ret ?_
          obtain rfl := Option.some.inj F
          refine ⟨_, (ResOK.two rfl rfl), ?_⟩
          refine ⟨(by first | rfl | simp), R0⟩
        ·
          replace F := ite_n hp2 F
          have hq2 : t38_1 = false := raw_f hp2
          refine CW.condF rfl hq2 ?_
          refine CW.skip (hK9 _ _ ?_)
          obtain ⟨x1, hbx1, hx1, F⟩ := ix_some F
          obtain ⟨hg1, F⟩ := gd_some F
          obtain ⟨hg2, F⟩ := gd_some F
          refine CW.region ?_
          refine LW.pure rfl rfl (RV.move rfl) ?_
          refine LW.pure rfl rfl (RV.move rfl) ?_
          refine LW.pure rfl rfl (RV.move rfl) ?_
          refine LW.pure rfl rfl (RV.indexAddr Ts30 rfl rfl hbx1 (h_a1.addr_ hx1)) ?_
          refine LW.pure rfl rfl (RV.load1 Tk3 rfl ((h_a1.at_ hx1).ext R0) rfl) ?_
          refine LW.pure rfl rfl (RV.convW Tu3s Tu74 rfl) ?_
          refine LW.pure rfl rfl (RV.shl rfl rfl hg1) ?_
          refine LW.pure rfl rfl (RV.bor rfl rfl hg2) ?_
          refine LW.pure rfl rfl (RV.assign rfl) ?_
          refine LW.nil (hK8 _ _ ?_)
          obtain ⟨hg3, F⟩ := gd_some F
          refine CW.region ?_
          refine LW.pure rfl rfl (RV.move rfl) ?_
          refine LW.pure rfl rfl (RV.add rfl rfl hg3) ?_
          refine LW.pure rfl rfl (RV.assign rfl) ?_
          refine LW.nil ?_
          subst hrec1
          refine ⟨mk1, Nat.lt_succ_self _, _, ?_, (bitOr t6_2 (shlI ((1 : Int)) (IntKind.u64.wrap x1))), (t7_1 + 1), F, rfl, H⟩
          exact ⟨rfl, rfl, rfl, rfl, rfl, rfl, trivial⟩
      ·
        intro K11 hK11 jK84
        obtain ⟨x2, hbx2, hx2, F⟩ := ix_some F
        obtain ⟨hg4, F⟩ := gd_some F
        obtain ⟨r2, hr2, F⟩ := bnd_some F
        by_cases hp3 : r2 = true
        ·
          replace F := ite_y hp3 F
          have hq3 : r2 = true := hp3
          by_cases hp4 : (0 : Int) < t7_1
          ·
            replace F := ite_y hp4 F
            have hq4 := dec_t hp4
            obtain ⟨x3, hbx3, hx3, F⟩ := ix_some F
            obtain ⟨hg5, F⟩ := gd_some F
            obtain ⟨x4, hbx4, hx4, F⟩ := ix_some F
            refine CW.draw [] (fun _ => True) (.cons 0 1 (.cons 1 1 (.cons 2 1 (.cons 3 1 (.cons 4 1 (.cons 5 1 (.cons 6 1 (.cons 7 0 (.cons 8 1 (.cons 9 1 (.cons 10 1 (.cons 11 1 (.cons 12 1 (.cons 13 1 (.cons 14 1 (.cons 15 1 (.cons 16 1 (.cons 17 1 (.cons 18 1 (.cons 19 1 (.cons 20 1 (.cons 21 1 (.cons 22 1 (.cons 23 1 (.cons 24 1 .nil))))))))))))))))))))))))) mixed (by kernel_rfl) fun w3 E2 => ?_
            replace H := H.grow E2
            replace R0 := H.ext
            refine DW.fix rfl rfl rfl (fun _ EQ => RV.move rfl) ?_
            refine DW.fix rfl rfl rfl (fun _ EQ => RV.move rfl) ?_
            refine DW.fix rfl rfl rfl (fun _ EQ => RV.indexAddr Ts30 rfl rfl hbx2 (h_a1.addr_ hx2)) ?_
            refine DW.fix rfl rfl rfl (fun _ EQ => RV.load1 Tk3 rfl ((h_a1.at_ hx2).ext (R0.trans EQ)) rfl) ?_
            refine DW.fix rfl rfl rfl (fun _ EQ => RV.fieldAddr Tf24_0 rfl) ?_
            refine DW.fix rfl rfl rfl (fun _ EQ => RV.load1 Tk3 rfl (((H.grow EQ).blk 0 rfl).cells.off 0) rfl) ?_
            refine DW.fix rfl rfl rfl (fun _ EQ => RV.sub rfl rfl hg4) ?_
            refine DW.sole rfl rfl rfl (OW.call Tc60 rfl (ref02_within_ok (a0 := x2) (a1 := (0 : Int)) (a2 := a0.nodes - 1) hr2) ?_)
            rintro _ w4 ⟨rfl, E3⟩
            refine ⟨_, rfl, fun _ => E3, ModX.ext E3, ?_⟩
            replace H := H.grow E3
            replace R0 := H.ext
            refine DW.fix rfl rfl rfl (fun _ EQ => RV.not rfl) ?_
            refine DW.fix rfl rfl rfl (fun _ EQ => RV.move rfl) ?_
            refine DW.fixYB rfl rfl rfl rfl rfl (not_f hq3) (fun _ EQ => RV.move rfl) ?_
            refine DW.fixYB rfl rfl rfl rfl rfl (not_f hq3) (fun _ EQ => RV.gtr rfl rfl) ?_
            refine DW.fixYB rfl rfl rfl rfl rfl (not_f hq3) (fun _ EQ => RV.move rfl) ?_
            refine DW.fixYB rfl rfl rfl rfl rfl hq4 (fun _ EQ => RV.move rfl) ?_
            refine DW.fixYB rfl rfl rfl rfl rfl hq4 (fun _ EQ => RV.move rfl) ?_
            refine DW.fixYB rfl rfl rfl rfl rfl hq4 (fun _ EQ => RV.indexAddr Ts30 rfl rfl hbx3 (h_a1.addr_ hx3)) ?_
            refine DW.fixYB rfl rfl rfl rfl rfl hq4 (fun _ EQ => RV.load1 Tk3 rfl ((h_a1.at_ hx3).ext (R0.trans EQ)) rfl) ?_
            refine DW.fixYB rfl rfl rfl rfl rfl hq4 (fun _ EQ => RV.move rfl) ?_
            refine DW.fixYB rfl rfl rfl rfl rfl hq4 (fun _ EQ => RV.move rfl) ?_
            refine DW.fixYB rfl rfl rfl rfl rfl hq4 (fun _ EQ => RV.sub rfl rfl hg5) ?_
            refine DW.fixYB rfl rfl rfl rfl rfl hq4 (fun _ EQ => RV.indexAddr Ts30 rfl rfl hbx4 (h_a1.addr_ hx4)) ?_
            refine DW.fixYB rfl rfl rfl rfl rfl hq4 (fun _ EQ => RV.load1 Tk3 rfl ((h_a1.at_ hx4).ext (R0.trans EQ)) rfl) ?_
            refine DW.fixYB rfl rfl rfl rfl rfl hq4 (fun _ EQ => RV.leq rfl rfl) ?_
            refine DW.fixYB rfl rfl rfl rfl rfl (not_f hq3) (fun _ EQ => RV.pickTB rfl hq4 rfl) ?_
            refine DW.fix rfl rfl rfl (fun _ EQ => RV.pickFB rfl (not_f hq3) rfl) ?_
            refine DW.nil (jK84 _ _ ⟨_, ?_, ⟨(decide (x3 ≤ x4)), F, rfl, H⟩⟩)
            exact ⟨rfl, rfl, rfl, rfl, rfl, rfl, rfl, trivial⟩
          ·
            replace F := ite_n hp4 F
            have hq4 := dec_f hp4
            refine CW.draw [] (fun _ => True) (.cons 0 1 (.cons 1 1 (.cons 2 1 (.cons 3 1 (.cons 4 1 (.cons 5 1 (.cons 6 1 (.cons 7 0 (.cons 8 1 (.cons 9 1 (.cons 10 1 (.cons 11 1 (.cons 12 1 (.cons 13 1 (.cons 14 1 (.cons 15 1 (.cons 16 1 (.cons 17 1 (.cons 18 1 (.cons 19 1 (.cons 20 1 (.cons 21 1 (.cons 22 1 (.cons 23 1 (.cons 24 1 .nil))))))))))))))))))))))))) mixed (by kernel_rfl) fun w5 E4 => ?_
            replace H := H.grow E4
            replace R0 := H.ext
            refine DW.fix rfl rfl rfl (fun _ EQ => RV.move rfl) ?_
            refine DW.fix rfl rfl rfl (fun _ EQ => RV.move rfl) ?_
            refine DW.fix rfl rfl rfl (fun _ EQ => RV.indexAddr Ts30 rfl rfl hbx2 (h_a1.addr_ hx2)) ?_
            refine DW.fix rfl rfl rfl (fun _ EQ => RV.load1 Tk3 rfl ((h_a1.at_ hx2).ext (R0.trans EQ)) rfl) ?_
            refine DW.fix rfl rfl rfl (fun _ EQ => RV.fieldAddr Tf24_0 rfl) ?_
            refine DW.fix rfl rfl rfl (fun _ EQ => RV.load1 Tk3 rfl (((H.grow EQ).blk 0 rfl).cells.off 0) rfl) ?_
            refine DW.fix rfl rfl rfl (fun _ EQ => RV.sub rfl rfl hg4) ?_
            refine DW.sole rfl rfl rfl (OW.call Tc60 rfl (ref02_within_ok (a0 := x2) (a1 := (0 : Int)) (a2 := a0.nodes - 1) hr2) ?_)
            rintro _ w6 ⟨rfl, E5⟩
            refine ⟨_, rfl, fun _ => E5, ModX.ext E5, ?_⟩
            replace H := H.grow E5
            replace R0 := H.ext
            refine DW.fix rfl rfl rfl (fun _ EQ => RV.not rfl) ?_
            refine DW.fix rfl rfl rfl (fun _ EQ => RV.move rfl) ?_
            refine DW.fixYB rfl rfl rfl rfl rfl (not_f hq3) (fun _ EQ => RV.move rfl) ?_
            refine DW.fixYB rfl rfl rfl rfl rfl (not_f hq3) (fun _ EQ => RV.gtr rfl rfl) ?_
            refine DW.fixYB rfl rfl rfl rfl rfl (not_f hq3) (fun _ EQ => RV.move rfl) ?_
            refine DW.fixNB rfl rfl rfl rfl rfl (ne_beq (v := false) hq4 rfl) ?_
            refine DW.fixNB rfl rfl rfl rfl rfl (ne_beq (v := false) hq4 rfl) ?_
            refine DW.fixNB rfl rfl rfl rfl rfl (ne_beq (v := false) hq4 rfl) ?_
            refine DW.fixNB rfl rfl rfl rfl rfl (ne_beq (v := false) hq4 rfl) ?_
            refine DW.fixNB rfl rfl rfl rfl rfl (ne_beq (v := false) hq4 rfl) ?_
            refine DW.fixNB rfl rfl rfl rfl rfl (ne_beq (v := false) hq4 rfl) ?_
            refine DW.fixNB rfl rfl rfl rfl rfl (ne_beq (v := false) hq4 rfl) ?_
            refine DW.fixNB rfl rfl rfl rfl rfl (ne_beq (v := false) hq4 rfl) ?_
            refine DW.fixNB rfl rfl rfl rfl rfl (ne_beq (v := false) hq4 rfl) ?_
            refine DW.fixNB rfl rfl rfl rfl rfl (ne_beq (v := false) hq4 rfl) ?_
            refine DW.fixYB rfl rfl rfl rfl rfl (not_f hq3) (fun _ EQ => RV.pickFB rfl hq4 rfl) ?_
            refine DW.fix rfl rfl rfl (fun _ EQ => RV.pickFB rfl (not_f hq3) rfl) ?_
            refine DW.nil (jK84 _ _ ⟨_, ?_, ⟨false, F, rfl, H⟩⟩)
            exact ⟨rfl, rfl, rfl, rfl, rfl, rfl, rfl, trivial⟩
        ·
          replace F := ite_n hp3 F
          have hq3 : r2 = false := raw_f hp3
          refine CW.draw [] (fun _ => True) (.cons 0 1 (.cons 1 1 (.cons 2 1 (.cons 3 1 (.cons 4 1 (.cons 5 1 (.cons 6 1 (.cons 7 0 (.cons 8 1 (.cons 9 1 (.cons 10 1 (.cons 11 1 (.cons 12 1 (.cons 13 1 (.cons 14 1 (.cons 15 1 (.cons 16 1 (.cons 17 1 (.cons 18 1 (.cons 19 1 (.cons 20 1 (.cons 21 1 (.cons 22 1 (.cons 23 1 (.cons 24 1 .nil))))))))))))))))))))))))) mixed (by kernel_rfl) fun w7 E6 => ?_
          replace H := H.grow E6
          replace R0 := H.ext
          refine DW.fix rfl rfl rfl (fun _ EQ => RV.move rfl) ?_
          refine DW.fix rfl rfl rfl (fun _ EQ => RV.move rfl) ?_
          refine DW.fix rfl rfl rfl (fun _ EQ => RV.indexAddr Ts30 rfl rfl hbx2 (h_a1.addr_ hx2)) ?_
          refine DW.fix rfl rfl rfl (fun _ EQ => RV.load1 Tk3 rfl ((h_a1.at_ hx2).ext (R0.trans EQ)) rfl) ?_
          refine DW.fix rfl rfl rfl (fun _ EQ => RV.fieldAddr Tf24_0 rfl) ?_
          refine DW.fix rfl rfl rfl (fun _ EQ => RV.load1 Tk3 rfl (((H.grow EQ).blk 0 rfl).cells.off 0) rfl) ?_
          refine DW.fix rfl rfl rfl (fun _ EQ => RV.sub rfl rfl hg4) ?_
          refine DW.sole rfl rfl rfl (OW.call Tc60 rfl (ref02_within_ok (a0 := x2) (a1 := (0 : Int)) (a2 := a0.nodes - 1) hr2) ?_)
          rintro _ w8 ⟨rfl, E7⟩
          refine ⟨_, rfl, fun _ => E7, ModX.ext E7, ?_⟩
          replace H := H.grow E7
          replace R0 := H.ext
          refine DW.fix rfl rfl rfl (fun _ EQ => RV.not rfl) ?_
          refine DW.fix rfl rfl rfl (fun _ EQ => RV.move rfl) ?_
          refine DW.fixNB rfl rfl rfl rfl rfl (ne_beq (v := true) (not_t hq3) rfl) ?_
          refine DW.fixNB rfl rfl rfl rfl rfl (ne_beq (v := true) (not_t hq3) rfl) ?_
          refine DW.fixNB rfl rfl rfl rfl rfl (ne_beq (v := true) (not_t hq3) rfl) ?_
          refine DW.fixNU rfl rfl rfl rfl rfl ?_
          refine DW.fixNU rfl rfl rfl rfl rfl ?_
          refine DW.fixNU rfl rfl rfl rfl rfl ?_
          refine DW.fixNU rfl rfl rfl rfl rfl ?_
          refine DW.fixNU rfl rfl rfl rfl rfl ?_
          refine DW.fixNU rfl rfl rfl rfl rfl ?_
          refine DW.fixNU rfl rfl rfl rfl rfl ?_
          refine DW.fixNU rfl rfl rfl rfl rfl ?_
          refine DW.fixNU rfl rfl rfl rfl rfl ?_
          refine DW.fixNU rfl rfl rfl rfl rfl ?_
          refine DW.fixNB rfl rfl rfl rfl rfl (ne_beq (v := true) (not_t hq3) rfl) ?_
          refine DW.fix rfl rfl rfl (fun _ EQ => RV.pickTB rfl (not_t hq3) rfl) ?_
          refine DW.nil (jK84 _ _ ⟨_, ?_, ⟨true, F, rfl, H⟩⟩)
          exact ⟨rfl, rfl, rfl, rfl, rfl, rfl, rfl, trivial⟩
    ·
      replace F := ite_n hp1 F
      have hq1 := dec_f hp1
      refine CW.condF rfl hq1 ?_
      refine CW.exit (jK65 _ _ ⟨_, ?_, ⟨t6_2, F, rfl, H⟩⟩)
      exact ⟨rfl, rfl, rfl, rfl, trivial⟩
set_option maxRecDepth 20000 in
set_option maxHeartbeats 1000000 in
theorem ref02_Across_ok {a0 : Net} {a1 : List Int} {A_a0_drains : Option Addr} {c_a0_drains : Nat} {A_a1 : Option Addr} {c_a1 : Nat} {w : World} {res : Int × Int} (h_a0_drains : Sl w A_a0_drains c_a0_drains 3 (a0.drains.map encDrain)) (h_a1 : Sl w A_a1 c_a1 1 (a1.map encN)) (F : ref02_Across a0 a1 = some res) : Calls Try.prog 29 #[.agg #[.int .i64 a0.nodes, .int .i64 a0.from_, .int .i64 a0.to_, .slice A_a0_drains a0.drains.length c_a0_drains], .slice A_a1 a1.length c_a1] w (Rt w (.tuple #[.int .i64 res.1, .int .i64 res.2])) := by
  refine calls_of_cw (args := [.agg #[.int .i64 a0.nodes, .int .i64 a0.from_, .int .i64 a0.to_, .slice A_a0_drains a0.drains.length c_a0_drains], .slice A_a1 a1.length c_a1]) Try.func29 rfl rfl rfl rfl ?_
  have H := Hp.start w
  have R0 := H.ext
  unfold ref02_Across at F
  refine CW.seq fun K1 hK1 => ?_
  refine CW.region ?_
  refine LW.go rfl rfl (OW.box rfl fun b1 w1 N1 => ?_)
  replace H := H.new N1 N1.blk
  replace R0 := H.ext
  refine LW.pure rfl rfl (RV.assign rfl) ?_
  refine LW.pure rfl rfl (RV.assign rfl) ?_
  refine LW.nil (hK1 _ _ ?_)
  refine CW.seq fun K2 hK2 => ?_
  refine CW.seq fun K3 hK3 => ?_
  obtain ⟨r1, hr1, F⟩ := bnd_some F
  refine CW.region ?_
  refine LW.pure rfl rfl (RV.loadA [.int .i64 a0.nodes, .int .i64 a0.from_, .int .i64 a0.to_, .slice A_a0_drains a0.drains.length c_a0_drains] Tk24 rfl (H.blk 0 rfl).cells rfl rfl) ?_
  refine LW.go rfl rfl (OW.call Tc27 rfl (ref02_Validate_ok (a0 := a0) (h_a0_drains.ext R0) hr1) ?_)
  rintro _ w2 ⟨rfl, E1⟩
  refine ⟨_, rfl, ?_⟩
  replace H := H.grow E1
  replace R0 := H.ext
  refine LW.pure rfl rfl (RV.assign rfl) ?_
  refine LW.nil (hK3 _ _ ?_)
  refine CW.seq fun K4 hK4 => ?_
  refine CW.region ?_
  refine LW.pure rfl rfl (RV.move rfl) ?_
  refine LW.pure rfl rfl (RV.nei rfl rfl) ?_
  refine LW.nil (hK4 _ _ ?_)
  by_cases hp1 : r1 = 0
  ·
    replace F := ite_y hp1 F
    have hq1 := dec_t hp1
    refine CW.condF rfl (not_f hq1) ?_
    refine CW.skip (hK2 _ _ ?_)
    refine CW.seq fun K5 hK5 => ?_
    obtain ⟨r2, hr2, F⟩ := bnd_some F
    refine CW.region ?_
    refine LW.pure rfl rfl (RV.loadA [.int .i64 a0.nodes, .int .i64 a0.from_, .int .i64 a0.to_, .slice A_a0_drains a0.drains.length c_a0_drains] Tk24 rfl (H.blk 0 rfl).cells rfl rfl) ?_
    refine LW.pure rfl rfl (RV.move rfl) ?_
    refine LW.go rfl rfl (OW.call Tc67 rfl (ref02_mask_ok (a0 := a0) (a1 := a1) (h_a0_drains.ext R0) (h_a1.ext R0) hr2) ?_)
    rintro _ w3 ⟨rfl, E2⟩
    refine ⟨_, rfl, ?_⟩
    replace H := H.grow E2
    replace R0 := H.ext
    refine LW.pure rfl rfl (RV.move rfl) ?_
    refine LW.pure rfl rfl (RV.extract rfl rfl) ?_
    refine LW.pure rfl rfl (RV.extract rfl rfl) ?_
    refine LW.pure rfl rfl (RV.assign rfl) ?_
    refine LW.pure rfl rfl (RV.assign rfl) ?_
    refine LW.nil (hK5 _ _ ?_)
    refine CW.seq fun K6 hK6 => ?_
    refine CW.seq fun K7 hK7 => ?_
    refine CW.region ?_
    refine LW.pure rfl rfl (RV.move rfl) ?_
    refine LW.pure rfl rfl (RV.not rfl) ?_
    refine LW.nil (hK7 _ _ ?_)
    by_cases hp2 : r2.2 = true
    ·
      replace F := ite_y hp2 F
      have hq2 : r2.2 = true := hp2
      refine CW.condF rfl (not_f hq2) ?_
      refine CW.skip (hK6 _ _ ?_)
      refine CW.seq fun K8 hK8 => ?_
      obtain ⟨r3, hr3, F⟩ := bnd_some F
      refine CW.region ?_
      refine LW.pure rfl rfl (RV.loadA [.int .i64 a0.nodes, .int .i64 a0.from_, .int .i64 a0.to_, .slice A_a0_drains a0.drains.length c_a0_drains] Tk24 rfl (H.blk 0 rfl).cells rfl rfl) ?_
      refine LW.pure rfl rfl (RV.move rfl) ?_
      refine LW.go rfl rfl (OW.call Tc68 rfl (ref02_width_ok (a0 := a0) (a1 := r2.1) (h_a0_drains.ext R0) hr3) ?_)
      rintro _ w4 ⟨rfl, E3⟩
      refine ⟨_, rfl, ?_⟩
      replace H := H.grow E3
      replace R0 := H.ext
      refine LW.pure rfl rfl (RV.assign rfl) ?_
      refine LW.pure rfl rfl (RV.assign rfl) ?_
      refine LW.nil (hK8 _ _ ?_)
      refine CW.ret ?_
      obtain rfl := Option.some.inj F
      refine ⟨_, (ResOK.two rfl rfl), ?_⟩
      refine ⟨(by first | rfl | simp), R0⟩
    ·
      replace F := ite_n hp2 F
      have hq2 : r2.2 = false := raw_f hp2
      refine CW.condT rfl (not_t hq2) ?_
      refine CW.seq fun K9 hK9 => ?_
      refine CW.region ?_
      refine LW.pure rfl rfl (RV.assign rfl) ?_
      refine LW.pure rfl rfl (RV.assign rfl) ?_
      refine LW.nil (hK9 _ _ ?_)
      refine CW.ret ?_
      obtain rfl := Option.some.inj F
      refine ⟨_, (ResOK.two rfl rfl), ?_⟩
      refine ⟨(by first | rfl | simp), R0⟩
  ·
    replace F := ite_n hp1 F
    have hq1 := dec_f hp1
    refine CW.condT rfl (not_t hq1) ?_
    refine CW.seq fun K10 hK10 => ?_
    refine CW.region ?_
    refine LW.pure rfl rfl (RV.move rfl) ?_
    refine LW.pure rfl rfl (RV.assign rfl) ?_
    refine LW.pure rfl rfl (RV.assign rfl) ?_
    refine LW.nil (hK10 _ _ ?_)
    refine CW.ret ?_
    obtain rfl := Option.some.inj F
    refine ⟨_, (ResOK.two rfl rfl), ?_⟩
    refine ⟨(by first | rfl | simp), R0⟩
set_option maxRecDepth 20000 in
set_option maxHeartbeats 1000000 in
theorem drain_Least_1_ok {cap0 : Net} {cap1 : List Left} {a0 : Int} {A_cap0_drains : Option Addr} {c_cap0_drains : Nat} {b_cap0 : Nat} {A_cap1 : Option Addr} {c_cap1 : Nat} {b_cap1 : Nat} {w : World} {res : Bool} (h_cap0_drains : Sl w A_cap0_drains c_cap0_drains 3 (cap0.drains.map encDrain)) (hc_cap0 : Cells w ⟨b_cap0, 0, none⟩ [.int .i64 cap0.nodes, .int .i64 cap0.from_, .int .i64 cap0.to_, .slice A_cap0_drains cap0.drains.length c_cap0_drains]) (h_cap1 : Sl w A_cap1 c_cap1 4 (cap1.map encLeft)) (hc_cap1 : Cells w ⟨b_cap1, 0, none⟩ [.slice A_cap1 cap1.length c_cap1]) (F : drain_Least_1 cap0 cap1 a0 = some res) : Calls Try.prog 70 #[.int .i64 a0, .pointer (some (⟨b_cap0, 0, none⟩)), .pointer (some (⟨b_cap1, 0, none⟩))] w (Rt w (.bool res)) := by
  refine calls_of_cw (args := [.int .i64 a0, .pointer (some (⟨b_cap0, 0, none⟩)), .pointer (some (⟨b_cap1, 0, none⟩))]) Try.func70 rfl rfl rfl rfl ?_
  have H := Hp.start w
  have R0 := H.ext
  unfold drain_Least_1 at F
  refine CW.seq fun K1 hK1 => ?_
  refine CW.region ?_
  refine LW.pure rfl rfl (RV.assign rfl) ?_
  refine LW.nil (hK1 _ _ ?_)
  refine CW.seq fun K2 hK2 => ?_
  by_cases hp1 : a0 = cap0.from_
  ·
    replace F := ite_y hp1 F
    have hq1 := dec_t hp1
    refine CW.region ?_
    refine LW.pure rfl rfl (RV.move rfl) ?_
    refine LW.pure rfl rfl (RV.fieldAddr Tf24_1 rfl) ?_
    refine LW.pure rfl rfl (RV.load1 Tk3 rfl ((hc_cap0.ext R0).off 1) rfl) ?_
    refine LW.pure rfl rfl (RV.eqi rfl rfl) ?_
    refine LW.pure rfl rfl (RV.move rfl) ?_
    refine LW.noB rfl rfl rfl rfl (ne_beq (v := true) hq1 rfl) ?_
    refine LW.noB rfl rfl rfl rfl (ne_beq (v := true) hq1 rfl) ?_
    refine LW.noB rfl rfl rfl rfl (ne_beq (v := true) hq1 rfl) ?_
    refine LW.noB rfl rfl rfl rfl (ne_beq (v := true) hq1 rfl) ?_
    refine LW.noB rfl rfl rfl rfl (ne_beq (v := true) hq1 rfl) ?_
    refine LW.noB rfl rfl rfl rfl (ne_beq (v := true) hq1 rfl) ?_
    refine LW.pure rfl rfl (RV.pickTB rfl hq1 rfl) ?_
    refine LW.pure rfl rfl (RV.assign rfl) ?_
    refine LW.nil (hK2 _ _ ?_)
    refine CW.ret ?_
    obtain rfl := Option.some.inj F
    refine ⟨_, (ResOK.one rfl), ?_⟩
    refine ⟨(by first | rfl | simp), R0⟩
  ·
    replace F := ite_n hp1 F
    have hq1 := dec_f hp1
    obtain ⟨r1, hr1, F⟩ := bnd_some F
    refine CW.region ?_
    refine LW.pure rfl rfl (RV.move rfl) ?_
    refine LW.pure rfl rfl (RV.fieldAddr Tf24_1 rfl) ?_
    refine LW.pure rfl rfl (RV.load1 Tk3 rfl ((hc_cap0.ext R0).off 1) rfl) ?_
    refine LW.pure rfl rfl (RV.eqi rfl rfl) ?_
    refine LW.pure rfl rfl (RV.move rfl) ?_
    refine LW.pureYB rfl rfl rfl rfl hq1 (RV.load1 Tk63 rfl (hc_cap1.ext R0) rfl) ?_
    refine LW.pureYB rfl rfl rfl rfl hq1 (RV.fieldAddr Tf24_1 rfl) ?_
    refine LW.pureYB rfl rfl rfl rfl hq1 (RV.load1 Tk3 rfl ((hc_cap0.ext R0).off 1) rfl) ?_
    refine LW.pureYB rfl rfl rfl rfl hq1 (RV.move rfl) ?_
    refine LW.yesB rfl rfl rfl rfl hq1 (OW.call Tc71 rfl (drain_search_ok (a0 := cap1) (a1 := cap0.from_) (a2 := a0) (h_cap1.ext R0) hr1) ?_)
    rintro _ w1 ⟨A3_0, c3_0, rfl, hnl3_, E1⟩
    refine ⟨_, rfl, ?_⟩
    replace H : Hp w w1 [.own A3_0 c3_0 3 1 (List.map encN r1)] := H.append E1
    replace R0 := H.ext
    refine LW.pureYB rfl rfl rfl rfl hq1 (RV.nenilL (l := r1) Ts30 rfl rfl hnl3_) ?_
    refine LW.pure rfl rfl (RV.pickFB rfl hq1 rfl) ?_
    refine LW.pure rfl rfl (RV.assign rfl) ?_
    refine LW.nil (hK2 _ _ ?_)
    refine CW.ret ?_
    obtain rfl := Option.some.inj F
    refine ⟨_, (ResOK.one rfl), ?_⟩
    refine ⟨(by first | rfl | simp), R0⟩
set_option maxRecDepth 20000 in
set_option maxHeartbeats 1000000 in
theorem drain_nodes_ok {a0 : Net} {a1 : Int → Option Bool} {A_a0_drains : Option Addr} {c_a0_drains : Nat} {f_a1 : Nat} {p_a1 : Array Value} {q_a1 : Array Value} {w : World} {res : (List Int)} (h_a0_drains : Sl w A_a0_drains c_a0_drains 3 (a0.drains.map encDrain)) (h_a1 : ∀ (x0 : Int) (r : Bool), a1 x0 = some r → ∀ w1, Ext w w1 → CallsV Try.prog f_a1 p_a1 q_a1 #[.int .i64 x0] w1 (Rt w1 (.bool r))) (F : drain_nodes a0 a1 = some res) : Calls Try.prog 69 #[.agg #[.int .i64 a0.nodes, .int .i64 a0.from_, .int .i64 a0.to_, .slice A_a0_drains a0.drains.length c_a0_drains], .func (.func f_a1) p_a1 q_a1] w (fun e w' => ∃ (A1 : Option Addr) (c1 : Nat), e = .returned (.slice A1 res.length c1) ∧ Hp w w' [.own A1 c1 3 1 (List.map encN res)]) := by
  refine calls_of_cw (args := [.agg #[.int .i64 a0.nodes, .int .i64 a0.from_, .int .i64 a0.to_, .slice A_a0_drains a0.drains.length c_a0_drains], .func (.func f_a1) p_a1 q_a1]) Try.func69 rfl rfl rfl rfl ?_
  have H := Hp.start w
  have R0 := H.ext
  unfold drain_nodes at F
  refine CW.seq fun K1 hK1 => ?_
  refine CW.region ?_
  refine LW.go rfl rfl (OW.box rfl fun b1 w2 N1 => ?_)
  replace H := H.new N1 N1.blk
  replace R0 := H.ext
  refine LW.pure rfl rfl (RV.assign rfl) ?_
  refine LW.nil (hK1 _ _ ?_)
  refine CW.seq fun K2 hK2 => ?_
  refine CW.region ?_
  refine LW.pure rfl rfl (RV.assign rfl) ?_
  refine LW.nil (hK2 _ _ ?_)
  refine CW.seqJ (fun ρ wl1 => (∃ (l1 : List Int) (Al1 : Option Addr) (cl1 : Nat), drain_nodes_k1 l1 = some res ∧ ρ = [(4, .slice none 0 0), (5, .slice Al1 l1.length cl1)] ∧ Hp w wl1 [.own Al1 cl1 3 1 (List.map encN l1)])) ?_ ?_
  ·
    rintro _ wl1 ⟨l1, Al1, cl1, F, rfl, H⟩
    have R0 := H.ext
    unfold drain_nodes_k1 at F
    refine CW.seq fun K3 hK3 => ?_
    refine CW.region ?_
    refine LW.pure rfl rfl (RV.move rfl) ?_
    refine LW.pure rfl rfl (RV.assign rfl) ?_
    refine LW.nil (hK3 _ _ ?_)
    refine CW.ret ?_
    obtain rfl := Option.some.inj F
    refine ⟨_, (ResOK.one rfl), ?_⟩
    exact ⟨Al1, cl1, (by first | rfl | (simp; done) | (simp; omega)), H⟩
  ·
    intro K4 hK4 jK74
    refine CW.seq fun K5 hK5 => ?_
    refine CW.region ?_
    refine LW.pure rfl rfl (RV.fieldAddr Tf24_0 rfl) ?_
    refine LW.pure rfl rfl (RV.load1 Tk3 rfl ((H.blk 0 rfl).cells.off 0) rfl) ?_
    refine LW.pure rfl rfl (RV.move rfl) ?_
    refine LW.nil (hK5 _ _ ?_)
    refine CW.block ?_
    replace H := H.nilOwn 3 1
    replace R0 := H.ext
    replace H := H.pick (L' := [.own none 0 3 1 (List.map encN (([] : List Int)))]) [0] (by decide) rfl
    replace R0 := H.ext
    refine CW.loop (fun meas ρ wl2 => ∃ (t9_1 : Int) (l3 : List Int) (Al3 : Option Addr) (cl3 : Nat), drain_nodes_L1 a0 a1 meas t9_1 l3 = some res ∧ ρ = [(1, .func (.func f_a1) p_a1 q_a1), (4, .slice none 0 0), (5, .slice Al3 l3.length cl3), (8, .int .i64 a0.nodes), (9, .int .i64 t9_1)] ∧ Hp w wl2 [.own Al3 cl3 3 1 (List.map encN l3)]) FU ⟨_, ?_, ((0 : Int)), (([] : List Int)), none, 0, F, rfl, H⟩ ?_
    · exact ⟨rfl, rfl, (look_slice rfl (by first | rfl | (simp; done) | (simp; omega))), rfl, rfl, trivial⟩
    rintro mk1 _ wl2 ⟨t9_1, l3, Al3, cl3, F, rfl, H⟩
    have R0 := H.ext
    replace F := drain_nodes_L1_s F
    obtain ⟨mk1, rfl, F⟩ := F
    generalize hrec1 : drain_nodes_L1 a0 a1 mk1 = rec1 at F
    unfold drain_nodes_B1 at F
    refine CW.seq fun K6 hK6 => ?_
    refine CW.region ?_
    refine LW.pure rfl rfl (RV.lss rfl rfl) ?_
    refine LW.nil (hK6 _ _ ?_)
    refine CW.seq fun K7 hK7 => ?_
    by_cases hp1 : t9_1 < a0.nodes
    ·
      replace F := ite_y hp1 F
      have hq1 := dec_t hp1
      refine CW.condT rfl hq1 ?_
      refine CW.skip (hK7 _ _ ?_)
      refine CW.seqJ (fun ρ wl3 => (∃ (l2 : List Int) (Al2 : Option Addr) (cl2 : Nat), drain_nodes_k2 t9_1 rec1 l2 = some res ∧ ρ = [(1, .func (.func f_a1) p_a1 q_a1), (4, .slice none 0 0), (5, .slice Al2 l2.length cl2), (8, .int .i64 a0.nodes), (9, .int .i64 t9_1)] ∧ Hp w wl3 [.own Al2 cl2 3 1 (List.map encN l2)])) ?_ ?_
      ·
        rintro _ wl3 ⟨l2, Al2, cl2, F, rfl, H⟩
        have R0 := H.ext
        unfold drain_nodes_k2 at F
        obtain ⟨hg1, F⟩ := gd_some F
        refine CW.region ?_
        refine LW.pure rfl rfl (RV.add rfl rfl hg1) ?_
        refine LW.pure rfl rfl (RV.move rfl) ?_
        refine LW.nil ?_
        subst hrec1
        refine ⟨mk1, Nat.lt_succ_self _, _, ?_, (t9_1 + 1), l2, Al2, cl2, F, rfl, H⟩
        exact ⟨rfl, rfl, (look_slice rfl (by first | rfl | (simp; done) | (simp; omega))), rfl, rfl, trivial⟩
      ·
        intro K8 hK8 jK94
        refine CW.block ?_
        refine CW.seq fun K9 hK9 => ?_
        refine CW.region ?_
        refine LW.pure rfl rfl (RV.move rfl) ?_
        refine LW.pure rfl rfl (RV.assign rfl) ?_
        refine LW.nil (hK9 _ _ ?_)
        refine CW.seq fun K10 hK10 => ?_
        obtain ⟨r1, hr1, F⟩ := bnd_some F
        refine CW.region ?_
        refine LW.pure rfl rfl (RV.move rfl) ?_
        refine LW.pure rfl rfl (RV.move rfl) ?_
        refine LW.go rfl rfl (OW.callV2 rfl rfl rfl (h_a1 _ _ hr1 _ R0) ?_)
        rintro _ w3 ⟨rfl, E1⟩
        refine ⟨_, rfl, ?_⟩
        replace H := H.grow E1
        replace R0 := H.ext
        refine LW.nil (hK10 _ _ ?_)
        by_cases hp2 : r1 = true
        ·
          replace F := ite_y hp2 F
          have hq2 : r1 = true := hp2
          refine CW.condT rfl hq2 ?_
          obtain ⟨hg2, F⟩ := gd_some F
          refine CW.region ?_
          refine LW.pure rfl rfl (RV.move rfl) ?_
          refine LW.pure rfl rfl (RV.move rfl) ?_
          refine LW.go rfl rfl (OW.buildSlice (e := 3) (vs := [.int .i64 t9_1]) (cs := [.int .i64 t9_1]) rfl (fun _ => by kernel_rfl) fun b2 w4 N2 => ?_)
          replace H := H.made' (k := 1) (t := 3) (enc := encN) (l := ([t9_1] : List Int)) N2 N2.blk (fun _ => rfl) rfl (by first | decide | omega | (simp; done) | (simp; omega))
          replace R0 := H.ext
          refine LW.go rfl rfl (OW.appendG (enc := encN) (l := l3) (xs := ([t9_1] : List Int)) Ts30 rfl (look_slice rfl (by first | rfl | (simp; done) | (simp; omega))) (H.own 1 rfl) (H.own 0 rfl).sl (fun _ => rfl) rfl rfl hg2 (by decide) fun A2 c2 w5 O1 M1 D1 => ?_)
          replace H : Hp w w5 [.own (some ⟨b2, 0, none⟩) ((([t9_1] : List Int)).length) 3 1 (List.map encN (([t9_1] : List Int))), .own A2 c2 3 1 (List.map encN ((l3 ++ ([t9_1] : List Int))))] := H.mod 1 rfl M1 O1 D1
          replace R0 := H.ext
          refine LW.pure rfl rfl (RV.assign rfl) ?_
          replace H := H.pick (L' := [.own A2 c2 3 1 (List.map encN ((l3 ++ ([t9_1] : List Int))))]) [1] (by decide) rfl
          replace R0 := H.ext
          refine LW.nil (jK94 _ _ ⟨_, ?_, ⟨((l3 ++ ([t9_1] : List Int))), A2, c2, F, rfl, H⟩⟩)
          exact ⟨rfl, rfl, (look_slice rfl (by first | rfl | (simp; done) | (simp; omega))), rfl, rfl, trivial⟩
        ·
          replace F := ite_n hp2 F
          have hq2 : r1 = false := raw_f hp2
          refine CW.condF rfl hq2 ?_
          refine CW.skip (jK94 _ _ ⟨_, ?_, ⟨l3, Al3, cl3, F, rfl, H⟩⟩)
          exact ⟨rfl, rfl, (look_slice rfl (by first | rfl | (simp; done) | (simp; omega))), rfl, rfl, trivial⟩
    ·
      replace F := ite_n hp1 F
      have hq1 := dec_f hp1
      refine CW.condF rfl hq1 ?_
      refine CW.exit (jK74 _ _ ⟨_, ?_, ⟨l3, Al3, cl3, F, rfl, H⟩⟩)
      exact ⟨rfl, (look_slice rfl (by first | rfl | (simp; done) | (simp; omega))), trivial⟩
set_option maxRecDepth 20000 in
set_option maxHeartbeats 1000000 in
theorem drain_Least_ok {a0 : Net} {A_a0_drains : Option Addr} {c_a0_drains : Nat} {w : World} {res : (List Int) × Int} (h_a0_drains : Sl w A_a0_drains c_a0_drains 3 (a0.drains.map encDrain)) (F : drain_Least a0 = some res) : Calls Try.prog 30 #[.agg #[.int .i64 a0.nodes, .int .i64 a0.from_, .int .i64 a0.to_, .slice A_a0_drains a0.drains.length c_a0_drains]] w (fun e w' => ∃ (A0 : Option Addr) (c0 : Nat), e = .returned (.tuple #[.slice A0 res.1.length c0, .int .i64 res.2]) ∧ Hp w w' [.own A0 c0 3 1 (List.map encN res.1)]) := by
  refine calls_of_cw (args := [.agg #[.int .i64 a0.nodes, .int .i64 a0.from_, .int .i64 a0.to_, .slice A_a0_drains a0.drains.length c_a0_drains]]) Try.func30 rfl rfl rfl rfl ?_
  have H := Hp.start w
  have R0 := H.ext
  unfold drain_Least at F
  refine CW.seq fun K1 hK1 => ?_
  refine CW.region ?_
  refine LW.go rfl rfl (OW.box rfl fun b1 w1 N1 => ?_)
  replace H := H.new N1 N1.blk
  replace R0 := H.ext
  refine LW.pure rfl rfl (RV.assign rfl) ?_
  refine LW.pure rfl rfl (RV.assign rfl) ?_
  refine LW.nil (hK1 _ _ ?_)
  refine CW.seq fun K2 hK2 => ?_
  refine CW.seq fun K3 hK3 => ?_
  obtain ⟨r1, hr1, F⟩ := bnd_some F
  refine CW.region ?_
  refine LW.pure rfl rfl (RV.loadA [.int .i64 a0.nodes, .int .i64 a0.from_, .int .i64 a0.to_, .slice A_a0_drains a0.drains.length c_a0_drains] Tk24 rfl (H.blk 0 rfl).cells rfl rfl) ?_
  refine LW.go rfl rfl (OW.call Tc26 rfl (drain_Validate_ok (a0 := a0) (h_a0_drains.ext R0) hr1) ?_)
  rintro _ w2 ⟨rfl, E1⟩
  refine ⟨_, rfl, ?_⟩
  replace H := H.grow E1
  replace R0 := H.ext
  refine LW.pure rfl rfl (RV.assign rfl) ?_
  refine LW.nil (hK3 _ _ ?_)
  refine CW.seq fun K4 hK4 => ?_
  refine CW.region ?_
  refine LW.pure rfl rfl (RV.move rfl) ?_
  refine LW.pure rfl rfl (RV.nei rfl rfl) ?_
  refine LW.nil (hK4 _ _ ?_)
  by_cases hp1 : r1 = 0
  ·
    replace F := ite_y hp1 F
    have hq1 := dec_t hp1
    refine CW.condF rfl (not_f hq1) ?_
    refine CW.skip (hK2 _ _ ?_)
    refine CW.seq fun K5 hK5 => ?_
    obtain ⟨r2, hr2, F⟩ := bnd_some F
    refine CW.region ?_
    refine LW.pure rfl rfl (RV.loadA [.int .i64 a0.nodes, .int .i64 a0.from_, .int .i64 a0.to_, .slice A_a0_drains a0.drains.length c_a0_drains] Tk24 rfl (H.blk 0 rfl).cells rfl rfl) ?_
    refine LW.go rfl rfl (OW.call Tc59 rfl (drain_run_ok (a0 := a0) (h_a0_drains.ext R0) hr2) ?_)
    rintro _ w3 ⟨A7_0, c7_0, rfl, E2⟩
    refine ⟨_, rfl, ?_⟩
    replace H : Hp w w3 [.own A7_0 c7_0 87 4 (List.map encLeft r2), .blk b1 24 [.int .i64 a0.nodes, .int .i64 a0.from_, .int .i64 a0.to_, .slice A_a0_drains a0.drains.length c_a0_drains]] := H.append E2
    replace R0 := H.ext
    refine LW.go rfl rfl (OW.alloc Tz63 fun b2 w4 N2 => ?_)
    replace H := H.new N2 N2.blk
    replace R0 := H.ext
    refine LW.go rfl rfl (OW.store Tk63 rfl rfl (H.blk 0 rfl) (off := 0) (vs := [.slice A7_0 r2.length c7_0]) rfl rfl rfl rfl rfl fun w5 S1 => ?_)
    replace H : Hp w w5 [.blk b2 63 [.slice A7_0 r2.length c7_0], .own A7_0 c7_0 87 4 (List.map encLeft r2), .blk b1 24 [.int .i64 a0.nodes, .int .i64 a0.from_, .int .i64 a0.to_, .slice A_a0_drains a0.drains.length c_a0_drains]] := H.stored 0 rfl S1
    replace R0 := H.ext
    refine LW.nil (hK5 _ _ ?_)
    refine CW.seq fun K6 hK6 => ?_
    obtain ⟨r3, hr3, F⟩ := bnd_some F
    refine CW.region ?_
    refine LW.pure rfl rfl (RV.loadA [.int .i64 a0.nodes, .int .i64 a0.from_, .int .i64 a0.to_, .slice A_a0_drains a0.drains.length c_a0_drains] Tk24 rfl (H.blk 2 rfl).cells rfl rfl) ?_
    refine LW.pure rfl rfl (RV.makeFunc (fs := []) (cs := [.pointer (some (⟨b1, 0, none⟩)), .pointer (some (⟨b2, 0, none⟩))]) rfl rfl) ?_
    refine LW.go rfl rfl (OW.call Tc69 rfl (drain_nodes_ok (a0 := a0) (a1 := (fun x0 => drain_Least_1 a0 r2 x0)) (h_a0_drains.ext R0) (fun x0 r hF w6 hE => CallsV.cap Tc70 (by simp) (drain_Least_1_ok (cap0 := a0) (cap1 := r2) (a0 := x0) ((h_a0_drains.ext R0).ext hE) ((H.blk 2 rfl).cells.ext hE) ((H.own 1 rfl).sl.ext hE) ((H.blk 0 rfl).cells.ext hE) hF)) hr3) ?_)
    rintro _ w7 ⟨A9_0, c9_0, rfl, E3⟩
    refine ⟨_, rfl, ?_⟩
    replace H : Hp w w7 [.own A9_0 c9_0 3 1 (List.map encN r3), .blk b2 63 [.slice A7_0 r2.length c7_0], .own A7_0 c7_0 87 4 (List.map encLeft r2), .blk b1 24 [.int .i64 a0.nodes, .int .i64 a0.from_, .int .i64 a0.to_, .slice A_a0_drains a0.drains.length c_a0_drains]] := H.append E3
    replace R0 := H.ext
    refine LW.pure rfl rfl (RV.assign rfl) ?_
    refine LW.pure rfl rfl (RV.assign rfl) ?_
    refine LW.nil (hK6 _ _ ?_)
    refine CW.ret ?_
    obtain rfl := Option.some.inj F
    refine ⟨_, (ResOK.two rfl rfl), ?_⟩
    replace H := H.pick (L' := [.own A9_0 c9_0 3 1 (List.map encN r3)]) [0] (by decide) rfl
    replace R0 := H.ext
    exact ⟨A9_0, c9_0, (by first | rfl | (simp; done) | (simp; omega)), H⟩
  ·
    replace F := ite_n hp1 F
    have hq1 := dec_f hp1
    refine CW.condT rfl (not_t hq1) ?_
    refine CW.seq fun K7 hK7 => ?_
    refine CW.region ?_
    refine LW.pure rfl rfl (RV.move rfl) ?_
    refine LW.pure rfl rfl (RV.assign rfl) ?_
    refine LW.pure rfl rfl (RV.assign rfl) ?_
    refine LW.nil (hK7 _ _ ?_)
    refine CW.ret ?_
    obtain rfl := Option.some.inj F
    refine ⟨_, (ResOK.two rfl rfl), ?_⟩
    replace H := H.nilOwn 3 1
    replace R0 := H.ext
    replace H := H.pick (L' := [.own none 0 3 1 (List.map encN (([] : List Int)))]) [0] (by decide) rfl
    replace R0 := H.ext
    exact ⟨none, 0, (by first | rfl | (simp; done) | (simp; omega)), H⟩
set_option maxRecDepth 20000 in
set_option maxHeartbeats 1000000 in
theorem ref02_list_ok {a0 : Int} {a1 : Int} {w : World} {res : (List Int)} (F : ref02_list a0 a1 = some res) : Calls Try.prog 73 #[.int .i64 a0, .int .i64 a1] w (fun e w' => ∃ (A1 : Option Addr) (c1 : Nat), e = .returned (.slice A1 res.length c1) ∧ Hp w w' [.own A1 c1 3 1 (List.map encN res)]) := by
  refine calls_of_cw (args := [.int .i64 a0, .int .i64 a1]) Try.func73 rfl rfl rfl rfl ?_
  have H := Hp.start w
  have R0 := H.ext
  unfold ref02_list at F
  refine CW.seq fun K1 hK1 => ?_
  refine CW.region ?_
  refine LW.pure rfl rfl (RV.assign rfl) ?_
  refine LW.nil (hK1 _ _ ?_)
  refine CW.seq fun K2 hK2 => ?_
  refine CW.region ?_
  refine LW.pure rfl rfl (RV.assign rfl) ?_
  refine LW.nil (hK2 _ _ ?_)
  refine CW.seqJ (fun ρ wl1 => (∃ (l1 : List Int) (Al1 : Option Addr) (cl1 : Nat), ref02_list_k1 l1 = some res ∧ ρ = [(4, .slice none 0 0), (5, .slice Al1 l1.length cl1)] ∧ Hp w wl1 [.own Al1 cl1 3 1 (List.map encN l1)])) ?_ ?_
  ·
    rintro _ wl1 ⟨l1, Al1, cl1, F, rfl, H⟩
    have R0 := H.ext
    unfold ref02_list_k1 at F
    refine CW.seq fun K3 hK3 => ?_
    refine CW.region ?_
    refine LW.pure rfl rfl (RV.move rfl) ?_
    refine LW.pure rfl rfl (RV.assign rfl) ?_
    refine LW.nil (hK3 _ _ ?_)
    refine CW.ret ?_
    obtain rfl := Option.some.inj F
    refine ⟨_, (ResOK.one rfl), ?_⟩
    exact ⟨Al1, cl1, (by first | rfl | (simp; done) | (simp; omega)), H⟩
  ·
    intro K4 hK4 jK56
    refine CW.seq fun K5 hK5 => ?_
    refine CW.region ?_
    refine LW.pure rfl rfl (RV.assign rfl) ?_
    refine LW.nil (hK5 _ _ ?_)
    refine CW.block ?_
    replace H := H.nilOwn 3 1
    replace R0 := H.ext
    refine CW.loop (fun meas ρ wl2 => ∃ (t6_1 : Int) (l3 : List Int) (Al3 : Option Addr) (cl3 : Nat), ref02_list_L1 a0 a1 meas t6_1 l3 = some res ∧ ρ = [(0, .int .i64 a0), (1, .int .i64 a1), (4, .slice none 0 0), (5, .slice Al3 l3.length cl3), (6, .int .i64 t6_1)] ∧ Hp w wl2 [.own Al3 cl3 3 1 (List.map encN l3)]) FU ⟨_, ?_, ((0 : Int)), (([] : List Int)), none, 0, F, rfl, H⟩ ?_
    · exact ⟨rfl, rfl, rfl, (look_slice rfl (by first | rfl | (simp; done) | (simp; omega))), rfl, trivial⟩
    rintro mk1 _ wl2 ⟨t6_1, l3, Al3, cl3, F, rfl, H⟩
    have R0 := H.ext
    replace F := ref02_list_L1_s F
    obtain ⟨mk1, rfl, F⟩ := F
    generalize hrec1 : ref02_list_L1 a0 a1 mk1 = rec1 at F
    unfold ref02_list_B1 at F
    refine CW.seq fun K6 hK6 => ?_
    refine CW.seq fun K7 hK7 => ?_
    refine CW.region ?_
    refine LW.pure rfl rfl (RV.move rfl) ?_
    refine LW.pure rfl rfl (RV.move rfl) ?_
    refine LW.pure rfl rfl (RV.lss rfl rfl) ?_
    refine LW.nil (hK7 _ _ ?_)
    by_cases hp1 : t6_1 < a1
    ·
      replace F := ite_y hp1 F
      have hq1 := dec_t hp1
      refine CW.condT rfl hq1 ?_
      refine CW.skip (hK6 _ _ ?_)
      refine CW.seqJ (fun ρ wl3 => (∃ (l2 : List Int) (Al2 : Option Addr) (cl2 : Nat), ref02_list_k2 t6_1 rec1 l2 = some res ∧ ρ = [(0, .int .i64 a0), (1, .int .i64 a1), (4, .slice none 0 0), (5, .slice Al2 l2.length cl2), (6, .int .i64 t6_1)] ∧ Hp w wl3 [.own Al2 cl2 3 1 (List.map encN l2)])) ?_ ?_
      ·
        rintro _ wl3 ⟨l2, Al2, cl2, F, rfl, H⟩
        have R0 := H.ext
        unfold ref02_list_k2 at F
        obtain ⟨hg1, F⟩ := gd_some F
        refine CW.region ?_
        refine LW.pure rfl rfl (RV.move rfl) ?_
        refine LW.pure rfl rfl (RV.add rfl rfl hg1) ?_
        refine LW.pure rfl rfl (RV.assign rfl) ?_
        refine LW.nil ?_
        subst hrec1
        refine ⟨mk1, Nat.lt_succ_self _, _, ?_, (t6_1 + 1), l2, Al2, cl2, F, rfl, H⟩
        exact ⟨rfl, rfl, rfl, (look_slice rfl (by first | rfl | (simp; done) | (simp; omega))), rfl, trivial⟩
      ·
        intro K8 hK8 jK71
        refine CW.block ?_
        refine CW.seq fun K9 hK9 => ?_
        obtain ⟨r1, hr1, F⟩ := bnd_some F
        refine CW.region ?_
        refine LW.pure rfl rfl (RV.move rfl) ?_
        refine LW.pure rfl rfl (RV.move rfl) ?_
        refine LW.go rfl rfl (OW.call Tc92 rfl (ref02_in_ok (a0 := a0) (a1 := t6_1) hr1) ?_)
        rintro _ w1 ⟨rfl, E1⟩
        refine ⟨_, rfl, ?_⟩
        replace H := H.grow E1
        replace R0 := H.ext
        refine LW.nil (hK9 _ _ ?_)
        by_cases hp2 : r1 = true
        ·
          replace F := ite_y hp2 F
          have hq2 : r1 = true := hp2
          refine CW.condT rfl hq2 ?_
          obtain ⟨hg2, F⟩ := gd_some F
          refine CW.region ?_
          refine LW.pure rfl rfl (RV.move rfl) ?_
          refine LW.pure rfl rfl (RV.move rfl) ?_
          refine LW.go rfl rfl (OW.buildSlice (e := 3) (vs := [.int .i64 t6_1]) (cs := [.int .i64 t6_1]) rfl (fun _ => by kernel_rfl) fun b1 w2 N1 => ?_)
          replace H := H.made' (k := 1) (t := 3) (enc := encN) (l := ([t6_1] : List Int)) N1 N1.blk (fun _ => rfl) rfl (by first | decide | omega | (simp; done) | (simp; omega))
          replace R0 := H.ext
          refine LW.go rfl rfl (OW.appendG (enc := encN) (l := l3) (xs := ([t6_1] : List Int)) Ts30 rfl (look_slice rfl (by first | rfl | (simp; done) | (simp; omega))) (H.own 1 rfl) (H.own 0 rfl).sl (fun _ => rfl) rfl rfl hg2 (by decide) fun A2 c2 w3 O1 M1 D1 => ?_)
          replace H : Hp w w3 [.own (some ⟨b1, 0, none⟩) ((([t6_1] : List Int)).length) 3 1 (List.map encN (([t6_1] : List Int))), .own A2 c2 3 1 (List.map encN ((l3 ++ ([t6_1] : List Int))))] := H.mod 1 rfl M1 O1 D1
          replace R0 := H.ext
          refine LW.pure rfl rfl (RV.assign rfl) ?_
          replace H := H.pick (L' := [.own A2 c2 3 1 (List.map encN ((l3 ++ ([t6_1] : List Int))))]) [1] (by decide) rfl
          replace R0 := H.ext
          refine LW.nil (jK71 _ _ ⟨_, ?_, ⟨((l3 ++ ([t6_1] : List Int))), A2, c2, F, rfl, H⟩⟩)
          exact ⟨rfl, rfl, rfl, (look_slice rfl (by first | rfl | (simp; done) | (simp; omega))), rfl, trivial⟩
        ·
          replace F := ite_n hp2 F
          have hq2 : r1 = false := raw_f hp2
          refine CW.condF rfl hq2 ?_
          refine CW.skip (jK71 _ _ ⟨_, ?_, ⟨l3, Al3, cl3, F, rfl, H⟩⟩)
          exact ⟨rfl, rfl, rfl, (look_slice rfl (by first | rfl | (simp; done) | (simp; omega))), rfl, trivial⟩
    ·
      replace F := ite_n hp1 F
      have hq1 := dec_f hp1
      refine CW.condF rfl hq1 ?_
      refine CW.exit (jK56 _ _ ⟨_, ?_, ⟨l3, Al3, cl3, F, rfl, H⟩⟩)
      exact ⟨rfl, (look_slice rfl (by first | rfl | (simp; done) | (simp; omega))), trivial⟩
set_option maxRecDepth 20000 in
set_option maxHeartbeats 1000000 in
theorem ref02_Least_ok {a0 : Net} {A_a0_drains : Option Addr} {c_a0_drains : Nat} {w : World} {res : (List Int) × Int} (h_a0_drains : Sl w A_a0_drains c_a0_drains 3 (a0.drains.map encDrain)) (F : ref02_Least a0 = some res) : Calls Try.prog 31 #[.agg #[.int .i64 a0.nodes, .int .i64 a0.from_, .int .i64 a0.to_, .slice A_a0_drains a0.drains.length c_a0_drains]] w (fun e w' => ∃ (A0 : Option Addr) (c0 : Nat), e = .returned (.tuple #[.slice A0 res.1.length c0, .int .i64 res.2]) ∧ Hp w w' [.own A0 c0 3 1 (List.map encN res.1)]) := by
  refine calls_of_cw (args := [.agg #[.int .i64 a0.nodes, .int .i64 a0.from_, .int .i64 a0.to_, .slice A_a0_drains a0.drains.length c_a0_drains]]) Try.func31 rfl rfl rfl rfl ?_
  have H := Hp.start w
  have R0 := H.ext
  unfold ref02_Least at F
  refine CW.seq fun K1 hK1 => ?_
  refine CW.region ?_
  refine LW.go rfl rfl (OW.box rfl fun b1 w1 N1 => ?_)
  replace H := H.new N1 N1.blk
  replace R0 := H.ext
  refine LW.pure rfl rfl (RV.assign rfl) ?_
  refine LW.pure rfl rfl (RV.assign rfl) ?_
  refine LW.nil (hK1 _ _ ?_)
  refine CW.seq fun K2 hK2 => ?_
  refine CW.seq fun K3 hK3 => ?_
  obtain ⟨r5, hr5, F⟩ := bnd_some F
  refine CW.region ?_
  refine LW.pure rfl rfl (RV.loadA [.int .i64 a0.nodes, .int .i64 a0.from_, .int .i64 a0.to_, .slice A_a0_drains a0.drains.length c_a0_drains] Tk24 rfl (H.blk 0 rfl).cells rfl rfl) ?_
  refine LW.go rfl rfl (OW.call Tc27 rfl (ref02_Validate_ok (a0 := a0) (h_a0_drains.ext R0) hr5) ?_)
  rintro _ w2 ⟨rfl, E1⟩
  refine ⟨_, rfl, ?_⟩
  replace H := H.grow E1
  replace R0 := H.ext
  refine LW.pure rfl rfl (RV.assign rfl) ?_
  refine LW.nil (hK3 _ _ ?_)
  refine CW.seq fun K4 hK4 => ?_
  refine CW.region ?_
  refine LW.pure rfl rfl (RV.move rfl) ?_
  refine LW.pure rfl rfl (RV.nei rfl rfl) ?_
  refine LW.nil (hK4 _ _ ?_)
  by_cases hp1 : r5 = 0
  ·
    replace F := ite_y hp1 F
    have hq1 := dec_t hp1
    refine CW.condF rfl (not_f hq1) ?_
    refine CW.skip (hK2 _ _ ?_)
    refine CW.seq fun K5 hK5 => ?_
    obtain ⟨hg1, F⟩ := gd_some F
    obtain ⟨hg2, F⟩ := gd_some F
    obtain ⟨r2, hr2, F⟩ := bnd_some F
    refine CW.draw [] (fun _ => True) (.cons 0 1 (.cons 1 1 (.cons 2 1 (.cons 3 1 (.cons 4 1 (.cons 5 1 (.cons 6 0 (.cons 7 1 (.cons 8 1 .nil))))))))) mixed (by kernel_rfl) fun w3 E2 => ?_
    replace H := H.grow E2
    replace R0 := H.ext
    refine DW.fix rfl rfl rfl (fun _ EQ => RV.fieldAddr Tf24_0 rfl) ?_
    refine DW.fix rfl rfl rfl (fun _ EQ => RV.load1 Tk3 rfl (((H.grow EQ).blk 0 rfl).cells.off 0) rfl) ?_
    refine DW.fix rfl rfl rfl (fun _ EQ => RV.convW Tu3s Tu74 rfl) ?_
    refine DW.fix rfl rfl rfl (fun _ EQ => RV.shl rfl rfl hg1) ?_
    refine DW.fix rfl rfl rfl (fun _ EQ => RV.sub rfl rfl hg2) ?_
    refine DW.fix rfl rfl rfl (fun _ EQ => RV.loadA [.int .i64 a0.nodes, .int .i64 a0.from_, .int .i64 a0.to_, .slice A_a0_drains a0.drains.length c_a0_drains] Tk24 rfl ((H.grow EQ).blk 0 rfl).cells rfl rfl) ?_
    refine DW.sole rfl rfl rfl (OW.call Tc57 rfl (ref02_most_ok (a0 := a0) (h_a0_drains.ext R0) hr2) ?_)
    rintro _ w4 ⟨rfl, E3⟩
    refine ⟨_, rfl, fun _ => E3, ModX.ext E3, ?_⟩
    replace H := H.grow E3
    replace R0 := H.ext
    refine DW.fix rfl rfl rfl (fun _ EQ => RV.assign rfl) ?_
    refine DW.fix rfl rfl rfl (fun _ EQ => RV.assign rfl) ?_
    refine DW.nil (hK5 _ _ ?_)
    refine CW.seqJ (fun ρ wl1 => (∃ (t5_1 : Int), ref02_Least_k1 a0 t5_1 = some res ∧ ρ = [(1, .pointer (some (⟨b1, 0, none⟩))), (2, .slice none 0 0), (3, .int .i64 0), (5, .int .i64 t5_1)] ∧ Hp w wl1 [.blk b1 24 [.int .i64 a0.nodes, .int .i64 a0.from_, .int .i64 a0.to_, .slice A_a0_drains a0.drains.length c_a0_drains]])) ?_ ?_
    ·
      rintro _ wl1 ⟨t5_1, F, rfl, H⟩
      have R0 := H.ext
      unfold ref02_Least_k1 at F
      refine CW.seq fun K6 hK6 => ?_
      obtain ⟨r1, hr1, F⟩ := bnd_some F
      refine CW.region ?_
      refine LW.pure rfl rfl (RV.move rfl) ?_
      refine LW.pure rfl rfl (RV.fieldAddr Tf24_0 rfl) ?_
      refine LW.pure rfl rfl (RV.load1 Tk3 rfl ((H.blk 0 rfl).cells.off 0) rfl) ?_
      refine LW.go rfl rfl (OW.call Tc73 rfl (ref02_list_ok (a0 := t5_1) (a1 := a0.nodes) hr1) ?_)
      rintro _ w5 ⟨A81_0, c81_0, rfl, E4⟩
      refine ⟨_, rfl, ?_⟩
      replace H : Hp w w5 [.own A81_0 c81_0 3 1 (List.map encN r1), .blk b1 24 [.int .i64 a0.nodes, .int .i64 a0.from_, .int .i64 a0.to_, .slice A_a0_drains a0.drains.length c_a0_drains]] := H.append E4
      replace R0 := H.ext
      refine LW.pure rfl rfl (RV.assign rfl) ?_
      refine LW.pure rfl rfl (RV.assign rfl) ?_
      refine LW.nil (hK6 _ _ ?_)
      refine CW.ret ?_
      obtain rfl := Option.some.inj F
      refine ⟨_, (ResOK.two rfl rfl), ?_⟩
      replace H := H.pick (L' := [.own A81_0 c81_0 3 1 (List.map encN r1)]) [0] (by decide) rfl
      replace R0 := H.ext
      exact ⟨A81_0, c81_0, (by first | rfl | (simp; done) | (simp; omega)), H⟩
    ·
      intro K7 hK7 jK63
      refine CW.seq fun K8 hK8 => ?_
      refine CW.region ?_
      refine LW.pure rfl rfl (RV.assign rfl) ?_
      refine LW.nil (hK8 _ _ ?_)
      refine CW.block ?_
      refine CW.loop (fun meas ρ wl2 => ∃ (t5_3 : Int) (t7_1 : Int), ref02_Least_L1 a0 r2 meas t5_3 t7_1 = some res ∧ ρ = [(1, .pointer (some (⟨b1, 0, none⟩))), (2, .slice none 0 0), (3, .int .i64 0), (5, .int .i64 t5_3), (6, .int .i64 r2), (7, .int .i64 t7_1)] ∧ Hp w wl2 [.blk b1 24 [.int .i64 a0.nodes, .int .i64 a0.from_, .int .i64 a0.to_, .slice A_a0_drains a0.drains.length c_a0_drains]]) FU ⟨_, ?_, ((shlI ((1 : Int)) (IntKind.u64.wrap a0.nodes)) - 1), ((0 : Int)), F, rfl, H⟩ ?_
      · exact ⟨rfl, rfl, rfl, rfl, rfl, rfl, trivial⟩
      rintro mk1 _ wl2 ⟨t5_3, t7_1, F, rfl, H⟩
      have R0 := H.ext
      replace F := ref02_Least_L1_s F
      obtain ⟨mk1, rfl, F⟩ := F
      generalize hrec1 : ref02_Least_L1 a0 r2 mk1 = rec1 at F
      unfold ref02_Least_B1 at F
      refine CW.seq fun K9 hK9 => ?_
      refine CW.seq fun K10 hK10 => ?_
      obtain ⟨hg3, F⟩ := gd_some F
      refine CW.region ?_
      refine LW.pure rfl rfl (RV.move rfl) ?_
      refine LW.pure rfl rfl (RV.fieldAddr Tf24_0 rfl) ?_
      refine LW.pure rfl rfl (RV.load1 Tk3 rfl ((H.blk 0 rfl).cells.off 0) rfl) ?_
      refine LW.pure rfl rfl (RV.convW Tu3s Tu74 rfl) ?_
      refine LW.pure rfl rfl (RV.shl rfl rfl hg3) ?_
      refine LW.pure rfl rfl (RV.lss rfl rfl) ?_
      refine LW.nil (hK10 _ _ ?_)
      by_cases hp2 : t7_1 < (shlI ((1 : Int)) (IntKind.u64.wrap a0.nodes))
      ·
        replace F := ite_y hp2 F
        have hq2 := dec_t hp2
        refine CW.condT rfl hq2 ?_
        refine CW.skip (hK9 _ _ ?_)
        refine CW.seqJ (fun ρ wl3 => (∃ (t5_2 : Int), ref02_Least_k2 t7_1 rec1 t5_2 = some res ∧ ρ = [(1, .pointer (some (⟨b1, 0, none⟩))), (2, .slice none 0 0), (3, .int .i64 0), (5, .int .i64 t5_2), (6, .int .i64 r2), (7, .int .i64 t7_1)] ∧ Hp w wl3 [.blk b1 24 [.int .i64 a0.nodes, .int .i64 a0.from_, .int .i64 a0.to_, .slice A_a0_drains a0.drains.length c_a0_drains]])) ?_ ?_
        ·
          rintro _ wl3 ⟨t5_2, F, rfl, H⟩
          have R0 := H.ext
          unfold ref02_Least_k2 at F
          obtain ⟨hg4, F⟩ := gd_some F
          refine CW.region ?_
          refine LW.pure rfl rfl (RV.move rfl) ?_
          refine LW.pure rfl rfl (RV.add rfl rfl hg4) ?_
          refine LW.pure rfl rfl (RV.assign rfl) ?_
          refine LW.nil ?_
          subst hrec1
          refine ⟨mk1, Nat.lt_succ_self _, _, ?_, t5_2, (t7_1 + 1), F, rfl, H⟩
          exact ⟨rfl, rfl, rfl, rfl, rfl, rfl, trivial⟩
        ·
          intro K11 hK11 jK78
          refine CW.block ?_
          refine CW.seqJ (fun ρ wl4 => (∃ (t37_1 : Bool), ref02_Least_k3 t5_3 t7_1 rec1 t37_1 = some res ∧ ρ = [(1, .pointer (some (⟨b1, 0, none⟩))), (2, .slice none 0 0), (3, .int .i64 0), (5, .int .i64 t5_3), (6, .int .i64 r2), (7, .int .i64 t7_1), (37, .bool t37_1)] ∧ Hp w wl4 [.blk b1 24 [.int .i64 a0.nodes, .int .i64 a0.from_, .int .i64 a0.to_, .slice A_a0_drains a0.drains.length c_a0_drains]])) ?_ ?_
          ·
            rintro _ wl4 ⟨t37_1, F, rfl, H⟩
            have R0 := H.ext
            unfold ref02_Least_k3 at F
            by_cases hp3 : t37_1 = true
            ·
              replace F := ite_y hp3 F
              have hq3 : t37_1 = true := hp3
              refine CW.condT rfl hq3 ?_
              obtain ⟨hg5, F⟩ := gd_some F
              refine CW.region ?_
              refine LW.pure rfl rfl (RV.move rfl) ?_
              refine LW.pure rfl rfl (RV.move rfl) ?_
              refine LW.pure rfl rfl (RV.band rfl rfl hg5) ?_
              refine LW.pure rfl rfl (RV.assign rfl) ?_
              refine LW.nil (jK78 _ _ ⟨_, ?_, ⟨(bitAnd t5_3 t7_1), F, rfl, H⟩⟩)
              exact ⟨rfl, rfl, rfl, rfl, rfl, rfl, trivial⟩
            ·
              replace F := ite_n hp3 F
              have hq3 : t37_1 = false := raw_f hp3
              refine CW.condF rfl hq3 ?_
              refine CW.skip (jK78 _ _ ⟨_, ?_, ⟨t5_3, F, rfl, H⟩⟩)
              exact ⟨rfl, rfl, rfl, rfl, rfl, rfl, trivial⟩
          ·
            intro K12 hK12 jK79
            obtain ⟨r3, hr3, F⟩ := bnd_some F
            by_cases hp4 : r3 = true
            ·
              replace F := ite_y hp4 F
              have hq4 : r3 = true := hp4
              obtain ⟨r4, hr4, F⟩ := bnd_some F
              refine CW.region ?_
              refine LW.pure rfl rfl (RV.loadA [.int .i64 a0.nodes, .int .i64 a0.from_, .int .i64 a0.to_, .slice A_a0_drains a0.drains.length c_a0_drains] Tk24 rfl (H.blk 0 rfl).cells rfl rfl) ?_
              refine LW.pure rfl rfl (RV.move rfl) ?_
              refine LW.go rfl rfl (OW.call Tc72 rfl (ref02_isCut_ok (a0 := a0) (a1 := t7_1) (h_a0_drains.ext R0) hr3) ?_)
              rintro _ w6 ⟨rfl, E5⟩
              refine ⟨_, rfl, ?_⟩
              replace H := H.grow E5
              replace R0 := H.ext
              refine LW.pure rfl rfl (RV.move rfl) ?_
              refine LW.pureYB rfl rfl rfl rfl hq4 (RV.loadA [.int .i64 a0.nodes, .int .i64 a0.from_, .int .i64 a0.to_, .slice A_a0_drains a0.drains.length c_a0_drains] Tk24 rfl (H.blk 0 rfl).cells rfl rfl) ?_
              refine LW.pureYB rfl rfl rfl rfl hq4 (RV.move rfl) ?_
              refine LW.yesB rfl rfl rfl rfl hq4 (OW.call Tc68 rfl (ref02_width_ok (a0 := a0) (a1 := t7_1) (h_a0_drains.ext R0) hr4) ?_)
              rintro _ w7 ⟨rfl, E6⟩
              refine ⟨_, rfl, ?_⟩
              replace H := H.grow E6
              replace R0 := H.ext
              refine LW.pureYB rfl rfl rfl rfl hq4 (RV.move rfl) ?_
              refine LW.pureYB rfl rfl rfl rfl hq4 (RV.eqi rfl rfl) ?_
              refine LW.pure rfl rfl (RV.pickTB rfl hq4 rfl) ?_
              refine LW.nil (jK79 _ _ ⟨_, ?_, ⟨(decide (r4 = r2)), F, rfl, H⟩⟩)
              exact ⟨rfl, rfl, rfl, rfl, rfl, rfl, rfl, trivial⟩
            ·
              replace F := ite_n hp4 F
              have hq4 : r3 = false := raw_f hp4
              refine CW.region ?_
              refine LW.pure rfl rfl (RV.loadA [.int .i64 a0.nodes, .int .i64 a0.from_, .int .i64 a0.to_, .slice A_a0_drains a0.drains.length c_a0_drains] Tk24 rfl (H.blk 0 rfl).cells rfl rfl) ?_
              refine LW.pure rfl rfl (RV.move rfl) ?_
              refine LW.go rfl rfl (OW.call Tc72 rfl (ref02_isCut_ok (a0 := a0) (a1 := t7_1) (h_a0_drains.ext R0) hr3) ?_)
              rintro _ w8 ⟨rfl, E7⟩
              refine ⟨_, rfl, ?_⟩
              replace H := H.grow E7
              replace R0 := H.ext
              refine LW.pure rfl rfl (RV.move rfl) ?_
              refine LW.noB rfl rfl rfl rfl (ne_beq (v := false) hq4 rfl) ?_
              refine LW.noB rfl rfl rfl rfl (ne_beq (v := false) hq4 rfl) ?_
              refine LW.noB rfl rfl rfl rfl (ne_beq (v := false) hq4 rfl) ?_
              refine LW.noB rfl rfl rfl rfl (ne_beq (v := false) hq4 rfl) ?_
              refine LW.noB rfl rfl rfl rfl (ne_beq (v := false) hq4 rfl) ?_
              refine LW.pure rfl rfl (RV.pickFB rfl hq4 rfl) ?_
              refine LW.nil (jK79 _ _ ⟨_, ?_, ⟨false, F, rfl, H⟩⟩)
              exact ⟨rfl, rfl, rfl, rfl, rfl, rfl, rfl, trivial⟩
      ·
        replace F := ite_n hp2 F
        have hq2 := dec_f hp2
        refine CW.condF rfl hq2 ?_
        refine CW.exit (jK63 _ _ ⟨_, ?_, ⟨t5_3, F, rfl, H⟩⟩)
        exact ⟨rfl, rfl, rfl, rfl, trivial⟩
  ·
    replace F := ite_n hp1 F
    have hq1 := dec_f hp1
    refine CW.condT rfl (not_t hq1) ?_
    refine CW.seq fun K13 hK13 => ?_
    refine CW.region ?_
    refine LW.pure rfl rfl (RV.move rfl) ?_
    refine LW.pure rfl rfl (RV.assign rfl) ?_
    refine LW.pure rfl rfl (RV.assign rfl) ?_
    refine LW.nil (hK13 _ _ ?_)
    refine CW.ret ?_
    obtain rfl := Option.some.inj F
    refine ⟨_, (ResOK.two rfl rfl), ?_⟩
    replace H := H.nilOwn 3 1
    replace R0 := H.ext
    replace H := H.pick (L' := [.own none 0 3 1 (List.map encN (([] : List Int)))]) [0] (by decide) rfl
    replace R0 := H.ext
    exact ⟨none, 0, (by first | rfl | (simp; done) | (simp; omega)), H⟩
end Go.D2

set_option linter.unusedVariables false
set_option linter.unusedSimpArgs false
namespace Go.D2
open Go.Tb Go.Proofs Go.RowKit
theorem Tc29 : callable Try.prog 29 = true := by kernel_rfl
theorem Tc30 : callable Try.prog 30 = true := by kernel_rfl
theorem Tc31 : callable Try.prog 31 = true := by kernel_rfl
theorem Tc32 : callable Try.prog 32 = true := by kernel_rfl
theorem Tc33 : callable Try.prog 33 = true := by kernel_rfl
theorem Tc34 : callable Try.prog 34 = true := by kernel_rfl
theorem Tc74 : callable Try.prog 74 = true := by kernel_rfl
set_option maxRecDepth 20000 in
set_option maxHeartbeats 1000000 in
theorem drain_Greatest_1_ok {cap0 : Net} {cap1 : List Left} {a0 : Int} {A_cap0_drains : Option Addr} {c_cap0_drains : Nat} {b_cap0 : Nat} {A_cap1 : Option Addr} {c_cap1 : Nat} {b_cap1 : Nat} {w : World} {res : Bool} (h_cap0_drains : Sl w A_cap0_drains c_cap0_drains 3 (cap0.drains.map encDrain)) (hc_cap0 : Cells w ⟨b_cap0, 0, none⟩ [.int .i64 cap0.nodes, .int .i64 cap0.from_, .int .i64 cap0.to_, .slice A_cap0_drains cap0.drains.length c_cap0_drains]) (h_cap1 : Sl w A_cap1 c_cap1 4 (cap1.map encLeft)) (hc_cap1 : Cells w ⟨b_cap1, 0, none⟩ [.slice A_cap1 cap1.length c_cap1]) (F : drain_Greatest_1 cap0 cap1 a0 = some res) : Calls Try.prog 74 #[.int .i64 a0, .pointer (some (⟨b_cap0, 0, none⟩)), .pointer (some (⟨b_cap1, 0, none⟩))] w (Rt w (.bool res)) := by
  refine calls_of_cw (args := [.int .i64 a0, .pointer (some (⟨b_cap0, 0, none⟩)), .pointer (some (⟨b_cap1, 0, none⟩))]) Try.func74 rfl rfl rfl rfl ?_
  have H := Hp.start w
  have R0 := H.ext
  unfold drain_Greatest_1 at F
  refine CW.seq fun K1 hK1 => ?_
  refine CW.region ?_
  refine LW.pure rfl rfl (RV.assign rfl) ?_
  refine LW.nil (hK1 _ _ ?_)
  refine CW.seq fun K2 hK2 => ?_
  by_cases hp1 : a0 = cap0.to_
  ·
    replace F := ite_y hp1 F
    have hq1 := dec_t hp1
    refine CW.region ?_
    refine LW.pure rfl rfl (RV.move rfl) ?_
    refine LW.pure rfl rfl (RV.fieldAddr Tf24_2 rfl) ?_
    refine LW.pure rfl rfl (RV.load1 Tk3 rfl ((hc_cap0.ext R0).off 2) rfl) ?_
    refine LW.pure rfl rfl (RV.nei rfl rfl) ?_
    refine LW.pure rfl rfl (RV.move rfl) ?_
    refine LW.noB rfl rfl rfl rfl (ne_beq (v := false) (not_f hq1) rfl) ?_
    refine LW.noB rfl rfl rfl rfl (ne_beq (v := false) (not_f hq1) rfl) ?_
    refine LW.noB rfl rfl rfl rfl (ne_beq (v := false) (not_f hq1) rfl) ?_
    refine LW.noB rfl rfl rfl rfl (ne_beq (v := false) (not_f hq1) rfl) ?_
    refine LW.noB rfl rfl rfl rfl (ne_beq (v := false) (not_f hq1) rfl) ?_
    refine LW.noB rfl rfl rfl rfl (ne_beq (v := false) (not_f hq1) rfl) ?_
    refine LW.pure rfl rfl (RV.pickFB rfl (not_f hq1) rfl) ?_
    refine LW.pure rfl rfl (RV.assign rfl) ?_
    refine LW.nil (hK2 _ _ ?_)
    refine CW.ret ?_
    obtain rfl := Option.some.inj F
    refine ⟨_, (ResOK.one rfl), ?_⟩
    refine ⟨(by first | rfl | simp), R0⟩
  ·
    replace F := ite_n hp1 F
    have hq1 := dec_f hp1
    obtain ⟨r1, hr1, F⟩ := bnd_some F
    refine CW.region ?_
    refine LW.pure rfl rfl (RV.move rfl) ?_
    refine LW.pure rfl rfl (RV.fieldAddr Tf24_2 rfl) ?_
    refine LW.pure rfl rfl (RV.load1 Tk3 rfl ((hc_cap0.ext R0).off 2) rfl) ?_
    refine LW.pure rfl rfl (RV.nei rfl rfl) ?_
    refine LW.pure rfl rfl (RV.move rfl) ?_
    refine LW.pureYB rfl rfl rfl rfl (not_t hq1) (RV.load1 Tk63 rfl (hc_cap1.ext R0) rfl) ?_
    refine LW.pureYB rfl rfl rfl rfl (not_t hq1) (RV.move rfl) ?_
    refine LW.pureYB rfl rfl rfl rfl (not_t hq1) (RV.fieldAddr Tf24_2 rfl) ?_
    refine LW.pureYB rfl rfl rfl rfl (not_t hq1) (RV.load1 Tk3 rfl ((hc_cap0.ext R0).off 2) rfl) ?_
    refine LW.yesB rfl rfl rfl rfl (not_t hq1) (OW.call Tc71 rfl (drain_search_ok (a0 := cap1) (a1 := a0) (a2 := cap0.to_) (h_cap1.ext R0) hr1) ?_)
    rintro _ w1 ⟨A3_0, c3_0, rfl, hnl3_, E1⟩
    refine ⟨_, rfl, ?_⟩
    replace H : Hp w w1 [.own A3_0 c3_0 3 1 (List.map encN r1)] := H.append E1
    replace R0 := H.ext
    refine LW.pureYB rfl rfl rfl rfl (not_t hq1) (RV.eqnilL (l := r1) Ts30 rfl rfl hnl3_) ?_
    refine LW.pure rfl rfl (RV.pickTB rfl (not_t hq1) rfl) ?_
    refine LW.pure rfl rfl (RV.assign rfl) ?_
    refine LW.nil (hK2 _ _ ?_)
    refine CW.ret ?_
    obtain rfl := Option.some.inj F
    refine ⟨_, (ResOK.one rfl), ?_⟩
    refine ⟨(by first | rfl | simp), R0⟩
set_option maxRecDepth 20000 in
set_option maxHeartbeats 1000000 in
theorem drain_Greatest_ok {a0 : Net} {A_a0_drains : Option Addr} {c_a0_drains : Nat} {w : World} {res : (List Int) × Int} (h_a0_drains : Sl w A_a0_drains c_a0_drains 3 (a0.drains.map encDrain)) (F : drain_Greatest a0 = some res) : Calls Try.prog 32 #[.agg #[.int .i64 a0.nodes, .int .i64 a0.from_, .int .i64 a0.to_, .slice A_a0_drains a0.drains.length c_a0_drains]] w (fun e w' => ∃ (A0 : Option Addr) (c0 : Nat), e = .returned (.tuple #[.slice A0 res.1.length c0, .int .i64 res.2]) ∧ Hp w w' [.own A0 c0 3 1 (List.map encN res.1)]) := by
  refine calls_of_cw (args := [.agg #[.int .i64 a0.nodes, .int .i64 a0.from_, .int .i64 a0.to_, .slice A_a0_drains a0.drains.length c_a0_drains]]) Try.func32 rfl rfl rfl rfl ?_
  have H := Hp.start w
  have R0 := H.ext
  unfold drain_Greatest at F
  refine CW.seq fun K1 hK1 => ?_
  refine CW.region ?_
  refine LW.go rfl rfl (OW.box rfl fun b1 w1 N1 => ?_)
  replace H := H.new N1 N1.blk
  replace R0 := H.ext
  refine LW.pure rfl rfl (RV.assign rfl) ?_
  refine LW.pure rfl rfl (RV.assign rfl) ?_
  refine LW.nil (hK1 _ _ ?_)
  refine CW.seq fun K2 hK2 => ?_
  refine CW.seq fun K3 hK3 => ?_
  obtain ⟨r1, hr1, F⟩ := bnd_some F
  refine CW.region ?_
  refine LW.pure rfl rfl (RV.loadA [.int .i64 a0.nodes, .int .i64 a0.from_, .int .i64 a0.to_, .slice A_a0_drains a0.drains.length c_a0_drains] Tk24 rfl (H.blk 0 rfl).cells rfl rfl) ?_
  refine LW.go rfl rfl (OW.call Tc26 rfl (drain_Validate_ok (a0 := a0) (h_a0_drains.ext R0) hr1) ?_)
  rintro _ w2 ⟨rfl, E1⟩
  refine ⟨_, rfl, ?_⟩
  replace H := H.grow E1
  replace R0 := H.ext
  refine LW.pure rfl rfl (RV.assign rfl) ?_
  refine LW.nil (hK3 _ _ ?_)
  refine CW.seq fun K4 hK4 => ?_
  refine CW.region ?_
  refine LW.pure rfl rfl (RV.move rfl) ?_
  refine LW.pure rfl rfl (RV.nei rfl rfl) ?_
  refine LW.nil (hK4 _ _ ?_)
  by_cases hp1 : r1 = 0
  ·
    replace F := ite_y hp1 F
    have hq1 := dec_t hp1
    refine CW.condF rfl (not_f hq1) ?_
    refine CW.skip (hK2 _ _ ?_)
    refine CW.seq fun K5 hK5 => ?_
    obtain ⟨r2, hr2, F⟩ := bnd_some F
    refine CW.region ?_
    refine LW.pure rfl rfl (RV.loadA [.int .i64 a0.nodes, .int .i64 a0.from_, .int .i64 a0.to_, .slice A_a0_drains a0.drains.length c_a0_drains] Tk24 rfl (H.blk 0 rfl).cells rfl rfl) ?_
    refine LW.go rfl rfl (OW.call Tc59 rfl (drain_run_ok (a0 := a0) (h_a0_drains.ext R0) hr2) ?_)
    rintro _ w3 ⟨A7_0, c7_0, rfl, E2⟩
    refine ⟨_, rfl, ?_⟩
    replace H : Hp w w3 [.own A7_0 c7_0 87 4 (List.map encLeft r2), .blk b1 24 [.int .i64 a0.nodes, .int .i64 a0.from_, .int .i64 a0.to_, .slice A_a0_drains a0.drains.length c_a0_drains]] := H.append E2
    replace R0 := H.ext
    refine LW.go rfl rfl (OW.alloc Tz63 fun b2 w4 N2 => ?_)
    replace H := H.new N2 N2.blk
    replace R0 := H.ext
    refine LW.go rfl rfl (OW.store Tk63 rfl rfl (H.blk 0 rfl) (off := 0) (vs := [.slice A7_0 r2.length c7_0]) rfl rfl rfl rfl rfl fun w5 S1 => ?_)
    replace H : Hp w w5 [.blk b2 63 [.slice A7_0 r2.length c7_0], .own A7_0 c7_0 87 4 (List.map encLeft r2), .blk b1 24 [.int .i64 a0.nodes, .int .i64 a0.from_, .int .i64 a0.to_, .slice A_a0_drains a0.drains.length c_a0_drains]] := H.stored 0 rfl S1
    replace R0 := H.ext
    refine LW.nil (hK5 _ _ ?_)
    refine CW.seq fun K6 hK6 => ?_
    obtain ⟨r3, hr3, F⟩ := bnd_some F
    refine CW.region ?_
    refine LW.pure rfl rfl (RV.loadA [.int .i64 a0.nodes, .int .i64 a0.from_, .int .i64 a0.to_, .slice A_a0_drains a0.drains.length c_a0_drains] Tk24 rfl (H.blk 2 rfl).cells rfl rfl) ?_
    refine LW.pure rfl rfl (RV.makeFunc (fs := []) (cs := [.pointer (some (⟨b1, 0, none⟩)), .pointer (some (⟨b2, 0, none⟩))]) rfl rfl) ?_
    refine LW.go rfl rfl (OW.call Tc69 rfl (drain_nodes_ok (a0 := a0) (a1 := (fun x0 => drain_Greatest_1 a0 r2 x0)) (h_a0_drains.ext R0) (fun x0 r hF w6 hE => CallsV.cap Tc74 (by simp) (drain_Greatest_1_ok (cap0 := a0) (cap1 := r2) (a0 := x0) ((h_a0_drains.ext R0).ext hE) ((H.blk 2 rfl).cells.ext hE) ((H.own 1 rfl).sl.ext hE) ((H.blk 0 rfl).cells.ext hE) hF)) hr3) ?_)
    rintro _ w7 ⟨A9_0, c9_0, rfl, E3⟩
    refine ⟨_, rfl, ?_⟩
    replace H : Hp w w7 [.own A9_0 c9_0 3 1 (List.map encN r3), .blk b2 63 [.slice A7_0 r2.length c7_0], .own A7_0 c7_0 87 4 (List.map encLeft r2), .blk b1 24 [.int .i64 a0.nodes, .int .i64 a0.from_, .int .i64 a0.to_, .slice A_a0_drains a0.drains.length c_a0_drains]] := H.append E3
    replace R0 := H.ext
    refine LW.pure rfl rfl (RV.assign rfl) ?_
    refine LW.pure rfl rfl (RV.assign rfl) ?_
    refine LW.nil (hK6 _ _ ?_)
    refine CW.ret ?_
    obtain rfl := Option.some.inj F
    refine ⟨_, (ResOK.two rfl rfl), ?_⟩
    replace H := H.pick (L' := [.own A9_0 c9_0 3 1 (List.map encN r3)]) [0] (by decide) rfl
    replace R0 := H.ext
    exact ⟨A9_0, c9_0, (by first | rfl | (simp; done) | (simp; omega)), H⟩
  ·
    replace F := ite_n hp1 F
    have hq1 := dec_f hp1
    refine CW.condT rfl (not_t hq1) ?_
    refine CW.seq fun K7 hK7 => ?_
    refine CW.region ?_
    refine LW.pure rfl rfl (RV.move rfl) ?_
    refine LW.pure rfl rfl (RV.assign rfl) ?_
    refine LW.pure rfl rfl (RV.assign rfl) ?_
    refine LW.nil (hK7 _ _ ?_)
    refine CW.ret ?_
    obtain rfl := Option.some.inj F
    refine ⟨_, (ResOK.two rfl rfl), ?_⟩
    replace H := H.nilOwn 3 1
    replace R0 := H.ext
    replace H := H.pick (L' := [.own none 0 3 1 (List.map encN (([] : List Int)))]) [0] (by decide) rfl
    replace R0 := H.ext
    exact ⟨none, 0, (by first | rfl | (simp; done) | (simp; omega)), H⟩
set_option maxRecDepth 20000 in
set_option maxHeartbeats 1000000 in
theorem ref02_Greatest_ok {a0 : Net} {A_a0_drains : Option Addr} {c_a0_drains : Nat} {w : World} {res : (List Int) × Int} (h_a0_drains : Sl w A_a0_drains c_a0_drains 3 (a0.drains.map encDrain)) (F : ref02_Greatest a0 = some res) : Calls Try.prog 33 #[.agg #[.int .i64 a0.nodes, .int .i64 a0.from_, .int .i64 a0.to_, .slice A_a0_drains a0.drains.length c_a0_drains]] w (fun e w' => ∃ (A0 : Option Addr) (c0 : Nat), e = .returned (.tuple #[.slice A0 res.1.length c0, .int .i64 res.2]) ∧ Hp w w' [.own A0 c0 3 1 (List.map encN res.1)]) := by
  refine calls_of_cw (args := [.agg #[.int .i64 a0.nodes, .int .i64 a0.from_, .int .i64 a0.to_, .slice A_a0_drains a0.drains.length c_a0_drains]]) Try.func33 rfl rfl rfl rfl ?_
  have H := Hp.start w
  have R0 := H.ext
  unfold ref02_Greatest at F
  refine CW.seq fun K1 hK1 => ?_
  refine CW.region ?_
  refine LW.go rfl rfl (OW.box rfl fun b1 w1 N1 => ?_)
  replace H := H.new N1 N1.blk
  replace R0 := H.ext
  refine LW.pure rfl rfl (RV.assign rfl) ?_
  refine LW.pure rfl rfl (RV.assign rfl) ?_
  refine LW.nil (hK1 _ _ ?_)
  refine CW.seq fun K2 hK2 => ?_
  refine CW.seq fun K3 hK3 => ?_
  obtain ⟨r5, hr5, F⟩ := bnd_some F
  refine CW.region ?_
  refine LW.pure rfl rfl (RV.loadA [.int .i64 a0.nodes, .int .i64 a0.from_, .int .i64 a0.to_, .slice A_a0_drains a0.drains.length c_a0_drains] Tk24 rfl (H.blk 0 rfl).cells rfl rfl) ?_
  refine LW.go rfl rfl (OW.call Tc27 rfl (ref02_Validate_ok (a0 := a0) (h_a0_drains.ext R0) hr5) ?_)
  rintro _ w2 ⟨rfl, E1⟩
  refine ⟨_, rfl, ?_⟩
  replace H := H.grow E1
  replace R0 := H.ext
  refine LW.pure rfl rfl (RV.assign rfl) ?_
  refine LW.nil (hK3 _ _ ?_)
  refine CW.seq fun K4 hK4 => ?_
  refine CW.region ?_
  refine LW.pure rfl rfl (RV.move rfl) ?_
  refine LW.pure rfl rfl (RV.nei rfl rfl) ?_
  refine LW.nil (hK4 _ _ ?_)
  by_cases hp1 : r5 = 0
  ·
    replace F := ite_y hp1 F
    have hq1 := dec_t hp1
    refine CW.condF rfl (not_f hq1) ?_
    refine CW.skip (hK2 _ _ ?_)
    refine CW.seq fun K5 hK5 => ?_
    obtain ⟨r2, hr2, F⟩ := bnd_some F
    refine CW.region ?_
    refine LW.pure rfl rfl (RV.loadA [.int .i64 a0.nodes, .int .i64 a0.from_, .int .i64 a0.to_, .slice A_a0_drains a0.drains.length c_a0_drains] Tk24 rfl (H.blk 0 rfl).cells rfl rfl) ?_
    refine LW.go rfl rfl (OW.call Tc57 rfl (ref02_most_ok (a0 := a0) (h_a0_drains.ext R0) hr2) ?_)
    rintro _ w3 ⟨rfl, E2⟩
    refine ⟨_, rfl, ?_⟩
    replace H := H.grow E2
    replace R0 := H.ext
    refine LW.pure rfl rfl (RV.assign rfl) ?_
    refine LW.pure rfl rfl (RV.assign rfl) ?_
    refine LW.nil (hK5 _ _ ?_)
    refine CW.seqJ (fun ρ wl1 => (∃ (t5_1 : Int), ref02_Greatest_k1 a0 t5_1 = some res ∧ ρ = [(1, .pointer (some (⟨b1, 0, none⟩))), (2, .slice none 0 0), (3, .int .i64 0), (5, .int .i64 t5_1)] ∧ Hp w wl1 [.blk b1 24 [.int .i64 a0.nodes, .int .i64 a0.from_, .int .i64 a0.to_, .slice A_a0_drains a0.drains.length c_a0_drains]])) ?_ ?_
    ·
      rintro _ wl1 ⟨t5_1, F, rfl, H⟩
      have R0 := H.ext
      unfold ref02_Greatest_k1 at F
      refine CW.seq fun K6 hK6 => ?_
      obtain ⟨r1, hr1, F⟩ := bnd_some F
      refine CW.region ?_
      refine LW.pure rfl rfl (RV.move rfl) ?_
      refine LW.pure rfl rfl (RV.fieldAddr Tf24_0 rfl) ?_
      refine LW.pure rfl rfl (RV.load1 Tk3 rfl ((H.blk 0 rfl).cells.off 0) rfl) ?_
      refine LW.go rfl rfl (OW.call Tc73 rfl (ref02_list_ok (a0 := t5_1) (a1 := a0.nodes) hr1) ?_)
      rintro _ w4 ⟨A81_0, c81_0, rfl, E3⟩
      refine ⟨_, rfl, ?_⟩
      replace H : Hp w w4 [.own A81_0 c81_0 3 1 (List.map encN r1), .blk b1 24 [.int .i64 a0.nodes, .int .i64 a0.from_, .int .i64 a0.to_, .slice A_a0_drains a0.drains.length c_a0_drains]] := H.append E3
      replace R0 := H.ext
      refine LW.pure rfl rfl (RV.assign rfl) ?_
      refine LW.pure rfl rfl (RV.assign rfl) ?_
      refine LW.nil (hK6 _ _ ?_)
      refine CW.ret ?_
      obtain rfl := Option.some.inj F
      refine ⟨_, (ResOK.two rfl rfl), ?_⟩
      replace H := H.pick (L' := [.own A81_0 c81_0 3 1 (List.map encN r1)]) [0] (by decide) rfl
      replace R0 := H.ext
      exact ⟨A81_0, c81_0, (by first | rfl | (simp; done) | (simp; omega)), H⟩
    ·
      intro K7 hK7 jK63
      refine CW.seq fun K8 hK8 => ?_
      refine CW.region ?_
      refine LW.pure rfl rfl (RV.assign rfl) ?_
      refine LW.nil (hK8 _ _ ?_)
      refine CW.block ?_
      refine CW.loop (fun meas ρ wl2 => ∃ (t5_3 : Int) (t7_1 : Int), ref02_Greatest_L1 a0 r2 meas t5_3 t7_1 = some res ∧ ρ = [(1, .pointer (some (⟨b1, 0, none⟩))), (2, .slice none 0 0), (3, .int .i64 0), (5, .int .i64 t5_3), (6, .int .i64 r2), (7, .int .i64 t7_1)] ∧ Hp w wl2 [.blk b1 24 [.int .i64 a0.nodes, .int .i64 a0.from_, .int .i64 a0.to_, .slice A_a0_drains a0.drains.length c_a0_drains]]) FU ⟨_, ?_, ((0 : Int)), ((0 : Int)), F, rfl, H⟩ ?_
      · exact ⟨rfl, rfl, rfl, rfl, rfl, rfl, trivial⟩
      rintro mk1 _ wl2 ⟨t5_3, t7_1, F, rfl, H⟩
      have R0 := H.ext
      replace F := ref02_Greatest_L1_s F
      obtain ⟨mk1, rfl, F⟩ := F
      generalize hrec1 : ref02_Greatest_L1 a0 r2 mk1 = rec1 at F
      unfold ref02_Greatest_B1 at F
      refine CW.seq fun K9 hK9 => ?_
      refine CW.seq fun K10 hK10 => ?_
      obtain ⟨hg1, F⟩ := gd_some F
      refine CW.region ?_
      refine LW.pure rfl rfl (RV.move rfl) ?_
      refine LW.pure rfl rfl (RV.fieldAddr Tf24_0 rfl) ?_
      refine LW.pure rfl rfl (RV.load1 Tk3 rfl ((H.blk 0 rfl).cells.off 0) rfl) ?_
      refine LW.pure rfl rfl (RV.convW Tu3s Tu74 rfl) ?_
      refine LW.pure rfl rfl (RV.shl rfl rfl hg1) ?_
      refine LW.pure rfl rfl (RV.lss rfl rfl) ?_
      refine LW.nil (hK10 _ _ ?_)
      by_cases hp2 : t7_1 < (shlI ((1 : Int)) (IntKind.u64.wrap a0.nodes))
      ·
        replace F := ite_y hp2 F
        have hq2 := dec_t hp2
        refine CW.condT rfl hq2 ?_
        refine CW.skip (hK9 _ _ ?_)
        refine CW.seqJ (fun ρ wl3 => (∃ (t5_2 : Int), ref02_Greatest_k2 t7_1 rec1 t5_2 = some res ∧ ρ = [(1, .pointer (some (⟨b1, 0, none⟩))), (2, .slice none 0 0), (3, .int .i64 0), (5, .int .i64 t5_2), (6, .int .i64 r2), (7, .int .i64 t7_1)] ∧ Hp w wl3 [.blk b1 24 [.int .i64 a0.nodes, .int .i64 a0.from_, .int .i64 a0.to_, .slice A_a0_drains a0.drains.length c_a0_drains]])) ?_ ?_
        ·
          rintro _ wl3 ⟨t5_2, F, rfl, H⟩
          have R0 := H.ext
          unfold ref02_Greatest_k2 at F
          obtain ⟨hg2, F⟩ := gd_some F
          refine CW.region ?_
          refine LW.pure rfl rfl (RV.move rfl) ?_
          refine LW.pure rfl rfl (RV.add rfl rfl hg2) ?_
          refine LW.pure rfl rfl (RV.assign rfl) ?_
          refine LW.nil ?_
          subst hrec1
          refine ⟨mk1, Nat.lt_succ_self _, _, ?_, t5_2, (t7_1 + 1), F, rfl, H⟩
          exact ⟨rfl, rfl, rfl, rfl, rfl, rfl, trivial⟩
        ·
          intro K11 hK11 jK78
          refine CW.block ?_
          refine CW.seqJ (fun ρ wl4 => (∃ (t32_1 : Bool), ref02_Greatest_k3 t5_3 t7_1 rec1 t32_1 = some res ∧ ρ = [(1, .pointer (some (⟨b1, 0, none⟩))), (2, .slice none 0 0), (3, .int .i64 0), (5, .int .i64 t5_3), (6, .int .i64 r2), (7, .int .i64 t7_1), (32, .bool t32_1)] ∧ Hp w wl4 [.blk b1 24 [.int .i64 a0.nodes, .int .i64 a0.from_, .int .i64 a0.to_, .slice A_a0_drains a0.drains.length c_a0_drains]])) ?_ ?_
          ·
            rintro _ wl4 ⟨t32_1, F, rfl, H⟩
            have R0 := H.ext
            unfold ref02_Greatest_k3 at F
            by_cases hp3 : t32_1 = true
            ·
              replace F := ite_y hp3 F
              have hq3 : t32_1 = true := hp3
              refine CW.condT rfl hq3 ?_
              obtain ⟨hg3, F⟩ := gd_some F
              refine CW.region ?_
              refine LW.pure rfl rfl (RV.move rfl) ?_
              refine LW.pure rfl rfl (RV.move rfl) ?_
              refine LW.pure rfl rfl (RV.bor rfl rfl hg3) ?_
              refine LW.pure rfl rfl (RV.assign rfl) ?_
              refine LW.nil (jK78 _ _ ⟨_, ?_, ⟨(bitOr t5_3 t7_1), F, rfl, H⟩⟩)
              exact ⟨rfl, rfl, rfl, rfl, rfl, rfl, trivial⟩
            ·
              replace F := ite_n hp3 F
              have hq3 : t32_1 = false := raw_f hp3
              refine CW.condF rfl hq3 ?_
              refine CW.skip (jK78 _ _ ⟨_, ?_, ⟨t5_3, F, rfl, H⟩⟩)
              exact ⟨rfl, rfl, rfl, rfl, rfl, rfl, trivial⟩
          ·
            intro K12 hK12 jK79
            obtain ⟨r3, hr3, F⟩ := bnd_some F
            by_cases hp4 : r3 = true
            ·
              replace F := ite_y hp4 F
              have hq4 : r3 = true := hp4
              obtain ⟨r4, hr4, F⟩ := bnd_some F
              refine CW.region ?_
              refine LW.pure rfl rfl (RV.loadA [.int .i64 a0.nodes, .int .i64 a0.from_, .int .i64 a0.to_, .slice A_a0_drains a0.drains.length c_a0_drains] Tk24 rfl (H.blk 0 rfl).cells rfl rfl) ?_
              refine LW.pure rfl rfl (RV.move rfl) ?_
              refine LW.go rfl rfl (OW.call Tc72 rfl (ref02_isCut_ok (a0 := a0) (a1 := t7_1) (h_a0_drains.ext R0) hr3) ?_)
              rintro _ w5 ⟨rfl, E4⟩
              refine ⟨_, rfl, ?_⟩
              replace H := H.grow E4
              replace R0 := H.ext
              refine LW.pure rfl rfl (RV.move rfl) ?_
              refine LW.pureYB rfl rfl rfl rfl hq4 (RV.loadA [.int .i64 a0.nodes, .int .i64 a0.from_, .int .i64 a0.to_, .slice A_a0_drains a0.drains.length c_a0_drains] Tk24 rfl (H.blk 0 rfl).cells rfl rfl) ?_
              refine LW.pureYB rfl rfl rfl rfl hq4 (RV.move rfl) ?_
              refine LW.yesB rfl rfl rfl rfl hq4 (OW.call Tc68 rfl (ref02_width_ok (a0 := a0) (a1 := t7_1) (h_a0_drains.ext R0) hr4) ?_)
              rintro _ w6 ⟨rfl, E5⟩
              refine ⟨_, rfl, ?_⟩
              replace H := H.grow E5
              replace R0 := H.ext
              refine LW.pureYB rfl rfl rfl rfl hq4 (RV.move rfl) ?_
              refine LW.pureYB rfl rfl rfl rfl hq4 (RV.eqi rfl rfl) ?_
              refine LW.pure rfl rfl (RV.pickTB rfl hq4 rfl) ?_
              refine LW.nil (jK79 _ _ ⟨_, ?_, ⟨(decide (r4 = r2)), F, rfl, H⟩⟩)
              exact ⟨rfl, rfl, rfl, rfl, rfl, rfl, rfl, trivial⟩
            ·
              replace F := ite_n hp4 F
              have hq4 : r3 = false := raw_f hp4
              refine CW.region ?_
              refine LW.pure rfl rfl (RV.loadA [.int .i64 a0.nodes, .int .i64 a0.from_, .int .i64 a0.to_, .slice A_a0_drains a0.drains.length c_a0_drains] Tk24 rfl (H.blk 0 rfl).cells rfl rfl) ?_
              refine LW.pure rfl rfl (RV.move rfl) ?_
              refine LW.go rfl rfl (OW.call Tc72 rfl (ref02_isCut_ok (a0 := a0) (a1 := t7_1) (h_a0_drains.ext R0) hr3) ?_)
              rintro _ w7 ⟨rfl, E6⟩
              refine ⟨_, rfl, ?_⟩
              replace H := H.grow E6
              replace R0 := H.ext
              refine LW.pure rfl rfl (RV.move rfl) ?_
              refine LW.noB rfl rfl rfl rfl (ne_beq (v := false) hq4 rfl) ?_
              refine LW.noB rfl rfl rfl rfl (ne_beq (v := false) hq4 rfl) ?_
              refine LW.noB rfl rfl rfl rfl (ne_beq (v := false) hq4 rfl) ?_
              refine LW.noB rfl rfl rfl rfl (ne_beq (v := false) hq4 rfl) ?_
              refine LW.noB rfl rfl rfl rfl (ne_beq (v := false) hq4 rfl) ?_
              refine LW.pure rfl rfl (RV.pickFB rfl hq4 rfl) ?_
              refine LW.nil (jK79 _ _ ⟨_, ?_, ⟨false, F, rfl, H⟩⟩)
              exact ⟨rfl, rfl, rfl, rfl, rfl, rfl, rfl, trivial⟩
      ·
        replace F := ite_n hp2 F
        have hq2 := dec_f hp2
        refine CW.condF rfl hq2 ?_
        refine CW.exit (jK63 _ _ ⟨_, ?_, ⟨t5_3, F, rfl, H⟩⟩)
        exact ⟨rfl, rfl, rfl, rfl, trivial⟩
  ·
    replace F := ite_n hp1 F
    have hq1 := dec_f hp1
    refine CW.condT rfl (not_t hq1) ?_
    refine CW.seq fun K13 hK13 => ?_
    refine CW.region ?_
    refine LW.pure rfl rfl (RV.move rfl) ?_
    refine LW.pure rfl rfl (RV.assign rfl) ?_
    refine LW.pure rfl rfl (RV.assign rfl) ?_
    refine LW.nil (hK13 _ _ ?_)
    refine CW.ret ?_
    obtain rfl := Option.some.inj F
    refine ⟨_, (ResOK.two rfl rfl), ?_⟩
    replace H := H.nilOwn 3 1
    replace R0 := H.ext
    replace H := H.pick (L' := [.own none 0 3 1 (List.map encN (([] : List Int)))]) [0] (by decide) rfl
    replace R0 := H.ext
    exact ⟨none, 0, (by first | rfl | (simp; done) | (simp; omega)), H⟩
set_option maxRecDepth 20000 in
set_option maxHeartbeats 1000000 in
theorem ref01_SameInts_ok {a0 : List Int} {a1 : List Int} {A_a0 : Option Addr} {c_a0 : Nat} {A_a1 : Option Addr} {c_a1 : Nat} {w : World} {res : Bool} (h_a0 : Sl w A_a0 c_a0 1 (a0.map encN)) (h_a1 : Sl w A_a1 c_a1 1 (a1.map encN)) (F : ref01_SameInts a0 a1 = some res) : Calls Try.prog 34 #[.slice A_a0 a0.length c_a0, .slice A_a1 a1.length c_a1] w (Rt w (.bool res)) := by
  refine calls_of_cw (args := [.slice A_a0 a0.length c_a0, .slice A_a1 a1.length c_a1]) Try.func34 rfl rfl rfl rfl ?_
  have H := Hp.start w
  have R0 := H.ext
  unfold ref01_SameInts at F
  refine CW.seq fun K1 hK1 => ?_
  refine CW.region ?_
  refine LW.pure rfl rfl (RV.assign rfl) ?_
  refine LW.nil (hK1 _ _ ?_)
  refine CW.seq fun K2 hK2 => ?_
  refine CW.seq fun K3 hK3 => ?_
  refine CW.region ?_
  refine LW.pure rfl rfl (RV.move rfl) ?_
  refine LW.pure rfl rfl (RV.len Ts30 rfl) ?_
  refine LW.pure rfl rfl (RV.move rfl) ?_
  refine LW.pure rfl rfl (RV.len Ts30 rfl) ?_
  refine LW.pure rfl rfl (RV.nei rfl rfl) ?_
  refine LW.nil (hK3 _ _ ?_)
  by_cases hp1 : ((a0.length : Int)) = ((a1.length : Int))
  ·
    replace F := ite_y hp1 F
    have hq1 := dec_t hp1
    refine CW.condF rfl (not_f hq1) ?_
    refine CW.skip (hK2 _ _ ?_)
    refine CW.seqJ (fun ρ wl1 => (ref01_SameInts_k1 = some res ∧ ρ = [(4, .bool false)] ∧ Hp w wl1 [])) ?_ ?_
    ·
      rintro _ wl1 ⟨F, rfl, H⟩
      have R0 := H.ext
      unfold ref01_SameInts_k1 at F
      refine CW.seq fun K4 hK4 => ?_
      refine CW.region ?_
      refine LW.pure rfl rfl (RV.assign rfl) ?_
      refine LW.nil (hK4 _ _ ?_)
      refine CW.ret ?_
      obtain rfl := Option.some.inj F
      refine ⟨_, (ResOK.one rfl), ?_⟩
      refine ⟨(by first | rfl | simp), R0⟩
    ·
      intro K5 hK5 jK59
      refine CW.seq fun K6 hK6 => ?_
      refine CW.region ?_
      refine LW.pure rfl rfl (RV.assign rfl) ?_
      refine LW.nil (hK6 _ _ ?_)
      refine CW.block ?_
      refine CW.loop (fun meas ρ wl2 => ∃ (t5_1 : Int), ref01_SameInts_L1 a0 a1 meas t5_1 = some res ∧ ρ = [(0, .slice A_a0 a0.length c_a0), (1, .slice A_a1 a1.length c_a1), (4, .bool false), (5, .int .i64 t5_1)] ∧ Hp w wl2 []) FU ⟨_, ?_, ((0 : Int)), F, rfl, H⟩ ?_
      · exact ⟨rfl, rfl, rfl, rfl, trivial⟩
      rintro mk1 _ wl2 ⟨t5_1, F, rfl, H⟩
      have R0 := H.ext
      replace F := ref01_SameInts_L1_s F
      obtain ⟨mk1, rfl, F⟩ := F
      generalize hrec1 : ref01_SameInts_L1 a0 a1 mk1 = rec1 at F
      unfold ref01_SameInts_B1 at F
      refine CW.seq fun K7 hK7 => ?_
      refine CW.seq fun K8 hK8 => ?_
      refine CW.region ?_
      refine LW.pure rfl rfl (RV.move rfl) ?_
      refine LW.pure rfl rfl (RV.move rfl) ?_
      refine LW.pure rfl rfl (RV.len Ts30 rfl) ?_
      refine LW.pure rfl rfl (RV.lss rfl rfl) ?_
      refine LW.nil (hK8 _ _ ?_)
      by_cases hp2 : t5_1 < ((a0.length : Int))
      ·
        replace F := ite_y hp2 F
        have hq2 := dec_t hp2
        refine CW.condT rfl hq2 ?_
        refine CW.skip (hK7 _ _ ?_)
        refine CW.seq fun K9 hK9 => ?_
        refine CW.block ?_
        refine CW.seq fun K10 hK10 => ?_
        obtain ⟨x1, hbx1, hx1, F⟩ := ix_some F
        obtain ⟨x2, hbx2, hx2, F⟩ := ix_some F
        refine CW.draw [] (fun _ => True) (.cons 0 1 (.cons 1 1 (.cons 2 1 (.cons 3 1 (.cons 4 1 (.cons 5 1 (.cons 6 1 (.cons 7 1 (.cons 8 1 .nil))))))))) mixed (by kernel_rfl) fun w1 E1 => ?_
        replace H := H.grow E1
        replace R0 := H.ext
        refine DW.fix rfl rfl rfl (fun _ EQ => RV.move rfl) ?_
        refine DW.fix rfl rfl rfl (fun _ EQ => RV.move rfl) ?_
        refine DW.fix rfl rfl rfl (fun _ EQ => RV.indexAddr Ts30 rfl rfl hbx1 (h_a0.addr_ hx1)) ?_
        refine DW.fix rfl rfl rfl (fun _ EQ => RV.load1 Tk3 rfl ((h_a0.at_ hx1).ext (R0.trans EQ)) rfl) ?_
        refine DW.fix rfl rfl rfl (fun _ EQ => RV.move rfl) ?_
        refine DW.fix rfl rfl rfl (fun _ EQ => RV.move rfl) ?_
        refine DW.fix rfl rfl rfl (fun _ EQ => RV.indexAddr Ts30 rfl rfl hbx2 (h_a1.addr_ hx2)) ?_
        refine DW.fix rfl rfl rfl (fun _ EQ => RV.load1 Tk3 rfl ((h_a1.at_ hx2).ext (R0.trans EQ)) rfl) ?_
        refine DW.fix rfl rfl rfl (fun _ EQ => RV.nei rfl rfl) ?_
        refine DW.nil (hK10 _ _ ?_)
        by_cases hp3 : x1 = x2
        ·
          replace F := ite_y hp3 F
          have hq3 := dec_t hp3
          refine CW.condF rfl (not_f hq3) ?_
          refine CW.skip (hK9 _ _ ?_)
          obtain ⟨hg1, F⟩ := gd_some F
          refine CW.region ?_
          refine LW.pure rfl rfl (RV.move rfl) ?_
          refine LW.pure rfl rfl (RV.add rfl rfl hg1) ?_
          refine LW.pure rfl rfl (RV.assign rfl) ?_
          refine LW.nil ?_
          subst hrec1
          refine ⟨mk1, Nat.lt_succ_self _, _, ?_, (t5_1 + 1), F, rfl, H⟩
          exact ⟨rfl, rfl, rfl, rfl, trivial⟩
        ·
          replace F := ite_n hp3 F
          have hq3 := dec_f hp3
          refine CW.condT rfl (not_t hq3) ?_
          refine CW.seq fun K11 hK11 => ?_
          refine CW.region ?_
          refine LW.pure rfl rfl (RV.assign rfl) ?_
          refine LW.nil (hK11 _ _ ?_)
          refine CW.ret ?_
          obtain rfl := Option.some.inj F
          refine ⟨_, (ResOK.one rfl), ?_⟩
          refine ⟨(by first | rfl | simp), R0⟩
      ·
        replace F := ite_n hp2 F
        have hq2 := dec_f hp2
        refine CW.condF rfl hq2 ?_
        refine CW.exit (jK59 _ _ ⟨_, ?_, ⟨F, rfl, H⟩⟩)
        exact ⟨rfl, trivial⟩
  ·
    replace F := ite_n hp1 F
    have hq1 := dec_f hp1
    refine CW.condT rfl (not_t hq1) ?_
    refine CW.seq fun K12 hK12 => ?_
    refine CW.region ?_
    refine LW.pure rfl rfl (RV.assign rfl) ?_
    refine LW.nil (hK12 _ _ ?_)
    refine CW.ret ?_
    obtain rfl := Option.some.inj F
    refine ⟨_, (ResOK.one rfl), ?_⟩
    refine ⟨(by first | rfl | simp), R0⟩
set_option maxRecDepth 20000 in
set_option maxHeartbeats 1000000 in
theorem law02_DrainCuts_ok {a0 : Net} {a1 : List Int} {A_a0_drains : Option Addr} {c_a0_drains : Nat} {A_a1 : Option Addr} {c_a1 : Nat} {w : World} {res : Bool} (h_a0_drains : Sl w A_a0_drains c_a0_drains 3 (a0.drains.map encDrain)) (h_a1 : Sl w A_a1 c_a1 1 (a1.map encN)) (F : law02_DrainCuts a0 a1 = some res) : Calls Try.prog 7 #[.agg #[.int .i64 a0.nodes, .int .i64 a0.from_, .int .i64 a0.to_, .slice A_a0_drains a0.drains.length c_a0_drains], .slice A_a1 a1.length c_a1] w (Rt w (.bool res)) := by
  refine calls_of_cw (args := [.agg #[.int .i64 a0.nodes, .int .i64 a0.from_, .int .i64 a0.to_, .slice A_a0_drains a0.drains.length c_a0_drains], .slice A_a1 a1.length c_a1]) Try.func7 rfl rfl rfl rfl ?_
  have H := Hp.start w
  have R0 := H.ext
  unfold law02_DrainCuts at F
  refine CW.seq fun K1 hK1 => ?_
  refine CW.region ?_
  refine LW.go rfl rfl (OW.box rfl fun b1 w1 N1 => ?_)
  replace H := H.new N1 N1.blk
  replace R0 := H.ext
  refine LW.pure rfl rfl (RV.assign rfl) ?_
  refine LW.nil (hK1 _ _ ?_)
  refine CW.seq fun K2 hK2 => ?_
  refine CW.seqJ (fun ρ wl1 => (∃ (t23_1 : Bool), law02_DrainCuts_k1 a0 a1 t23_1 = some res ∧ ρ = [(1, .slice A_a1 a1.length c_a1), (2, .pointer (some (⟨b1, 0, none⟩))), (4, .bool false), (23, .bool t23_1)] ∧ Hp w wl1 [.blk b1 24 [.int .i64 a0.nodes, .int .i64 a0.from_, .int .i64 a0.to_, .slice A_a0_drains a0.drains.length c_a0_drains]])) ?_ ?_
  ·
    rintro _ wl1 ⟨t23_1, F, rfl, H⟩
    have R0 := H.ext
    unfold law02_DrainCuts_k1 at F
    by_cases hp1 : t23_1 = true
    ·
      replace F := ite_y hp1 F
      have hq1 : t23_1 = true := hp1
      refine CW.condT rfl hq1 ?_
      refine CW.seq fun K3 hK3 => ?_
      obtain ⟨r1, hr1, F⟩ := bnd_some F
      refine CW.region ?_
      refine LW.go rfl rfl (OW.call Tc17 rfl (law02_known_ok hr1) ?_)
      rintro _ w2 ⟨rfl, E1⟩
      refine ⟨_, rfl, ?_⟩
      replace H := H.grow E1
      replace R0 := H.ext
      refine LW.pure rfl rfl (RV.assign rfl) ?_
      refine LW.nil (hK3 _ _ ?_)
      refine CW.ret ?_
      obtain rfl := Option.some.inj F
      refine ⟨_, (ResOK.one rfl), ?_⟩
      refine ⟨(by first | rfl | simp), R0⟩
    ·
      replace F := ite_n hp1 F
      have hq1 : t23_1 = false := raw_f hp1
      refine CW.condF rfl hq1 ?_
      refine CW.skip (hK2 _ _ ?_)
      refine CW.seq fun K4 hK4 => ?_
      obtain ⟨r2, hr2, F⟩ := bnd_some F
      refine CW.region ?_
      refine LW.pure rfl rfl (RV.loadA [.int .i64 a0.nodes, .int .i64 a0.from_, .int .i64 a0.to_, .slice A_a0_drains a0.drains.length c_a0_drains] Tk24 rfl (H.blk 0 rfl).cells rfl rfl) ?_
      refine LW.pure rfl rfl (RV.move rfl) ?_
      refine LW.go rfl rfl (OW.call Tc28 rfl (drain_Across_ok (a0 := a0) (a1 := a1) (h_a0_drains.ext R0) (h_a1.ext R0) hr2) ?_)
      rintro _ w3 ⟨rfl, E2⟩
      refine ⟨_, rfl, ?_⟩
      replace H := H.grow E2
      replace R0 := H.ext
      refine LW.pure rfl rfl (RV.move rfl) ?_
      refine LW.pure rfl rfl (RV.extract rfl rfl) ?_
      refine LW.pure rfl rfl (RV.extract rfl rfl) ?_
      refine LW.pure rfl rfl (RV.assign rfl) ?_
      refine LW.pure rfl rfl (RV.assign rfl) ?_
      refine LW.nil (hK4 _ _ ?_)
      refine CW.seq fun K5 hK5 => ?_
      obtain ⟨r3, hr3, F⟩ := bnd_some F
      refine CW.region ?_
      refine LW.pure rfl rfl (RV.loadA [.int .i64 a0.nodes, .int .i64 a0.from_, .int .i64 a0.to_, .slice A_a0_drains a0.drains.length c_a0_drains] Tk24 rfl (H.blk 0 rfl).cells rfl rfl) ?_
      refine LW.pure rfl rfl (RV.move rfl) ?_
      refine LW.go rfl rfl (OW.call Tc29 rfl (ref02_Across_ok (a0 := a0) (a1 := a1) (h_a0_drains.ext R0) (h_a1.ext R0) hr3) ?_)
      rintro _ w4 ⟨rfl, E3⟩
      refine ⟨_, rfl, ?_⟩
      replace H := H.grow E3
      replace R0 := H.ext
      refine LW.pure rfl rfl (RV.move rfl) ?_
      refine LW.pure rfl rfl (RV.extract rfl rfl) ?_
      refine LW.pure rfl rfl (RV.extract rfl rfl) ?_
      refine LW.pure rfl rfl (RV.assign rfl) ?_
      refine LW.pure rfl rfl (RV.assign rfl) ?_
      refine LW.nil (hK5 _ _ ?_)
      refine CW.seq fun K6 hK6 => ?_
      obtain ⟨r4, hr4, F⟩ := bnd_some F
      refine CW.region ?_
      refine LW.pure rfl rfl (RV.loadA [.int .i64 a0.nodes, .int .i64 a0.from_, .int .i64 a0.to_, .slice A_a0_drains a0.drains.length c_a0_drains] Tk24 rfl (H.blk 0 rfl).cells rfl rfl) ?_
      refine LW.go rfl rfl (OW.call Tc30 rfl (drain_Least_ok (a0 := a0) (h_a0_drains.ext R0) hr4) ?_)
      rintro _ w5 ⟨A21_0, c21_0, rfl, E4⟩
      refine ⟨_, rfl, ?_⟩
      replace H : Hp w w5 [.own A21_0 c21_0 3 1 (List.map encN r4.1), .blk b1 24 [.int .i64 a0.nodes, .int .i64 a0.from_, .int .i64 a0.to_, .slice A_a0_drains a0.drains.length c_a0_drains]] := H.append E4
      replace R0 := H.ext
      refine LW.pure rfl rfl (RV.move rfl) ?_
      refine LW.pure rfl rfl (RV.extract rfl rfl) ?_
      refine LW.pure rfl rfl (RV.extract rfl rfl) ?_
      refine LW.pure rfl rfl (RV.assign rfl) ?_
      refine LW.pure rfl rfl (RV.assign rfl) ?_
      refine LW.nil (hK6 _ _ ?_)
      refine CW.seq fun K7 hK7 => ?_
      obtain ⟨r5, hr5, F⟩ := bnd_some F
      refine CW.region ?_
      refine LW.pure rfl rfl (RV.loadA [.int .i64 a0.nodes, .int .i64 a0.from_, .int .i64 a0.to_, .slice A_a0_drains a0.drains.length c_a0_drains] Tk24 rfl (H.blk 1 rfl).cells rfl rfl) ?_
      refine LW.go rfl rfl (OW.call Tc31 rfl (ref02_Least_ok (a0 := a0) (h_a0_drains.ext R0) hr5) ?_)
      rintro _ w6 ⟨A23_0, c23_0, rfl, E5⟩
      refine ⟨_, rfl, ?_⟩
      replace H : Hp w w6 [.own A23_0 c23_0 3 1 (List.map encN r5.1), .own A21_0 c21_0 3 1 (List.map encN r4.1), .blk b1 24 [.int .i64 a0.nodes, .int .i64 a0.from_, .int .i64 a0.to_, .slice A_a0_drains a0.drains.length c_a0_drains]] := H.append E5
      replace R0 := H.ext
      refine LW.pure rfl rfl (RV.move rfl) ?_
      refine LW.pure rfl rfl (RV.extract rfl rfl) ?_
      refine LW.pure rfl rfl (RV.extract rfl rfl) ?_
      refine LW.pure rfl rfl (RV.assign rfl) ?_
      refine LW.pure rfl rfl (RV.assign rfl) ?_
      refine LW.nil (hK7 _ _ ?_)
      refine CW.seq fun K8 hK8 => ?_
      obtain ⟨r6, hr6, F⟩ := bnd_some F
      refine CW.region ?_
      refine LW.pure rfl rfl (RV.loadA [.int .i64 a0.nodes, .int .i64 a0.from_, .int .i64 a0.to_, .slice A_a0_drains a0.drains.length c_a0_drains] Tk24 rfl (H.blk 2 rfl).cells rfl rfl) ?_
      refine LW.go rfl rfl (OW.call Tc32 rfl (drain_Greatest_ok (a0 := a0) (h_a0_drains.ext R0) hr6) ?_)
      rintro _ w7 ⟨A25_0, c25_0, rfl, E6⟩
      refine ⟨_, rfl, ?_⟩
      replace H : Hp w w7 [.own A25_0 c25_0 3 1 (List.map encN r6.1), .own A23_0 c23_0 3 1 (List.map encN r5.1), .own A21_0 c21_0 3 1 (List.map encN r4.1), .blk b1 24 [.int .i64 a0.nodes, .int .i64 a0.from_, .int .i64 a0.to_, .slice A_a0_drains a0.drains.length c_a0_drains]] := H.append E6
      replace R0 := H.ext
      refine LW.pure rfl rfl (RV.move rfl) ?_
      refine LW.pure rfl rfl (RV.extract rfl rfl) ?_
      refine LW.pure rfl rfl (RV.extract rfl rfl) ?_
      refine LW.pure rfl rfl (RV.assign rfl) ?_
      refine LW.pure rfl rfl (RV.assign rfl) ?_
      refine LW.nil (hK8 _ _ ?_)
      refine CW.seq fun K9 hK9 => ?_
      obtain ⟨r7, hr7, F⟩ := bnd_some F
      refine CW.region ?_
      refine LW.pure rfl rfl (RV.loadA [.int .i64 a0.nodes, .int .i64 a0.from_, .int .i64 a0.to_, .slice A_a0_drains a0.drains.length c_a0_drains] Tk24 rfl (H.blk 3 rfl).cells rfl rfl) ?_
      refine LW.go rfl rfl (OW.call Tc33 rfl (ref02_Greatest_ok (a0 := a0) (h_a0_drains.ext R0) hr7) ?_)
      rintro _ w8 ⟨A27_0, c27_0, rfl, E7⟩
      refine ⟨_, rfl, ?_⟩
      replace H : Hp w w8 [.own A27_0 c27_0 3 1 (List.map encN r7.1), .own A25_0 c25_0 3 1 (List.map encN r6.1), .own A23_0 c23_0 3 1 (List.map encN r5.1), .own A21_0 c21_0 3 1 (List.map encN r4.1), .blk b1 24 [.int .i64 a0.nodes, .int .i64 a0.from_, .int .i64 a0.to_, .slice A_a0_drains a0.drains.length c_a0_drains]] := H.append E7
      replace R0 := H.ext
      refine LW.pure rfl rfl (RV.move rfl) ?_
      refine LW.pure rfl rfl (RV.extract rfl rfl) ?_
      refine LW.pure rfl rfl (RV.extract rfl rfl) ?_
      refine LW.pure rfl rfl (RV.assign rfl) ?_
      refine LW.pure rfl rfl (RV.assign rfl) ?_
      refine LW.nil (hK9 _ _ ?_)
      refine CW.seq fun K10 hK10 => ?_
      by_cases hp2 : r2.1 = r3.1
      ·
        replace F := ite_y hp2 F
        have hq2 := dec_t hp2
        by_cases hp3 : r2.2 = r3.2
        ·
          replace F := ite_y hp3 F
          have hq3 := dec_t hp3
          obtain ⟨r8, hr8, F⟩ := bnd_some F
          by_cases hp4 : r8 = true
          ·
            replace F := ite_y hp4 F
            have hq4 : r8 = true := hp4
            by_cases hp5 : r4.2 = r5.2
            ·
              replace F := ite_y hp5 F
              have hq5 := dec_t hp5
              obtain ⟨r9, hr9, F⟩ := bnd_some F
              by_cases hp6 : r9 = true
              ·
                replace F := ite_y hp6 F
                have hq6 : r9 = true := hp6
                by_cases hp7 : r6.2 = r7.2
                ·
                  replace F := ite_y hp7 F
                  have hq7 := dec_t hp7
                  obtain ⟨r10, hr10, F⟩ := bnd_some F
                  refine CW.region ?_
                  refine LW.pure rfl rfl (RV.move rfl) ?_
                  refine LW.pure rfl rfl (RV.move rfl) ?_
                  refine LW.pure rfl rfl (RV.eqi rfl rfl) ?_
                  refine LW.pure rfl rfl (RV.move rfl) ?_
                  refine LW.pureYB rfl rfl rfl rfl hq2 (RV.move rfl) ?_
                  refine LW.pureYB rfl rfl rfl rfl hq2 (RV.move rfl) ?_
                  refine LW.pureYB rfl rfl rfl rfl hq2 (RV.eqi rfl rfl) ?_
                  refine LW.pure rfl rfl (RV.pickTB rfl hq2 rfl) ?_
                  refine LW.pure rfl rfl (RV.move rfl) ?_
                  refine LW.pureYB rfl rfl rfl rfl hq3 (RV.move rfl) ?_
                  refine LW.pureYB rfl rfl rfl rfl hq3 (RV.move rfl) ?_
                  refine LW.yesB rfl rfl rfl rfl hq3 (OW.call Tc34 rfl (ref01_SameInts_ok (a0 := r4.1) (a1 := r5.1) (H.own 3 rfl).sl (H.own 2 rfl).sl hr8) ?_)
                  rintro _ w9 ⟨rfl, E8⟩
                  refine ⟨_, rfl, ?_⟩
                  replace H := H.grow E8
                  replace R0 := H.ext
                  refine LW.pure rfl rfl (RV.pickTB rfl hq3 rfl) ?_
                  refine LW.pure rfl rfl (RV.move rfl) ?_
                  refine LW.pureYB rfl rfl rfl rfl hq4 (RV.move rfl) ?_
                  refine LW.pureYB rfl rfl rfl rfl hq4 (RV.move rfl) ?_
                  refine LW.pureYB rfl rfl rfl rfl hq4 (RV.eqi rfl rfl) ?_
                  refine LW.pure rfl rfl (RV.pickTB rfl hq4 rfl) ?_
                  refine LW.pure rfl rfl (RV.move rfl) ?_
                  refine LW.pureYB rfl rfl rfl rfl hq5 (RV.move rfl) ?_
                  refine LW.pureYB rfl rfl rfl rfl hq5 (RV.move rfl) ?_
                  refine LW.yesB rfl rfl rfl rfl hq5 (OW.call Tc34 rfl (ref01_SameInts_ok (a0 := r6.1) (a1 := r7.1) (H.own 1 rfl).sl (H.own 0 rfl).sl hr9) ?_)
                  rintro _ w10 ⟨rfl, E9⟩
                  refine ⟨_, rfl, ?_⟩
                  replace H := H.grow E9
                  replace R0 := H.ext
                  refine LW.pure rfl rfl (RV.pickTB rfl hq5 rfl) ?_
                  refine LW.pure rfl rfl (RV.move rfl) ?_
                  refine LW.pureYB rfl rfl rfl rfl hq6 (RV.move rfl) ?_
                  refine LW.pureYB rfl rfl rfl rfl hq6 (RV.move rfl) ?_
                  refine LW.pureYB rfl rfl rfl rfl hq6 (RV.eqi rfl rfl) ?_
                  refine LW.pure rfl rfl (RV.pickTB rfl hq6 rfl) ?_
                  refine LW.pure rfl rfl (RV.move rfl) ?_
                  refine LW.yesB rfl rfl rfl rfl hq7 (OW.call Tc17 rfl (law02_known_ok hr10) ?_)
                  rintro _ w11 ⟨rfl, E10⟩
                  refine ⟨_, rfl, ?_⟩
                  replace H := H.grow E10
                  replace R0 := H.ext
                  refine LW.pure rfl rfl (RV.pickTB rfl hq7 rfl) ?_
                  refine LW.pure rfl rfl (RV.assign rfl) ?_
                  refine LW.nil (hK10 _ _ ?_)
                  refine CW.ret ?_
                  obtain rfl := Option.some.inj F
                  refine ⟨_, (ResOK.one rfl), ?_⟩
                  refine ⟨(by first | rfl | simp), R0⟩
                ·
                  replace F := ite_n hp7 F
                  have hq7 := dec_f hp7
                  refine CW.region ?_
                  refine LW.pure rfl rfl (RV.move rfl) ?_
                  refine LW.pure rfl rfl (RV.move rfl) ?_
                  refine LW.pure rfl rfl (RV.eqi rfl rfl) ?_
                  refine LW.pure rfl rfl (RV.move rfl) ?_
                  refine LW.pureYB rfl rfl rfl rfl hq2 (RV.move rfl) ?_
                  refine LW.pureYB rfl rfl rfl rfl hq2 (RV.move rfl) ?_
                  refine LW.pureYB rfl rfl rfl rfl hq2 (RV.eqi rfl rfl) ?_
                  refine LW.pure rfl rfl (RV.pickTB rfl hq2 rfl) ?_
                  refine LW.pure rfl rfl (RV.move rfl) ?_
                  refine LW.pureYB rfl rfl rfl rfl hq3 (RV.move rfl) ?_
                  refine LW.pureYB rfl rfl rfl rfl hq3 (RV.move rfl) ?_
                  refine LW.yesB rfl rfl rfl rfl hq3 (OW.call Tc34 rfl (ref01_SameInts_ok (a0 := r4.1) (a1 := r5.1) (H.own 3 rfl).sl (H.own 2 rfl).sl hr8) ?_)
                  rintro _ w12 ⟨rfl, E11⟩
                  refine ⟨_, rfl, ?_⟩
                  replace H := H.grow E11
                  replace R0 := H.ext
                  refine LW.pure rfl rfl (RV.pickTB rfl hq3 rfl) ?_
                  refine LW.pure rfl rfl (RV.move rfl) ?_
                  refine LW.pureYB rfl rfl rfl rfl hq4 (RV.move rfl) ?_
                  refine LW.pureYB rfl rfl rfl rfl hq4 (RV.move rfl) ?_
                  refine LW.pureYB rfl rfl rfl rfl hq4 (RV.eqi rfl rfl) ?_
                  refine LW.pure rfl rfl (RV.pickTB rfl hq4 rfl) ?_
                  refine LW.pure rfl rfl (RV.move rfl) ?_
                  refine LW.pureYB rfl rfl rfl rfl hq5 (RV.move rfl) ?_
                  refine LW.pureYB rfl rfl rfl rfl hq5 (RV.move rfl) ?_
                  refine LW.yesB rfl rfl rfl rfl hq5 (OW.call Tc34 rfl (ref01_SameInts_ok (a0 := r6.1) (a1 := r7.1) (H.own 1 rfl).sl (H.own 0 rfl).sl hr9) ?_)
                  rintro _ w13 ⟨rfl, E12⟩
                  refine ⟨_, rfl, ?_⟩
                  replace H := H.grow E12
                  replace R0 := H.ext
                  refine LW.pure rfl rfl (RV.pickTB rfl hq5 rfl) ?_
                  refine LW.pure rfl rfl (RV.move rfl) ?_
                  refine LW.pureYB rfl rfl rfl rfl hq6 (RV.move rfl) ?_
                  refine LW.pureYB rfl rfl rfl rfl hq6 (RV.move rfl) ?_
                  refine LW.pureYB rfl rfl rfl rfl hq6 (RV.eqi rfl rfl) ?_
                  refine LW.pure rfl rfl (RV.pickTB rfl hq6 rfl) ?_
                  refine LW.pure rfl rfl (RV.move rfl) ?_
                  refine LW.noB rfl rfl rfl rfl (ne_beq (v := false) hq7 rfl) ?_
                  refine LW.pure rfl rfl (RV.pickFB rfl hq7 rfl) ?_
                  refine LW.pure rfl rfl (RV.assign rfl) ?_
                  refine LW.nil (hK10 _ _ ?_)
                  refine CW.ret ?_
                  obtain rfl := Option.some.inj F
                  refine ⟨_, (ResOK.one rfl), ?_⟩
                  refine ⟨(by first | rfl | simp), R0⟩
              ·
                replace F := ite_n hp6 F
                have hq6 : r9 = false := raw_f hp6
                refine CW.region ?_
                refine LW.pure rfl rfl (RV.move rfl) ?_
                refine LW.pure rfl rfl (RV.move rfl) ?_
                refine LW.pure rfl rfl (RV.eqi rfl rfl) ?_
                refine LW.pure rfl rfl (RV.move rfl) ?_
                refine LW.pureYB rfl rfl rfl rfl hq2 (RV.move rfl) ?_
                refine LW.pureYB rfl rfl rfl rfl hq2 (RV.move rfl) ?_
                refine LW.pureYB rfl rfl rfl rfl hq2 (RV.eqi rfl rfl) ?_
                refine LW.pure rfl rfl (RV.pickTB rfl hq2 rfl) ?_
                refine LW.pure rfl rfl (RV.move rfl) ?_
                refine LW.pureYB rfl rfl rfl rfl hq3 (RV.move rfl) ?_
                refine LW.pureYB rfl rfl rfl rfl hq3 (RV.move rfl) ?_
                refine LW.yesB rfl rfl rfl rfl hq3 (OW.call Tc34 rfl (ref01_SameInts_ok (a0 := r4.1) (a1 := r5.1) (H.own 3 rfl).sl (H.own 2 rfl).sl hr8) ?_)
                rintro _ w14 ⟨rfl, E13⟩
                refine ⟨_, rfl, ?_⟩
                replace H := H.grow E13
                replace R0 := H.ext
                refine LW.pure rfl rfl (RV.pickTB rfl hq3 rfl) ?_
                refine LW.pure rfl rfl (RV.move rfl) ?_
                refine LW.pureYB rfl rfl rfl rfl hq4 (RV.move rfl) ?_
                refine LW.pureYB rfl rfl rfl rfl hq4 (RV.move rfl) ?_
                refine LW.pureYB rfl rfl rfl rfl hq4 (RV.eqi rfl rfl) ?_
                refine LW.pure rfl rfl (RV.pickTB rfl hq4 rfl) ?_
                refine LW.pure rfl rfl (RV.move rfl) ?_
                refine LW.pureYB rfl rfl rfl rfl hq5 (RV.move rfl) ?_
                refine LW.pureYB rfl rfl rfl rfl hq5 (RV.move rfl) ?_
                refine LW.yesB rfl rfl rfl rfl hq5 (OW.call Tc34 rfl (ref01_SameInts_ok (a0 := r6.1) (a1 := r7.1) (H.own 1 rfl).sl (H.own 0 rfl).sl hr9) ?_)
                rintro _ w15 ⟨rfl, E14⟩
                refine ⟨_, rfl, ?_⟩
                replace H := H.grow E14
                replace R0 := H.ext
                refine LW.pure rfl rfl (RV.pickTB rfl hq5 rfl) ?_
                refine LW.pure rfl rfl (RV.move rfl) ?_
                refine LW.noB rfl rfl rfl rfl (ne_beq (v := false) hq6 rfl) ?_
                refine LW.noB rfl rfl rfl rfl (ne_beq (v := false) hq6 rfl) ?_
                refine LW.noB rfl rfl rfl rfl (ne_beq (v := false) hq6 rfl) ?_
                refine LW.pure rfl rfl (RV.pickFB rfl hq6 rfl) ?_
                refine LW.pure rfl rfl (RV.move rfl) ?_
                refine LW.noB rfl rfl rfl rfl (ne_beq (v := false) rfl rfl) ?_
                refine LW.pure rfl rfl (RV.pickFB rfl rfl rfl) ?_
                refine LW.pure rfl rfl (RV.assign rfl) ?_
                refine LW.nil (hK10 _ _ ?_)
                refine CW.ret ?_
                obtain rfl := Option.some.inj F
                refine ⟨_, (ResOK.one rfl), ?_⟩
                refine ⟨(by first | rfl | simp), R0⟩
            ·
              replace F := ite_n hp5 F
              have hq5 := dec_f hp5
              refine CW.region ?_
              refine LW.pure rfl rfl (RV.move rfl) ?_
              refine LW.pure rfl rfl (RV.move rfl) ?_
              refine LW.pure rfl rfl (RV.eqi rfl rfl) ?_
              refine LW.pure rfl rfl (RV.move rfl) ?_
              refine LW.pureYB rfl rfl rfl rfl hq2 (RV.move rfl) ?_
              refine LW.pureYB rfl rfl rfl rfl hq2 (RV.move rfl) ?_
              refine LW.pureYB rfl rfl rfl rfl hq2 (RV.eqi rfl rfl) ?_
              refine LW.pure rfl rfl (RV.pickTB rfl hq2 rfl) ?_
              refine LW.pure rfl rfl (RV.move rfl) ?_
              refine LW.pureYB rfl rfl rfl rfl hq3 (RV.move rfl) ?_
              refine LW.pureYB rfl rfl rfl rfl hq3 (RV.move rfl) ?_
              refine LW.yesB rfl rfl rfl rfl hq3 (OW.call Tc34 rfl (ref01_SameInts_ok (a0 := r4.1) (a1 := r5.1) (H.own 3 rfl).sl (H.own 2 rfl).sl hr8) ?_)
              rintro _ w16 ⟨rfl, E15⟩
              refine ⟨_, rfl, ?_⟩
              replace H := H.grow E15
              replace R0 := H.ext
              refine LW.pure rfl rfl (RV.pickTB rfl hq3 rfl) ?_
              refine LW.pure rfl rfl (RV.move rfl) ?_
              refine LW.pureYB rfl rfl rfl rfl hq4 (RV.move rfl) ?_
              refine LW.pureYB rfl rfl rfl rfl hq4 (RV.move rfl) ?_
              refine LW.pureYB rfl rfl rfl rfl hq4 (RV.eqi rfl rfl) ?_
              refine LW.pure rfl rfl (RV.pickTB rfl hq4 rfl) ?_
              refine LW.pure rfl rfl (RV.move rfl) ?_
              refine LW.noB rfl rfl rfl rfl (ne_beq (v := false) hq5 rfl) ?_
              refine LW.noB rfl rfl rfl rfl (ne_beq (v := false) hq5 rfl) ?_
              refine LW.noB rfl rfl rfl rfl (ne_beq (v := false) hq5 rfl) ?_
              refine LW.pure rfl rfl (RV.pickFB rfl hq5 rfl) ?_
              refine LW.pure rfl rfl (RV.move rfl) ?_
              refine LW.noB rfl rfl rfl rfl (ne_beq (v := false) rfl rfl) ?_
              refine LW.noB rfl rfl rfl rfl (ne_beq (v := false) rfl rfl) ?_
              refine LW.noB rfl rfl rfl rfl (ne_beq (v := false) rfl rfl) ?_
              refine LW.pure rfl rfl (RV.pickFB rfl rfl rfl) ?_
              refine LW.pure rfl rfl (RV.move rfl) ?_
              refine LW.noB rfl rfl rfl rfl (ne_beq (v := false) rfl rfl) ?_
              refine LW.pure rfl rfl (RV.pickFB rfl rfl rfl) ?_
              refine LW.pure rfl rfl (RV.assign rfl) ?_
              refine LW.nil (hK10 _ _ ?_)
              refine CW.ret ?_
              obtain rfl := Option.some.inj F
              refine ⟨_, (ResOK.one rfl), ?_⟩
              refine ⟨(by first | rfl | simp), R0⟩
          ·
            replace F := ite_n hp4 F
            have hq4 : r8 = false := raw_f hp4
            refine CW.region ?_
            refine LW.pure rfl rfl (RV.move rfl) ?_
            refine LW.pure rfl rfl (RV.move rfl) ?_
            refine LW.pure rfl rfl (RV.eqi rfl rfl) ?_
            refine LW.pure rfl rfl (RV.move rfl) ?_
            refine LW.pureYB rfl rfl rfl rfl hq2 (RV.move rfl) ?_
            refine LW.pureYB rfl rfl rfl rfl hq2 (RV.move rfl) ?_
            refine LW.pureYB rfl rfl rfl rfl hq2 (RV.eqi rfl rfl) ?_
            refine LW.pure rfl rfl (RV.pickTB rfl hq2 rfl) ?_
            refine LW.pure rfl rfl (RV.move rfl) ?_
            refine LW.pureYB rfl rfl rfl rfl hq3 (RV.move rfl) ?_
            refine LW.pureYB rfl rfl rfl rfl hq3 (RV.move rfl) ?_
            refine LW.yesB rfl rfl rfl rfl hq3 (OW.call Tc34 rfl (ref01_SameInts_ok (a0 := r4.1) (a1 := r5.1) (H.own 3 rfl).sl (H.own 2 rfl).sl hr8) ?_)
            rintro _ w17 ⟨rfl, E16⟩
            refine ⟨_, rfl, ?_⟩
            replace H := H.grow E16
            replace R0 := H.ext
            refine LW.pure rfl rfl (RV.pickTB rfl hq3 rfl) ?_
            refine LW.pure rfl rfl (RV.move rfl) ?_
            refine LW.noB rfl rfl rfl rfl (ne_beq (v := false) hq4 rfl) ?_
            refine LW.noB rfl rfl rfl rfl (ne_beq (v := false) hq4 rfl) ?_
            refine LW.noB rfl rfl rfl rfl (ne_beq (v := false) hq4 rfl) ?_
            refine LW.pure rfl rfl (RV.pickFB rfl hq4 rfl) ?_
            refine LW.pure rfl rfl (RV.move rfl) ?_
            refine LW.noB rfl rfl rfl rfl (ne_beq (v := false) rfl rfl) ?_
            refine LW.noB rfl rfl rfl rfl (ne_beq (v := false) rfl rfl) ?_
            refine LW.noB rfl rfl rfl rfl (ne_beq (v := false) rfl rfl) ?_
            refine LW.pure rfl rfl (RV.pickFB rfl rfl rfl) ?_
            refine LW.pure rfl rfl (RV.move rfl) ?_
            refine LW.noB rfl rfl rfl rfl (ne_beq (v := false) rfl rfl) ?_
            refine LW.noB rfl rfl rfl rfl (ne_beq (v := false) rfl rfl) ?_
            refine LW.noB rfl rfl rfl rfl (ne_beq (v := false) rfl rfl) ?_
            refine LW.pure rfl rfl (RV.pickFB rfl rfl rfl) ?_
            refine LW.pure rfl rfl (RV.move rfl) ?_
            refine LW.noB rfl rfl rfl rfl (ne_beq (v := false) rfl rfl) ?_
            refine LW.pure rfl rfl (RV.pickFB rfl rfl rfl) ?_
            refine LW.pure rfl rfl (RV.assign rfl) ?_
            refine LW.nil (hK10 _ _ ?_)
            refine CW.ret ?_
            obtain rfl := Option.some.inj F
            refine ⟨_, (ResOK.one rfl), ?_⟩
            refine ⟨(by first | rfl | simp), R0⟩
        ·
          replace F := ite_n hp3 F
          have hq3 := dec_f hp3
          refine CW.region ?_
          refine LW.pure rfl rfl (RV.move rfl) ?_
          refine LW.pure rfl rfl (RV.move rfl) ?_
          refine LW.pure rfl rfl (RV.eqi rfl rfl) ?_
          refine LW.pure rfl rfl (RV.move rfl) ?_
          refine LW.pureYB rfl rfl rfl rfl hq2 (RV.move rfl) ?_
          refine LW.pureYB rfl rfl rfl rfl hq2 (RV.move rfl) ?_
          refine LW.pureYB rfl rfl rfl rfl hq2 (RV.eqi rfl rfl) ?_
          refine LW.pure rfl rfl (RV.pickTB rfl hq2 rfl) ?_
          refine LW.pure rfl rfl (RV.move rfl) ?_
          refine LW.noB rfl rfl rfl rfl (ne_beq (v := false) hq3 rfl) ?_
          refine LW.noB rfl rfl rfl rfl (ne_beq (v := false) hq3 rfl) ?_
          refine LW.noB rfl rfl rfl rfl (ne_beq (v := false) hq3 rfl) ?_
          refine LW.pure rfl rfl (RV.pickFB rfl hq3 rfl) ?_
          refine LW.pure rfl rfl (RV.move rfl) ?_
          refine LW.noB rfl rfl rfl rfl (ne_beq (v := false) rfl rfl) ?_
          refine LW.noB rfl rfl rfl rfl (ne_beq (v := false) rfl rfl) ?_
          refine LW.noB rfl rfl rfl rfl (ne_beq (v := false) rfl rfl) ?_
          refine LW.pure rfl rfl (RV.pickFB rfl rfl rfl) ?_
          refine LW.pure rfl rfl (RV.move rfl) ?_
          refine LW.noB rfl rfl rfl rfl (ne_beq (v := false) rfl rfl) ?_
          refine LW.noB rfl rfl rfl rfl (ne_beq (v := false) rfl rfl) ?_
          refine LW.noB rfl rfl rfl rfl (ne_beq (v := false) rfl rfl) ?_
          refine LW.pure rfl rfl (RV.pickFB rfl rfl rfl) ?_
          refine LW.pure rfl rfl (RV.move rfl) ?_
          refine LW.noB rfl rfl rfl rfl (ne_beq (v := false) rfl rfl) ?_
          refine LW.noB rfl rfl rfl rfl (ne_beq (v := false) rfl rfl) ?_
          refine LW.noB rfl rfl rfl rfl (ne_beq (v := false) rfl rfl) ?_
          refine LW.pure rfl rfl (RV.pickFB rfl rfl rfl) ?_
          refine LW.pure rfl rfl (RV.move rfl) ?_
          refine LW.noB rfl rfl rfl rfl (ne_beq (v := false) rfl rfl) ?_
          refine LW.pure rfl rfl (RV.pickFB rfl rfl rfl) ?_
          refine LW.pure rfl rfl (RV.assign rfl) ?_
          refine LW.nil (hK10 _ _ ?_)
          refine CW.ret ?_
          obtain rfl := Option.some.inj F
          refine ⟨_, (ResOK.one rfl), ?_⟩
          refine ⟨(by first | rfl | simp), R0⟩
      ·
        replace F := ite_n hp2 F
        have hq2 := dec_f hp2
        refine CW.region ?_
        refine LW.pure rfl rfl (RV.move rfl) ?_
        refine LW.pure rfl rfl (RV.move rfl) ?_
        refine LW.pure rfl rfl (RV.eqi rfl rfl) ?_
        refine LW.pure rfl rfl (RV.move rfl) ?_
        refine LW.noB rfl rfl rfl rfl (ne_beq (v := false) hq2 rfl) ?_
        refine LW.noB rfl rfl rfl rfl (ne_beq (v := false) hq2 rfl) ?_
        refine LW.noB rfl rfl rfl rfl (ne_beq (v := false) hq2 rfl) ?_
        refine LW.pure rfl rfl (RV.pickFB rfl hq2 rfl) ?_
        refine LW.pure rfl rfl (RV.move rfl) ?_
        refine LW.noB rfl rfl rfl rfl (ne_beq (v := false) rfl rfl) ?_
        refine LW.noB rfl rfl rfl rfl (ne_beq (v := false) rfl rfl) ?_
        refine LW.noB rfl rfl rfl rfl (ne_beq (v := false) rfl rfl) ?_
        refine LW.pure rfl rfl (RV.pickFB rfl rfl rfl) ?_
        refine LW.pure rfl rfl (RV.move rfl) ?_
        refine LW.noB rfl rfl rfl rfl (ne_beq (v := false) rfl rfl) ?_
        refine LW.noB rfl rfl rfl rfl (ne_beq (v := false) rfl rfl) ?_
        refine LW.noB rfl rfl rfl rfl (ne_beq (v := false) rfl rfl) ?_
        refine LW.pure rfl rfl (RV.pickFB rfl rfl rfl) ?_
        refine LW.pure rfl rfl (RV.move rfl) ?_
        refine LW.noB rfl rfl rfl rfl (ne_beq (v := false) rfl rfl) ?_
        refine LW.noB rfl rfl rfl rfl (ne_beq (v := false) rfl rfl) ?_
        refine LW.noB rfl rfl rfl rfl (ne_beq (v := false) rfl rfl) ?_
        refine LW.pure rfl rfl (RV.pickFB rfl rfl rfl) ?_
        refine LW.pure rfl rfl (RV.move rfl) ?_
        refine LW.noB rfl rfl rfl rfl (ne_beq (v := false) rfl rfl) ?_
        refine LW.noB rfl rfl rfl rfl (ne_beq (v := false) rfl rfl) ?_
        refine LW.noB rfl rfl rfl rfl (ne_beq (v := false) rfl rfl) ?_
        refine LW.pure rfl rfl (RV.pickFB rfl rfl rfl) ?_
        refine LW.pure rfl rfl (RV.move rfl) ?_
        refine LW.noB rfl rfl rfl rfl (ne_beq (v := false) rfl rfl) ?_
        refine LW.pure rfl rfl (RV.pickFB rfl rfl rfl) ?_
        refine LW.pure rfl rfl (RV.assign rfl) ?_
        refine LW.nil (hK10 _ _ ?_)
        refine CW.ret ?_
        obtain rfl := Option.some.inj F
        refine ⟨_, (ResOK.one rfl), ?_⟩
        refine ⟨(by first | rfl | simp), R0⟩
  ·
    intro K11 hK11 jK22
    obtain ⟨r11, hr11, F⟩ := bnd_some F
    by_cases hp8 : r11 = true
    ·
      replace F := ite_y hp8 F
      have hq8 : r11 = true := hp8
      refine CW.region ?_
      refine LW.pure rfl rfl (RV.loadA [.int .i64 a0.nodes, .int .i64 a0.from_, .int .i64 a0.to_, .slice A_a0_drains a0.drains.length c_a0_drains] Tk24 rfl (H.blk 0 rfl).cells rfl rfl) ?_
      refine LW.go rfl rfl (OW.call Tc16 rfl (law02_Long_ok (a0 := a0) (h_a0_drains.ext R0) hr11) ?_)
      rintro _ w18 ⟨rfl, E17⟩
      refine ⟨_, rfl, ?_⟩
      replace H := H.grow E17
      replace R0 := H.ext
      refine LW.pure rfl rfl (RV.move rfl) ?_
      refine LW.noB rfl rfl rfl rfl (ne_beq (v := true) hq8 rfl) ?_
      refine LW.noB rfl rfl rfl rfl (ne_beq (v := true) hq8 rfl) ?_
      refine LW.noB rfl rfl rfl rfl (ne_beq (v := true) hq8 rfl) ?_
      refine LW.pure rfl rfl (RV.pickTB rfl hq8 rfl) ?_
      refine LW.nil (jK22 _ _ ⟨_, ?_, ⟨true, F, rfl, H⟩⟩)
      exact ⟨rfl, rfl, rfl, rfl, trivial⟩
    ·
      replace F := ite_n hp8 F
      have hq8 : r11 = false := raw_f hp8
      refine CW.region ?_
      refine LW.pure rfl rfl (RV.loadA [.int .i64 a0.nodes, .int .i64 a0.from_, .int .i64 a0.to_, .slice A_a0_drains a0.drains.length c_a0_drains] Tk24 rfl (H.blk 0 rfl).cells rfl rfl) ?_
      refine LW.go rfl rfl (OW.call Tc16 rfl (law02_Long_ok (a0 := a0) (h_a0_drains.ext R0) hr11) ?_)
      rintro _ w19 ⟨rfl, E18⟩
      refine ⟨_, rfl, ?_⟩
      replace H := H.grow E18
      replace R0 := H.ext
      refine LW.pure rfl rfl (RV.move rfl) ?_
      refine LW.pureYB rfl rfl rfl rfl hq8 (RV.move rfl) ?_
      refine LW.pureYB rfl rfl rfl rfl hq8 (RV.len Ts30 rfl) ?_
      refine LW.pureYB rfl rfl rfl rfl hq8 (RV.gtr rfl rfl) ?_
      refine LW.pure rfl rfl (RV.pickFB rfl hq8 rfl) ?_
      refine LW.nil (jK22 _ _ ⟨_, ?_, ⟨(decide ((100 : Int) < ((a1.length : Int)))), F, rfl, H⟩⟩)
      exact ⟨rfl, rfl, rfl, rfl, trivial⟩
end Go.D2

set_option linter.unusedVariables false
namespace Go.D2
open Go.Tb
structure Two where
  i : Int
  j : Int
end Go.D2

namespace Go.Tb
/-- A loop over 0 .. N - 1 with a state, that is left at the first i for which p does not hold. -/
theorem scan_loop {S R : Type} (N : Nat) (p : Nat → Bool) (g : Nat → S) (L : Nat → S → Int → Option R) (yes : Option R) (no : Nat → Option R)
    (step : ∀ n i : Nat, i < N → L (n + 1) (g i) (i : Int) = if p i = true then L n (g (i + 1)) ((i + 1 : Nat) : Int) else no i)
    (stop : ∀ n : Nat, L (n + 1) (g N) (N : Int) = yes) : ∀ (d n i : Nat), N = i + d → d < n → L n (g i) (i : Int) = match (List.range' i d).find? (fun j => !p j) with | none => yes | some j => no j
  | 0, n + 1, i, hd, hn => by
    have hi : i = N := by omega
    subst hi
    rw [stop n]; rfl
  | d + 1, n + 1, i, hd, hn => by
    rw [step n i (by omega), List.range'_succ, List.find?_cons]
    cases hp : p i
    · simp
    · simp only [if_true, Bool.not_true]
      exact scan_loop N p g L yes no step stop d n (i + 1) (by omega) (by omega)
theorem find_all {p : Nat → Bool} {i d : Nat} : (List.range' i d).find? (fun j => !p j) = none ↔ ∀ j, i ≤ j → j < i + d → p j = true := by
  rw [List.find?_eq_none]
  constructor
  · intro h j h1 h2
    have := h j (by rw [List.mem_range'_1]; omega)
    simpa using this
  · intro h x hx
    rw [List.mem_range'_1] at hx
    simp [h x hx.1 hx.2]
/-- A loop over 0 .. N - 1 with a state and no way out. -/
theorem for_loop {S R : Type} (N : Nat) (g : Nat → S) (L : Nat → S → Int → Option R) (yes : Option R)
    (step : ∀ n i : Nat, i < N → L (n + 1) (g i) (i : Int) = L n (g (i + 1)) ((i + 1 : Nat) : Int))
    (stop : ∀ n : Nat, L (n + 1) (g N) (N : Int) = yes) : ∀ (d n i : Nat), N = i + d → d < n → L n (g i) (i : Int) = yes
  | 0, n + 1, i, hd, hn => by
    have hi : i = N := by omega
    subst hi
    exact stop n
  | d + 1, n + 1, i, hd, hn => by
    rw [step n i (by omega)]
    exact for_loop N g L yes step stop d n (i + 1) (by omega) (by omega)
theorem for_loop0 {S R : Type} (N : Nat) (g : Nat → S) (L : Nat → S → Int → Option R) (yes : Option R)
    (step : ∀ n i : Nat, i < N → L (n + 1) (g i) (i : Int) = L n (g (i + 1)) ((i + 1 : Nat) : Int))
    (stop : ∀ n : Nat, L (n + 1) (g N) (N : Int) = yes) (hN : N ≤ 9223372036854775807) : L FU (g 0) 0 = yes :=
  for_loop N g L yes step stop N FU 0 (by omega) (by have := FU_pos; omega)
theorem scan_loop0 {S R : Type} (N : Nat) (p : Nat → Bool) (g : Nat → S) (L : Nat → S → Int → Option R) (yes no : Option R)
    (step : ∀ n i : Nat, i < N → L (n + 1) (g i) (i : Int) = if p i = true then L n (g (i + 1)) ((i + 1 : Nat) : Int) else no)
    (stop : ∀ n : Nat, L (n + 1) (g N) (N : Int) = yes) (hN : N ≤ 9223372036854775807) : L FU (g 0) 0 = if (∀ j, j < N → p j = true) then yes else no := by
  have h := scan_loop N p g L yes (fun _ => no) step stop N FU 0 (by omega) (by have := FU_pos; omega)
  refine Eq.trans h ?_
  cases hf : (List.range' 0 N).find? (fun j => !p j) with
  | none => rw [if_pos (fun j hj => find_all.1 hf j (by omega) (by omega))]
  | some j =>
    have h1 := List.find?_some hf
    have h2 := List.mem_of_find?_eq_some hf
    rw [List.mem_range'_1] at h2
    rw [if_neg]
    intro hall
    have := hall j (by omega)
    simp [this] at h1
/-- The same over the elements of a list. -/
theorem list_loop0 {α R : Type} (l : List α) (p : α → Bool) (L : Nat → Int → Option R) (yes no : Option R)
    (step : ∀ (n i : Nat) (x : α), l[i]? = some x → L (n + 1) (i : Int) = if p x = true then L n ((i + 1 : Nat) : Int) else no)
    (stop : ∀ n : Nat, L (n + 1) (l.length : Int) = yes) (hl : l.length ≤ 9223372036854775807) : L FU 0 = if l.all p = true then yes else no := by
  have h := scan_loop0 l.length (fun i => (l[i]?.map p).getD true) (fun _ => ()) (fun n _ i => L n i) yes no (fun n i hi => by
    have hx : l[i]? = some l[i] := by simp [hi]
    rw [step n i _ hx]; simp [hx]) stop hl
  refine Eq.trans h ?_
  by_cases ha : l.all p = true
  · rw [if_pos ha, if_pos]
    intro j hj
    have := List.all_eq_true.1 ha l[j] (List.getElem_mem hj)
    simp [hj, this]
  · rw [if_neg ha, if_neg]
    intro hc
    refine ha (List.all_eq_true.2 fun x hx => ?_)
    obtain ⟨j, hj⟩ := List.getElem?_of_mem hx
    have := hc j (lt_of_at hj)
    simpa [hj] using this
end Go.Tb

set_option linter.unusedVariables false
set_option linter.unusedSimpArgs false
namespace Go.D2
open Go.Tb
theorem known_eq : law02_known = some true := by decide +kernel
theorem for0 {S R : Type} (N : Nat) (g : Nat → S) (L : Nat → S → Int → Option R) (yes : Option R) {s0 : S} (h0 : g 0 = s0)
    (step : ∀ n i : Nat, i < N → L (n + 1) (g i) (i : Int) = L n (g (i + 1)) ((i + 1 : Nat) : Int))
    (stop : ∀ n : Nat, L (n + 1) (g N) (N : Int) = yes) (hN : N ≤ 9223372036854775807) : L FU s0 0 = yes := by
  rw [← h0]; exact for_loop0 N g L yes step stop hN
def within (n lo hi : Int) : Bool := decide (lo ≤ n) && decide (n ≤ hi)
theorem within_iff {n lo hi : Int} : within n lo hi = true ↔ lo ≤ n ∧ n ≤ hi := by unfold within; simp
theorem from_eq (n lo hi : Int) : drain_from n lo hi = some (within n lo hi) := by
  unfold drain_from within
  by_cases h : lo ≤ n <;> simp [h]
theorem within_eq (n lo hi : Int) : ref02_within n lo hi = some (within n lo hi) := by
  unfold ref02_within within
  by_cases h : lo ≤ n <;> simp [h]
def isNode (n : Net) (i : Int) : Bool := within i 0 (n.nodes - 1)
theorem isNode_eq {n : Net} (h : InR (n.nodes - 1)) (i : Int) : drain_isNode n i = some (isNode n i) := by
  unfold drain_isNode isNode
  rw [gd_pos h, bnd_eq (from_eq _ _ _)]
def okD (n : Net) (d : Drain) : Bool := isNode n d.from_ && isNode n d.to_ && !decide (d.from_ = d.to_) && within d.width 0 20
def okH (n : Net) : Bool := within n.nodes 2 8 && isNode n n.from_ && isNode n n.to_ && !decide (n.from_ = n.to_)
def validate (n : Net) : Int := if okH n = true then (if 16 < n.drains.length then 3 else if n.drains.all (okD n) = true then 0 else 1) else 1
theorem Validate_eq {n : Net} (hl : n.drains.length ≤ 1000) : drain_Validate n = some (validate n) := by
  unfold drain_Validate validate okH
  rw [bnd_eq (from_eq _ _ _)]
  cases h1 : within n.nodes 2 8
  · rw [if_neg (by simp)]; unfold drain_Validate_k3; rw [if_pos rfl, if_neg (by simp)]
  · have hn := within_iff.1 h1
    have hr : InR (n.nodes - 1) := by omega
    rw [if_pos rfl, bnd_eq (isNode_eq hr _)]
    cases h2 : isNode n n.from_
    · rw [if_neg (by simp)]; unfold drain_Validate_k3; rw [if_pos rfl, if_neg (by simp)]
    · rw [if_pos rfl, bnd_eq (isNode_eq hr _)]
      cases h3 : isNode n n.to_
      · rw [if_neg (by simp)]; unfold drain_Validate_k3; rw [if_pos rfl, if_neg (by simp)]
      · rw [if_pos rfl]
        unfold drain_Validate_k3
        by_cases h4 : n.from_ = n.to_
        · rw [if_pos (by simp [h4]), if_neg (show ¬ (true && true && true && !decide (n.from_ = n.to_)) = true by simp [h4])]
        · rw [if_neg (by simp [h4]), if_pos (show (true && true && true && !decide (n.from_ = n.to_)) = true by simp [h4])]
          by_cases h5 : 16 < n.drains.length
          · rw [if_pos (by omega), if_pos h5]
          · rw [if_neg (by omega), if_neg h5, list_loop0 n.drains (okD n) (drain_Validate_L1 n) (some 0) (some 1) (fun m i x hx => ?_) (fun m => ?_) (by omega)]
            · split <;> rfl
            · have := lt_of_at hx
              show drain_Validate_B1 n (drain_Validate_L1 n m) _ = _
              unfold drain_Validate_B1 okD
              rw [if_pos (by omega), ix_nat hx, bnd_eq (isNode_eq hr _)]
              unfold drain_Validate_k2
              cases isNode n x.from_
              · rw [if_neg (by simp), if_pos rfl, if_neg (by simp)]
              · rw [if_pos rfl, bnd_eq (isNode_eq hr _)]
                cases isNode n x.to_
                · rw [if_neg (by simp), if_pos rfl, if_neg (by simp)]
                · rw [if_pos rfl]
                  by_cases h6 : x.from_ = x.to_
                  · rw [if_pos h6, if_pos rfl, if_neg (by simp [h6])]
                  · rw [if_neg h6, bnd_eq (from_eq _ _ _)]
                    cases within x.width 0 20
                    · rw [if_pos (by rfl), if_neg (by simp)]
                    · rw [if_neg (by simp), gd_pos (by omega), if_pos (by simp [h6])]; rfl
            · show drain_Validate_B1 n (drain_Validate_L1 n m) _ = _
              unfold drain_Validate_B1
              rw [if_neg (by omega)]; rfl
theorem rValidate_eq {n : Net} (hl : n.drains.length ≤ 1000) : ref02_Validate n = some (validate n) := by
  unfold ref02_Validate validate okH isNode
  rw [bnd_eq (within_eq _ _ _)]
  cases h1 : within n.nodes 2 8
  · rw [if_neg (by simp)]; unfold ref02_Validate_k3; rw [if_pos rfl, if_neg (by simp)]
  · have hn := within_iff.1 h1
    have hr : InR (n.nodes - 1) := by omega
    rw [if_pos rfl, gd_pos hr, bnd_eq (within_eq _ _ _)]
    cases h2 : within n.from_ 0 (n.nodes - 1)
    · rw [if_neg (by simp)]; unfold ref02_Validate_k3; rw [if_pos rfl, if_neg (by simp)]
    · rw [if_pos rfl, gd_pos hr, bnd_eq (within_eq _ _ _)]
      cases h3 : within n.to_ 0 (n.nodes - 1)
      · rw [if_neg (by simp)]; unfold ref02_Validate_k3; rw [if_pos rfl, if_neg (by simp)]
      · rw [if_pos rfl]
        unfold ref02_Validate_k3
        by_cases h4 : n.from_ = n.to_
        · rw [if_pos (by simp [h4]), if_neg (show ¬ (true && true && true && !decide (n.from_ = n.to_)) = true by simp [h4])]
        · rw [if_neg (by simp [h4]), if_pos (show (true && true && true && !decide (n.from_ = n.to_)) = true by simp [h4])]
          by_cases h5 : 16 < n.drains.length
          · rw [if_pos (by omega), if_pos h5]
          · rw [if_neg (by omega), if_neg h5, list_loop0 n.drains (okD n) (ref02_Validate_L1 n) (some 0) (some 1) (fun m i x hx => ?_) (fun m => ?_) (by omega)]
            · split <;> rfl
            · have := lt_of_at hx
              show ref02_Validate_B1 n (ref02_Validate_L1 n m) _ = _
              unfold ref02_Validate_B1 okD isNode
              rw [if_pos (by omega), ix_nat hx, gd_pos hr, bnd_eq (within_eq _ _ _)]
              unfold ref02_Validate_k2
              cases within x.from_ 0 (n.nodes - 1)
              · rw [if_neg (by simp), if_pos rfl, if_neg (by simp)]
              · rw [if_pos rfl, gd_pos hr, bnd_eq (within_eq _ _ _)]
                cases within x.to_ 0 (n.nodes - 1)
                · rw [if_neg (by simp), if_pos rfl, if_neg (by simp)]
                · rw [if_pos rfl]
                  by_cases h6 : x.from_ = x.to_
                  · rw [if_pos h6, if_pos rfl, if_neg (by simp [h6])]
                  · rw [if_neg h6, bnd_eq (within_eq _ _ _)]
                    cases within x.width 0 20
                    · rw [if_pos (by rfl), if_neg (by simp)]
                    · rw [if_neg (by simp), gd_pos (by omega), if_pos (by simp [h6])]; rfl
            · show ref02_Validate_B1 n (ref02_Validate_L1 n m) _ = _
              unfold ref02_Validate_B1
              rw [if_neg (by omega)]; rfl
/-- A net that is right, but for how wide its drains are. -/
structure Net0 (n : Net) : Prop where
  n2 : 2 ≤ n.nodes
  n8 : n.nodes ≤ 8
  s0 : 0 ≤ n.from_ ∧ n.from_ < n.nodes
  t0 : 0 ≤ n.to_ ∧ n.to_ < n.nodes
  ne : n.from_ ≠ n.to_
  len : n.drains.length ≤ 16
  dr : ∀ d ∈ n.drains, (0 ≤ d.from_ ∧ d.from_ < n.nodes) ∧ (0 ≤ d.to_ ∧ d.to_ < n.nodes) ∧ d.from_ ≠ d.to_ ∧ 0 ≤ d.width ∧ d.width ≤ 1000
structure NetOk (n : Net) : Prop extends Net0 n where
  w20 : ∀ d ∈ n.drains, d.width ≤ 20
theorem val0 {n : Net} : validate n = 0 ↔ NetOk n := by
  unfold validate
  constructor
  · intro h
    split at h
    · rename_i hh
      split at h
      · cases h
      · split at h
        · rename_i hl ha
          unfold okH isNode at hh
          simp only [Bool.and_eq_true, within_iff, Bool.not_eq_true', decide_eq_false_iff_not] at hh
          obtain ⟨⟨⟨h1, h2⟩, h3⟩, h4⟩ := hh
          have hd : ∀ d ∈ n.drains, (0 ≤ d.from_ ∧ d.from_ ≤ n.nodes - 1) ∧ (0 ≤ d.to_ ∧ d.to_ ≤ n.nodes - 1) ∧ d.from_ ≠ d.to_ ∧ 0 ≤ d.width ∧ d.width ≤ 20 := fun d hd => by
            have := List.all_eq_true.1 ha d hd
            unfold okD isNode at this
            simp only [Bool.and_eq_true, within_iff, Bool.not_eq_true', decide_eq_false_iff_not] at this
            obtain ⟨⟨⟨a1, a2⟩, a3⟩, a4⟩ := this
            exact ⟨a1, a2, a3, a4.1, a4.2⟩
          exact ⟨⟨h1.1, h1.2, by omega, by omega, h4, by omega, fun d hd' => by have := hd d hd'; exact ⟨by omega, by omega, this.2.2.1, by omega, by omega⟩⟩, fun d hd' => (hd d hd').2.2.2.2⟩
        · cases h
    · cases h
  · intro h
    rw [if_pos, if_neg (by have := h.len; omega), if_pos]
    · rw [List.all_eq_true]
      intro d hd
      have := h.dr d hd
      have h20 := h.w20 d hd
      unfold okD isNode
      simp only [Bool.and_eq_true, within_iff, Bool.not_eq_true', decide_eq_false_iff_not]
      exact ⟨⟨⟨by omega, by omega⟩, this.2.2.1⟩, by omega⟩
    · have h1 := h.n2; have h2 := h.n8; have h3 := h.s0; have h4 := h.t0
      unfold okH isNode
      simp only [Bool.and_eq_true, within_iff, Bool.not_eq_true', decide_eq_false_iff_not]
      exact ⟨⟨⟨by omega, by omega⟩, by omega⟩, h.ne⟩
end Go.D2

set_option linter.unusedVariables false
set_option linter.unusedSimpArgs false
namespace Go.D2
open Go.Tb
def Eds (l : List Left) : List Ed := l.map toEd
def Caps (l : List Left) : Prop := ∀ d ∈ l, 0 ≤ d.runs ∧ d.runs ≤ d.drain.width ∧ d.drain.width ≤ 1000
theorem eds_at {l : List Left} {i : Nat} {e : Ed} (h : (Eds l)[i]? = some e) : ∃ d, l[i]? = some d ∧ e = toEd d := by
  unfold Eds at h
  rw [List.getElem?_map] at h
  cases hd : l[i]? with
  | none => rw [hd] at h; cases h
  | some d => rw [hd] at h; cases h; exact ⟨d, rfl, rfl⟩
theorem caps_room {l : List Left} (h : Caps l) : RoomOk (Eds l) := fun e he => by
  obtain ⟨d, hd, rfl⟩ := List.mem_map.1 he
  have := h d hd
  show InR d.runs ∧ InR (d.drain.width - d.runs)
  omega
theorem left_room_eq {d : Left} {u : Int} (h : 0 ≤ d.runs ∧ d.runs ≤ d.drain.width ∧ d.drain.width ≤ 1000) : drain_left_room d u = some (other (toEd d) u, room (toEd d) u) := by
  unfold drain_left_room other room
  by_cases h1 : d.drain.from_ = u
  · have h2 : (toEd d).a = u := h1
    rw [if_pos h1, if_pos h2, if_pos h2]; exact gd_pos (by omega)
  · have h2 : ¬ (toEd d).a = u := h1
    rw [if_neg h1, if_neg h2, if_neg h2]; rfl
def ints (ks : List Nat) : List Int := ks.map (fun (q : Nat) => (q : Int))
theorem ints_at {pre suf : List Nat} {i : Nat} : (ints (pre ++ i :: suf))[pre.length]? = some (i : Int) := by
  unfold ints
  rw [List.getElem?_map, List.getElem?_append_right (Nat.le_refl _)]; simp
/-- The smallest room along a way. -/
def minRoom (E : List Ed) : Int → Int → List Nat → Int
  | _, m, [] => m
  | u, m, i :: r => match E[i]? with
    | some e => minRoom E (other e u) (if m < 0 ∨ room e u < m then room e u else m) r
    | none => m
theorem minRoom_spec {E : List Ed} : ∀ (ks : List Nat) (vis : List Int) (u v m : Int), SP E vis u ks v → (0 < m ∨ (m < 0 ∧ ks ≠ [])) → 0 < minRoom E u m ks ∧ (0 < m → minRoom E u m ks ≤ m) ∧ AllRoom E (minRoom E u m ks) u ks
  | [], vis, u, v, m, h, hm => by
    rcases hm with h1 | ⟨_, h1⟩
    · exact ⟨h1, fun _ => Int.le_refl _, trivial⟩
    · exact absurd rfl h1
  | i :: r, vis, u, v, m, h, hm => by
    obtain ⟨e, he, hu, hp, hn, hr⟩ := h
    have e1 : minRoom E u m (i :: r) = minRoom E (other e u) (if m < 0 ∨ room e u < m then room e u else m) r := by simp only [minRoom, he]
    rw [e1]
    have hm' : 0 < (if m < 0 ∨ room e u < m then room e u else m) := by
      split
      · exact hp
      · rename_i hc
        rcases hm with h1 | ⟨h1, h1'⟩
        · exact h1
        · exact absurd (.inl h1) hc
    obtain ⟨i1, i2, i3⟩ := minRoom_spec r (u :: vis) (other e u) v _ hr (.inl hm')
    have i2 := i2 hm'
    generalize minRoom E (other e u) (if m < 0 ∨ room e u < m then room e u else m) r = q at *
    refine ⟨i1, fun h0 => ?_, e, he, ?_, i3⟩
    · split at i2 <;> omega
    · split at i2
      · exact i2
      · rename_i hc; omega
theorem run_L2 {n : Net} {l : List Left} (hc : Caps l) (rec2 : List Left → Option (List Left)) {ks : List Nat} (hk : ks.length ≤ 1000) : ∀ (suf pre : List Nat) (vis : List Int) (u v m : Int) (k : Nat), ks = pre ++ suf → SP (Eds l) vis u suf v → suf.length < k →
    drain_run_L2 n l rec2 (ints ks) k u m (pre.length : Int) = drain_run_k2 n l rec2 (ints ks) (minRoom (Eds l) u m suf)
  | [], pre, vis, u, v, m, k + 1, hks, h, hlt => by
    show drain_run_B2 n l rec2 (ints ks) (drain_run_L2 n l rec2 (ints ks) k) u m _ = _
    unfold drain_run_B2
    rw [if_neg (by rw [hks]; simp [ints])]; rfl
  | i :: r, pre, vis, u, v, m, k + 1, hks, h, hlt => by
    have h0 := h
    obtain ⟨e, he, hu, hp, hn, hr⟩ := h
    obtain ⟨d, hd, rfl⟩ := eds_at he
    have hcd := hc d (List.mem_of_getElem? hd)
    have hpl : pre.length < 1000 := by rw [hks] at hk; simp at hk; omega
    have ih := run_L2 (n := n) hc rec2 hk r (pre ++ [i]) (u :: vis) (other (toEd d) u) v (if m < 0 ∨ room (toEd d) u < m then room (toEd d) u else m) k (by rw [hks]; simp) hr (by simp at hlt; omega)
    have e1 : minRoom (Eds l) u m (i :: r) = minRoom (Eds l) (other (toEd d) u) (if m < 0 ∨ room (toEd d) u < m then room (toEd d) u else m) r := by simp only [minRoom, he]
    have e2 : (((pre ++ [i]).length : Nat) : Int) = (pre.length : Int) + 1 := by simp
    rw [e1, ← ih, e2]
    show drain_run_B2 n l rec2 (ints ks) (drain_run_L2 n l rec2 (ints ks) k) u m _ = _
    unfold drain_run_B2
    have hi : (ints ks)[pre.length]? = some (i : Int) := by rw [hks]; exact ints_at
    rw [if_pos (by have := lt_of_at hi; omega), ix_nat hi, ix_nat hd, bnd_eq (left_room_eq hcd)]
    unfold drain_run_k4 drain_run_k3
    by_cases h1 : m < 0
    · rw [if_pos h1, if_pos rfl, gd_pos (by omega), if_pos (.inl h1)]
    · rw [if_neg h1]
      by_cases h2 : room (toEd d) u < m
      · rw [if_pos (by simpa using h2), gd_pos (by omega), if_pos (.inr h2)]
      · rw [if_neg (by simpa using h2), gd_pos (by omega), if_neg (by omega)]
def moreL (m : Int) (d : Left) (u : Int) : Left := if d.drain.from_ = u then ⟨d.drain, d.runs + m⟩ else ⟨d.drain, d.runs - m⟩
theorem moreL_ed (m : Int) (d : Left) (u : Int) : toEd (moreL m d u) = more m (toEd d) u := by
  unfold moreL more
  by_cases h : d.drain.from_ = u
  · have h2 : (toEd d).a = u := h
    rw [if_pos h, if_pos h2]; rfl
  · have h2 : ¬ (toEd d).a = u := h
    rw [if_neg h, if_neg h2]; rfl
def augL (m : Int) : List Left → Int → List Nat → List Left
  | l, _, [] => l
  | l, u, i :: r => match l[i]? with
    | some d => augL m (l.set i (moreL m d u)) (other (toEd d) u) r
    | none => l
theorem eds_set {l : List Left} {i : Nat} {m : Int} {d : Left} {u : Int} : Eds (l.set i (moreL m d u)) = (Eds l).set i (more m (toEd d) u) := by
  unfold Eds
  rw [List.map_set, moreL_ed]
theorem augL_ed {m : Int} : ∀ (ks : List Nat) (l : List Left) (u : Int), Eds (augL m l u ks) = aug m (Eds l) u ks
  | [], l, u => rfl
  | i :: r, l, u => by
    cases hd : l[i]? with
    | none =>
      have he : (Eds l)[i]? = none := by unfold Eds; rw [List.getElem?_map, hd]; rfl
      simp only [augL, aug, hd, he]
    | some d =>
      have he : (Eds l)[i]? = some (toEd d) := by unfold Eds; rw [List.getElem?_map, hd]; rfl
      simp only [augL, aug, hd, he]
      rw [augL_ed r, eds_set]
theorem augL_drains {m : Int} : ∀ (ks : List Nat) (l : List Left) (u : Int), (augL m l u ks).map Left.drain = l.map Left.drain
  | [], l, u => rfl
  | i :: r, l, u => by
    cases hd : l[i]? with
    | none => simp only [augL, hd]
    | some d =>
      simp only [augL, hd]
      rw [augL_drains r, List.map_set]
      have : (moreL m d u).drain = d.drain := by unfold moreL; split <;> rfl
      rw [this]
      apply List.ext_getElem?
      intro j
      rw [List.getElem?_set]
      by_cases h : i = j
      · subst h
        have := lt_of_at hd
        rw [if_pos rfl, if_pos (by simpa using this), List.getElem?_map, hd]; rfl
      · rw [if_neg h]
theorem caps_set {l : List Left} {i : Nat} {d d' : Left} (hc : Caps l) (h : 0 ≤ d'.runs ∧ d'.runs ≤ d'.drain.width ∧ d'.drain.width ≤ 1000) : Caps (l.set i d') := fun x hx => by
  rcases List.mem_or_eq_of_mem_set hx with h1 | rfl
  · exact hc x h1
  · exact h
theorem run_L1 (rec2 : List Left → Option (List Left)) {ks : List Nat} (hk : ks.length ≤ 1000) {m : Int} (hm : 0 ≤ m ∧ m ≤ 1000) : ∀ (suf pre : List Nat) (vis : List Int) (u v : Int) (l : List Left) (k : Nat), ks = pre ++ suf → Caps l → SP (Eds l) vis u suf v → AllRoom (Eds l) m u suf → suf.length < k →
    drain_run_L1 rec2 (ints ks) m k u (pre.length : Int) l = rec2 (augL m l u suf)
  | [], pre, vis, u, v, l, k + 1, hks, hc, h, ha, hlt => by
    show drain_run_B1 rec2 (ints ks) m (drain_run_L1 rec2 (ints ks) m k) u _ l = _
    unfold drain_run_B1
    rw [if_neg (by rw [hks]; simp [ints])]; rfl
  | i :: r, pre, vis, u, v, l, k + 1, hks, hc, h, ha, hlt => by
    have honce := sp_once h
    obtain ⟨e, he, hu, hp, hn, hr⟩ := h
    obtain ⟨e0, he0, hmr, har⟩ := ha
    rw [he] at he0; cases he0
    obtain ⟨d, hd, rfl⟩ := eds_at he
    have hcd := hc d (List.mem_of_getElem? hd)
    have hpl : pre.length < 1000 := by rw [hks] at hk; simp at hk; omega
    have hcong : ∀ j ∈ r, (Eds (l.set i (moreL m d u)))[j]? = (Eds l)[j]? := fun j hj => by
      rw [eds_set, List.getElem?_set_ne (fun h : i = j => honce (by rw [h]; exact hj))]
    have hcm : 0 ≤ (moreL m d u).runs ∧ (moreL m d u).runs ≤ (moreL m d u).drain.width ∧ (moreL m d u).drain.width ≤ 1000 := by
      unfold room at hmr
      unfold moreL
      by_cases h1 : d.drain.from_ = u
      · have h2 : (toEd d).a = u := h1
        rw [if_pos h2] at hmr
        rw [if_pos h1]
        have : m ≤ d.drain.width - d.runs := hmr
        simp only; omega
      · have h2 : ¬ (toEd d).a = u := h1
        rw [if_neg h2] at hmr
        rw [if_neg h1]
        have : m ≤ d.runs := hmr
        simp only; omega
    have ih := run_L1 rec2 hk hm r (pre ++ [i]) (u :: vis) (other (toEd d) u) v (l.set i (moreL m d u)) k (by rw [hks]; simp) (caps_set (d := d) hc hcm) (sp_congr r _ _ v hcong hr) (allRoom_congr r _ hcong har) (by simp at hlt; omega)
    have e1 : augL m l u (i :: r) = augL m (l.set i (moreL m d u)) (other (toEd d) u) r := by simp only [augL, hd]
    have e2 : (((pre ++ [i]).length : Nat) : Int) = (pre.length : Int) + 1 := by simp
    rw [e1, ← ih, e2]
    show drain_run_B1 rec2 (ints ks) m (drain_run_L1 rec2 (ints ks) m k) u _ l = _
    unfold drain_run_B1
    have hi : (ints ks)[pre.length]? = some (i : Int) := by rw [hks]; exact ints_at
    rw [if_pos (by have := lt_of_at hi; omega), ix_nat hi, ix_nat hd, bnd_eq (left_room_eq hcd), ix_nat hd]
    unfold drain_run_k1 moreL
    by_cases h1 : d.drain.from_ = u
    · rw [if_pos h1, ix_nat hd, gd_pos (by omega), ix_nat hd, gd_pos (by omega), if_pos h1]; rfl
    · rw [if_neg h1, ix_nat hd, gd_pos (by omega), ix_nat hd, gd_pos (by omega), if_neg h1]; rfl
/-- What is known of the program's drains. -/
structure FlowL (n : Net) (l : List Left) : Prop where
  drains : l.map Left.drain = n.drains
  flow : Flow n.nodes.toNat n.from_ n.to_ (Eds l)
  caps : Caps l
theorem flowL_ne {n : Net} {l : List Left} (hn : Net0 n) (h : FlowL n l) : ∀ e ∈ Eds l, e.a ≠ e.b := fun e he => by
  obtain ⟨d, hd, rfl⟩ := List.mem_map.1 he
  have : d.drain ∈ n.drains := by rw [← h.drains]; exact List.mem_map_of_mem hd
  exact (hn.dr _ this).2.2.1
theorem sp_len {E : List Ed} : ∀ (ks : List Nat) (vis : List Int) (u v : Int), SP E vis u ks v → (∀ i ∈ ks, i < E.length) ∧ ks.Nodup
  | [], _, _, _, _ => ⟨by simp, List.nodup_nil⟩
  | i :: r, vis, u, v, h => by
    have h1 := sp_once h
    obtain ⟨e, he, _, _, _, hr⟩ := h
    have ⟨i1, i2⟩ := sp_len r _ _ _ hr
    exact ⟨fun j hj => by
      rcases List.mem_cons.1 hj with rfl | hj
      · exact lt_at he
      · exact i1 j hj, List.nodup_cons.2 ⟨h1, i2⟩⟩
theorem nodup_len : ∀ (n : Nat) (ks : List Nat), (∀ i ∈ ks, i < n) → ks.Nodup → ks.length ≤ n
  | 0, [], _, _ => Nat.le_refl _
  | 0, i :: r, h, _ => absurd (h i (List.mem_cons_self ..)) (by omega)
  | n + 1, ks, h, hd => by
    have h1 : (ks.erase n).length ≤ n := nodup_len n (ks.erase n) (fun i hi => by
      have h2 := h i (List.mem_of_mem_erase hi)
      have h3 : i ≠ n := fun e => by rw [e] at hi; exact (List.Nodup.mem_erase_iff hd).1 hi |>.1 rfl
      omega) (hd.erase n)
    have := List.length_erase_le (a := n) (l := ks)
    by_cases hm : n ∈ ks
    · have := List.length_erase_of_mem hm; omega
    · rw [List.erase_of_not_mem hm] at h1; omega
/-- The search in the program's drains. -/
theorem search_eq {n : Net} {l : List Left} (hn : Net0 n) (h : FlowL n l) {s t : Int} (hs : 0 ≤ s ∧ s < n.nodes) (hst : s ≠ t) :
    (∃ ks : List Nat, ks ≠ [] ∧ ks.length ≤ 1000 ∧ drain_search l s t = some (ints ks) ∧ SP (Eds l) [] s ks t) ∨ (drain_search l s t = some [] ∧ ∃ S : Int → Bool, S s = true ∧ S t = false ∧ Closed S (Eds l) ∧ ∀ v, S v = true → Reach (Eds l) s v) := by
  have h8 := hn.n8
  have h2 := hn.n2
  have hlen : (Eds l).length ≤ 16 := by
    have := congrArg List.length h.drains
    have h3 := hn.len
    unfold Eds; simp at this ⊢; omega
  rcases search_spec (K := FU) h.flow.dom (caps_room h.caps) (by omega) (show 0 ≤ s ∧ s < ((n.nodes.toNat : Nat) : Int) by omega) hst (flowL_ne hn h) (by have := FU_pos; omega) with ⟨ks, k1, k2, k3⟩ | ⟨S, k1, k2, k3, k4, k5⟩
  · refine .inl ⟨ks, k1, ?_, ?_, k3⟩
    · have ⟨q1, q2⟩ := sp_len ks [] s t k3
      have := nodup_len _ ks q1 q2
      omega
    · unfold drain_search
      have k2' : dfs (l.map toEd) t FU s [] [] = some (.inr (ints ks)) := k2
      rw [gd_pos hst, k2']
      exact gd_pos (by unfold ints; simpa using k1)
  · refine .inr ⟨?_, sees S, k2, k3, k4, k5⟩
    unfold drain_search
    have k1' : dfs (l.map toEd) t FU s [] [] = some (.inl S) := k1
    rw [gd_pos hst, k1']
def Maxed (n : Net) (l : List Left) : Prop := FlowL n l ∧ ∃ S : Int → Bool, S n.from_ = true ∧ S n.to_ = false ∧ Closed S (Eds l) ∧ ∀ v, S v = true → Reach (Eds l) n.from_ v
theorem run_L3 {n : Net} (hn : Net0 n) : ∀ (q : Nat) (l : List Left) (k : Nat), FlowL n l → cutW (fun v => decide (v = n.from_)) (Eds l) - out (Eds l) n.from_ ≤ q → q < k → ∃ l', drain_run_L3 n k l = some l' ∧ Maxed n l' := by
  intro q
  induction q with
  | zero =>
    intro l k h hq hk
    obtain ⟨k, rfl⟩ : ∃ k', k = k' + 1 := ⟨k - 1, by omega⟩
    rcases search_eq hn h (s := n.from_) (t := n.to_) hn.s0 hn.ne with ⟨ks, k1, k2, k3, k4⟩ | ⟨k1, S, k2⟩
    · exfalso
      obtain ⟨m1, _, m3⟩ := minRoom_spec ks [] n.from_ n.to_ (-1) k4 (.inr ⟨by omega, k1⟩)
      obtain ⟨f1, f2, f3⟩ := aug_flow h.flow (Int.le_of_lt m1) hn.ne k4 m3
      have hw := weak f1 (show 0 ≤ n.from_ ∧ n.from_ < ((n.nodes.toNat : Nat) : Int) by have := hn.s0; omega) (S := fun v => decide (v = n.from_)) (by simp) (by have := hn.ne; simp; omega)
      rw [f2, alike_cut _ f3] at hw
      omega
    · refine ⟨l, ?_, h, S, k2⟩
      show drain_run_B3 n (drain_run_L3 n k) l = _
      unfold drain_run_B3
      rw [bnd_eq k1, if_pos rfl]
  | succ q ih =>
    intro l k h hq hk
    obtain ⟨k, rfl⟩ : ∃ k', k = k' + 1 := ⟨k - 1, by omega⟩
    rcases search_eq hn h (s := n.from_) (t := n.to_) hn.s0 hn.ne with ⟨ks, k1, k2, k3, k4⟩ | ⟨k1, S, k2⟩
    · obtain ⟨m1, _, m3⟩ := minRoom_spec ks [] n.from_ n.to_ (-1) k4 (.inr ⟨by omega, k1⟩)
      obtain ⟨f1, f2, f3⟩ := aug_flow h.flow (Int.le_of_lt m1) hn.ne k4 m3
      have hm1000 : minRoom (Eds l) n.from_ (-1) ks ≤ 1000 := by
        cases ks with
        | nil => exact absurd rfl k1
        | cons i r =>
          obtain ⟨e, he, hmr, _⟩ := m3
          obtain ⟨d, hd, rfl⟩ := eds_at he
          have := h.caps d (List.mem_of_getElem? hd)
          have : room (toEd d) n.from_ ≤ 1000 := by
            unfold room; split
            · show d.drain.width - d.runs ≤ 1000; omega
            · show d.runs ≤ 1000; omega
          omega
      have hcaps : Caps (augL (minRoom (Eds l) n.from_ (-1) ks) l n.from_ ks) := fun d hd => by
        have he : toEd d ∈ aug (minRoom (Eds l) n.from_ (-1) ks) (Eds l) n.from_ ks := by rw [← augL_ed]; exact List.mem_map_of_mem hd
        have hc := f1.cap _ he
        have hdm : d.drain ∈ n.drains := by rw [← h.drains, ← augL_drains (m := minRoom (Eds l) n.from_ (-1) ks) ks l n.from_]; exact List.mem_map_of_mem hd
        have := hn.dr _ hdm
        exact ⟨hc.1, hc.2, this.2.2.2.2⟩
      have hf' : FlowL n (augL (minRoom (Eds l) n.from_ (-1) ks) l n.from_ ks) := ⟨by rw [augL_drains]; exact h.drains, by rw [augL_ed]; exact f1, hcaps⟩
      obtain ⟨l', l1, l2⟩ := ih (augL (minRoom (Eds l) n.from_ (-1) ks) l n.from_ ks) k hf' (by rw [augL_ed, f2, alike_cut _ f3]; omega) (by omega)
      refine ⟨l', ?_, l2⟩
      rw [← l1]
      show drain_run_B3 n (drain_run_L3 n k) l = _
      unfold drain_run_B3
      rw [bnd_eq k3, if_neg (by unfold ints; simpa using k1)]
      have e1 := run_L2 (n := n) h.caps (drain_run_L3 n k) k2 ks [] [] n.from_ n.to_ (-1) FU rfl k4 (by have := FU_pos; omega)
      have e2 := run_L1 (drain_run_L3 n k) k2 (m := minRoom (Eds l) n.from_ (-1) ks) ⟨by omega, hm1000⟩ ks [] [] n.from_ n.to_ l FU rfl h.caps k4 m3 (by have := FU_pos; omega)
      refine Eq.trans e1 ?_
      unfold drain_run_k2
      exact e2
    · refine ⟨l, ?_, h, S, k2⟩
      show drain_run_B3 n (drain_run_L3 n k) l = _
      unfold drain_run_B3
      rw [bnd_eq k1, if_pos rfl]
def start (n : Net) : List Left := n.drains.map fun d => ⟨d, 0⟩
theorem out_zero (v : Int) : ∀ l : List Drain, out (Eds (l.map fun d => ⟨d, 0⟩)) v = 0
  | [] => rfl
  | d :: r => by
    have := out_zero v r
    unfold Eds at this ⊢
    simp only [List.map_cons, out, this]
    show ((if d.from_ = v then (0 : Int) else 0) - (if d.to_ = v then 0 else 0)) + 0 = 0
    split <;> split <;> rfl
theorem start_flow {n : Net} (hn : Net0 n) : FlowL n (start n) := by
  have h2 := hn.n2
  refine ⟨by unfold start; rw [List.map_map]; exact List.map_id _, ⟨fun e he => ?_, fun e he => ?_, fun v _ _ _ _ => out_zero v _⟩, fun d hd => ?_⟩
  · obtain ⟨x, hx, rfl⟩ := List.mem_map.1 he
    obtain ⟨d, hd, rfl⟩ := List.mem_map.1 hx
    have := hn.dr d hd
    refine ⟨⟨this.1.1, ?_⟩, this.2.1.1, ?_⟩
    · show d.from_ < _; omega
    · show d.to_ < _; omega
  · obtain ⟨x, hx, rfl⟩ := List.mem_map.1 he
    obtain ⟨d, hd, rfl⟩ := List.mem_map.1 hx
    have := hn.dr d hd
    exact ⟨Int.le_refl _, this.2.2.2.1⟩
  · obtain ⟨x, hx, rfl⟩ := List.mem_map.1 hd
    have := hn.dr x hx
    exact ⟨Int.le_refl _, this.2.2.2.1, this.2.2.2.2⟩
theorem cut_bnd (S : Int → Bool) : ∀ (l : List Left), (∀ d ∈ l, 0 ≤ d.drain.width ∧ d.drain.width ≤ 1000) → 0 ≤ cutW S (Eds l) ∧ cutW S (Eds l) ≤ 1000 * (l.length : Int)
  | [], _ => ⟨Int.le_refl _, Int.le_refl _⟩
  | d :: r, h => by
    have ih := cut_bnd S r (fun x hx => h x (List.mem_cons_of_mem _ hx))
    have := h d (List.mem_cons_self ..)
    have e : cutW S (Eds (d :: r)) = (if S d.drain.from_ = true ∧ S d.drain.to_ = false then d.drain.width else 0) + cutW S (Eds r) := rfl
    rw [e, List.length_cons]
    split <;> omega
theorem run_eq {n : Net} (hn : Net0 n) : ∃ l, drain_run n = some l ∧ Maxed n l := by
  have hlen := hn.len
  have hf := start_flow hn
  have hb := cut_bnd (fun v => decide (v = n.from_)) (start n) (fun d hd => by have := hf.caps d hd; omega)
  have hsl : (start n).length = n.drains.length := by unfold start; simp
  obtain ⟨l, l1, l2⟩ := run_L3 hn 16000 (start n) FU hf (by unfold start; rw [out_zero]; have := hb.2; unfold start at this; simp only [List.length_map] at this; omega) (by have := FU_pos; omega)
  refine ⟨l, ?_, l2⟩
  unfold drain_run
  refine Eq.trans (for0 n.drains.length (fun i => (start n).take i) (fun k s i => drain_run_L4 n k i s) (some l) rfl (fun k i hi => ?_) (fun k => ?_) (by omega)) rfl
  · have hx : n.drains[i]? = some n.drains[i] := by simp [hi]
    have hs : (start n)[i]? = some ⟨n.drains[i], 0⟩ := by unfold start; rw [List.getElem?_map, hx]; rfl
    show drain_run_B4 n (drain_run_L4 n k) _ _ = _
    unfold drain_run_B4
    rw [if_pos (by omega), ix_nat hx, gd_pos (by simp; omega), gd_pos (by omega), List.take_add_one, hs]; rfl
  · show drain_run_B4 n (drain_run_L4 n k) _ _ = _
    unfold drain_run_B4
    rw [if_neg (by omega)]
    unfold drain_run_k5
    rw [List.take_of_length_le (by omega)]; exact l1
end Go.D2
