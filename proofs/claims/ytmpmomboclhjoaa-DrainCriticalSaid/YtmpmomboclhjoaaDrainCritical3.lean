/- Lemmas and walks that the proof of this claim uses: D2m5, D2m6, D2m10, D2m13, D2m14, D2m15, D2m16, Tb22, D2p1. -/
import Derived.Test.YtmpmomboclhjoaaDrainCritical2
set_option linter.unusedVariables false
set_option linter.unusedSimpArgs false
namespace Go.D2
open Go.Tb Go.Proofs Go.RowKit
theorem Tc27 : callable Try.prog 27 = true := by kernel_rfl
theorem Tc57 : callable Try.prog 57 = true := by kernel_rfl
theorem Tc68 : callable Try.prog 68 = true := by kernel_rfl
theorem Tc72 : callable Try.prog 72 = true := by kernel_rfl
set_option maxRecDepth 20000 in
set_option maxHeartbeats 1000000 in
theorem ref02_width_ok {a0 : Net} {a1 : Int} {A_a0_drains : Option Addr} {c_a0_drains : Nat} {w : World} {res : Int} (h_a0_drains : Sl w A_a0_drains c_a0_drains 3 (a0.drains.map encDrain)) (F : ref02_width a0 a1 = some res) : Calls Try.prog 68 #[.agg #[.int .i64 a0.nodes, .int .i64 a0.from_, .int .i64 a0.to_, .slice A_a0_drains a0.drains.length c_a0_drains], .int .i64 a1] w (Rt w (.int .i64 res)) := by
  refine calls_of_cw (args := [.agg #[.int .i64 a0.nodes, .int .i64 a0.from_, .int .i64 a0.to_, .slice A_a0_drains a0.drains.length c_a0_drains], .int .i64 a1]) Try.func68 rfl rfl rfl rfl ?_
  have H := Hp.start w
  have R0 := H.ext
  unfold ref02_width at F
  refine CW.seq fun K1 hK1 => ?_
  refine CW.region ?_
  refine LW.go rfl rfl (OW.box rfl fun b1 w1 N1 => ?_)
  replace H := H.new N1 N1.blk
  replace R0 := H.ext
  refine LW.pure rfl rfl (RV.assign rfl) ?_
  refine LW.nil (hK1 _ _ ?_)
  refine CW.seq fun K2 hK2 => ?_
  refine CW.region ?_
  refine LW.pure rfl rfl (RV.assign rfl) ?_
  refine LW.nil (hK2 _ _ ?_)
  refine CW.seqJ (fun ρ wl1 => (∃ (t5_1 : Int), ref02_width_k1 t5_1 = some res ∧ ρ = [(4, .int .i64 0), (5, .int .i64 t5_1)] ∧ Hp w wl1 [])) ?_ ?_
  ·
    rintro _ wl1 ⟨t5_1, F, rfl, H⟩
    have R0 := H.ext
    unfold ref02_width_k1 at F
    refine CW.seq fun K3 hK3 => ?_
    refine CW.region ?_
    refine LW.pure rfl rfl (RV.move rfl) ?_
    refine LW.pure rfl rfl (RV.assign rfl) ?_
    refine LW.nil (hK3 _ _ ?_)
    refine CW.ret ?_
    obtain rfl := Option.some.inj F
    refine ⟨_, (ResOK.one rfl), ?_⟩
    refine ⟨(by first | rfl | simp), R0⟩
  ·
    intro K4 hK4 jK74
    refine CW.seq fun K5 hK5 => ?_
    refine CW.region ?_
    refine LW.pure rfl rfl (RV.assign rfl) ?_
    refine LW.nil (hK5 _ _ ?_)
    refine CW.block ?_
    refine CW.loop (fun meas ρ wl2 => ∃ (t5_3 : Int) (t6_1 : Int), ref02_width_L1 a0 a1 meas t5_3 t6_1 = some res ∧ ρ = [(1, .int .i64 a1), (2, .pointer (some (⟨b1, 0, none⟩))), (4, .int .i64 0), (5, .int .i64 t5_3), (6, .int .i64 t6_1)] ∧ Hp w wl2 [.blk b1 24 [.int .i64 a0.nodes, .int .i64 a0.from_, .int .i64 a0.to_, .slice A_a0_drains a0.drains.length c_a0_drains]]) FU ⟨_, ?_, ((0 : Int)), ((0 : Int)), F, rfl, H⟩ ?_
    · exact ⟨rfl, rfl, rfl, rfl, rfl, trivial⟩
    rintro mk1 _ wl2 ⟨t5_3, t6_1, F, rfl, H⟩
    have R0 := H.ext
    replace F := ref02_width_L1_s F
    obtain ⟨mk1, rfl, F⟩ := F
    generalize hrec1 : ref02_width_L1 a0 a1 mk1 = rec1 at F
    unfold ref02_width_B1 at F
    refine CW.seq fun K6 hK6 => ?_
    refine CW.seq fun K7 hK7 => ?_
    refine CW.region ?_
    refine LW.pure rfl rfl (RV.move rfl) ?_
    refine LW.pure rfl rfl (RV.fieldAddr Tf24_3 rfl) ?_
    refine LW.pure rfl rfl (RV.load1 Tk22 rfl ((H.blk 0 rfl).cells.off 3) rfl) ?_
    refine LW.pure rfl rfl (RV.len Ts22 rfl) ?_
    refine LW.pure rfl rfl (RV.lss rfl rfl) ?_
    refine LW.nil (hK7 _ _ ?_)
    by_cases hp1 : t6_1 < ((a0.drains.length : Int))
    ·
      replace F := ite_y hp1 F
      have hq1 := dec_t hp1
      refine CW.condT rfl hq1 ?_
      refine CW.skip (hK6 _ _ ?_)
      refine CW.seqJ (fun ρ wl3 => (∃ (t5_2 : Int), ref02_width_k2 t6_1 rec1 t5_2 = some res ∧ ρ = [(1, .int .i64 a1), (2, .pointer (some (⟨b1, 0, none⟩))), (4, .int .i64 0), (5, .int .i64 t5_2), (6, .int .i64 t6_1)] ∧ Hp w wl3 [.blk b1 24 [.int .i64 a0.nodes, .int .i64 a0.from_, .int .i64 a0.to_, .slice A_a0_drains a0.drains.length c_a0_drains]])) ?_ ?_
      ·
        rintro _ wl3 ⟨t5_2, F, rfl, H⟩
        have R0 := H.ext
        unfold ref02_width_k2 at F
        obtain ⟨hg1, F⟩ := gd_some F
        refine CW.region ?_
        refine LW.pure rfl rfl (RV.move rfl) ?_
        refine LW.pure rfl rfl (RV.add rfl rfl hg1) ?_
        refine LW.pure rfl rfl (RV.assign rfl) ?_
        refine LW.nil ?_
        subst hrec1
        refine ⟨mk1, Nat.lt_succ_self _, _, ?_, t5_2, (t6_1 + 1), F, rfl, H⟩
        exact ⟨rfl, rfl, rfl, rfl, rfl, trivial⟩
      ·
        intro K8 hK8 jK94
        refine CW.block ?_
        refine CW.seq fun K9 hK9 => ?_
        obtain ⟨x1, hbx1, hx1, F⟩ := ix_some F
        refine CW.region ?_
        refine LW.pure rfl rfl (RV.fieldAddr Tf24_3 rfl) ?_
        refine LW.pure rfl rfl (RV.load1 Tk22 rfl ((H.blk 0 rfl).cells.off 3) rfl) ?_
        refine LW.pure rfl rfl (RV.move rfl) ?_
        refine LW.pure rfl rfl (RV.indexAddr Ts22 rfl rfl hbx1 (h_a0_drains.addr_ hx1)) ?_
        refine LW.pure rfl rfl (RV.loadA [.int .i64 x1.from_, .int .i64 x1.to_, .int .i64 x1.width] Tk52 rfl ((h_a0_drains.at_ hx1).ext R0) rfl rfl) ?_
        refine LW.go rfl rfl (OW.alloc Tz52 fun b2 w2 N2 => ?_)
        replace H := H.new N2 N2.blk
        replace R0 := H.ext
        refine LW.go rfl rfl (OW.store Tk52 rfl rfl (H.blk 0 rfl) (off := 0) (vs := [.int .i64 x1.from_, .int .i64 x1.to_, .int .i64 x1.width]) rfl rfl rfl rfl rfl fun w3 S1 => ?_)
        replace H : Hp w w3 [.blk b2 52 [.int .i64 x1.from_, .int .i64 x1.to_, .int .i64 x1.width], .blk b1 24 [.int .i64 a0.nodes, .int .i64 a0.from_, .int .i64 a0.to_, .slice A_a0_drains a0.drains.length c_a0_drains]] := H.stored 0 rfl S1
        replace R0 := H.ext
        refine LW.nil (hK9 _ _ ?_)
        refine CW.seqJ (fun ρ wl4 => (∃ (t30_1 : Bool), ref02_width_k3 t5_3 t6_1 rec1 x1 t30_1 = some res ∧ ρ = [(1, .int .i64 a1), (2, .pointer (some (⟨b1, 0, none⟩))), (4, .int .i64 0), (5, .int .i64 t5_3), (6, .int .i64 t6_1), (7, .pointer (some (⟨b2, 0, none⟩))), (30, .bool t30_1)] ∧ Hp w wl4 [.blk b1 24 [.int .i64 a0.nodes, .int .i64 a0.from_, .int .i64 a0.to_, .slice A_a0_drains a0.drains.length c_a0_drains], .blk b2 52 [.int .i64 x1.from_, .int .i64 x1.to_, .int .i64 x1.width]])) ?_ ?_
        ·
          rintro _ wl4 ⟨t30_1, F, rfl, H⟩
          have R0 := H.ext
          unfold ref02_width_k3 at F
          by_cases hp2 : t30_1 = true
          ·
            replace F := ite_y hp2 F
            have hq2 : t30_1 = true := hp2
            refine CW.condT rfl hq2 ?_
            obtain ⟨hg2, F⟩ := gd_some F
            refine CW.region ?_
            refine LW.pure rfl rfl (RV.move rfl) ?_
            refine LW.pure rfl rfl (RV.fieldAddr Tf52_2 rfl) ?_
            refine LW.pure rfl rfl (RV.load1 Tk3 rfl ((H.blk 1 rfl).cells.off 2) rfl) ?_
            refine LW.pure rfl rfl (RV.add rfl rfl hg2) ?_
            refine LW.pure rfl rfl (RV.assign rfl) ?_
            replace H := H.pick (L' := [.blk b1 24 [.int .i64 a0.nodes, .int .i64 a0.from_, .int .i64 a0.to_, .slice A_a0_drains a0.drains.length c_a0_drains]]) [0] (by decide) rfl
            replace R0 := H.ext
            refine LW.nil (jK94 _ _ ⟨_, ?_, ⟨(t5_3 + x1.width), F, rfl, H⟩⟩)
            exact ⟨rfl, rfl, rfl, rfl, rfl, trivial⟩
          ·
            replace F := ite_n hp2 F
            have hq2 : t30_1 = false := raw_f hp2
            refine CW.condF rfl hq2 ?_
            replace H := H.pick (L' := [.blk b1 24 [.int .i64 a0.nodes, .int .i64 a0.from_, .int .i64 a0.to_, .slice A_a0_drains a0.drains.length c_a0_drains]]) [0] (by decide) rfl
            replace R0 := H.ext
            refine CW.skip (jK94 _ _ ⟨_, ?_, ⟨t5_3, F, rfl, H⟩⟩)
            exact ⟨rfl, rfl, rfl, rfl, rfl, trivial⟩
        ·
          intro K10 hK10 jK96
          obtain ⟨r1, hr1, F⟩ := bnd_some F
          by_cases hp3 : r1 = true
          ·
            replace F := ite_y hp3 F
            have hq3 : r1 = true := hp3
            obtain ⟨r2, hr2, F⟩ := bnd_some F
            refine CW.region ?_
            refine LW.pure rfl rfl (RV.move rfl) ?_
            refine LW.pure rfl rfl (RV.fieldAddr Tf52_0 rfl) ?_
            refine LW.pure rfl rfl (RV.load1 Tk3 rfl ((H.blk 0 rfl).cells.off 0) rfl) ?_
            refine LW.go rfl rfl (OW.call Tc92 rfl (ref02_in_ok (a0 := a1) (a1 := x1.from_) hr1) ?_)
            rintro _ w4 ⟨rfl, E1⟩
            refine ⟨_, rfl, ?_⟩
            replace H := H.grow E1
            replace R0 := H.ext
            refine LW.pure rfl rfl (RV.move rfl) ?_
            refine LW.pureYB rfl rfl rfl rfl hq3 (RV.move rfl) ?_
            refine LW.pureYB rfl rfl rfl rfl hq3 (RV.fieldAddr Tf52_1 rfl) ?_
            refine LW.pureYB rfl rfl rfl rfl hq3 (RV.load1 Tk3 rfl ((H.blk 0 rfl).cells.off 1) rfl) ?_
            refine LW.yesB rfl rfl rfl rfl hq3 (OW.call Tc92 rfl (ref02_in_ok (a0 := a1) (a1 := x1.to_) hr2) ?_)
            rintro _ w5 ⟨rfl, E2⟩
            refine ⟨_, rfl, ?_⟩
            replace H := H.grow E2
            replace R0 := H.ext
            refine LW.pureYB rfl rfl rfl rfl hq3 (RV.not rfl) ?_
            refine LW.pure rfl rfl (RV.pickTB rfl hq3 rfl) ?_
            replace H := H.pick (L' := [.blk b1 24 [.int .i64 a0.nodes, .int .i64 a0.from_, .int .i64 a0.to_, .slice A_a0_drains a0.drains.length c_a0_drains], .blk b2 52 [.int .i64 x1.from_, .int .i64 x1.to_, .int .i64 x1.width]]) [1, 0] (by decide) rfl
            replace R0 := H.ext
            refine LW.nil (jK96 _ _ ⟨_, ?_, ⟨(!r2), F, rfl, H⟩⟩)
            exact ⟨rfl, rfl, rfl, rfl, rfl, rfl, rfl, trivial⟩
          ·
            replace F := ite_n hp3 F
            have hq3 : r1 = false := raw_f hp3
            refine CW.region ?_
            refine LW.pure rfl rfl (RV.move rfl) ?_
            refine LW.pure rfl rfl (RV.fieldAddr Tf52_0 rfl) ?_
            refine LW.pure rfl rfl (RV.load1 Tk3 rfl ((H.blk 0 rfl).cells.off 0) rfl) ?_
            refine LW.go rfl rfl (OW.call Tc92 rfl (ref02_in_ok (a0 := a1) (a1 := x1.from_) hr1) ?_)
            rintro _ w6 ⟨rfl, E3⟩
            refine ⟨_, rfl, ?_⟩
            replace H := H.grow E3
            replace R0 := H.ext
            refine LW.pure rfl rfl (RV.move rfl) ?_
            refine LW.noB rfl rfl rfl rfl (ne_beq (v := false) hq3 rfl) ?_
            refine LW.noB rfl rfl rfl rfl (ne_beq (v := false) hq3 rfl) ?_
            refine LW.noB rfl rfl rfl rfl (ne_beq (v := false) hq3 rfl) ?_
            refine LW.noB rfl rfl rfl rfl (ne_beq (v := false) hq3 rfl) ?_
            refine LW.noB rfl rfl rfl rfl (ne_beq (v := false) hq3 rfl) ?_
            refine LW.pure rfl rfl (RV.pickFB rfl hq3 rfl) ?_
            replace H := H.pick (L' := [.blk b1 24 [.int .i64 a0.nodes, .int .i64 a0.from_, .int .i64 a0.to_, .slice A_a0_drains a0.drains.length c_a0_drains], .blk b2 52 [.int .i64 x1.from_, .int .i64 x1.to_, .int .i64 x1.width]]) [1, 0] (by decide) rfl
            replace R0 := H.ext
            refine LW.nil (jK96 _ _ ⟨_, ?_, ⟨false, F, rfl, H⟩⟩)
            exact ⟨rfl, rfl, rfl, rfl, rfl, rfl, rfl, trivial⟩
    ·
      replace F := ite_n hp1 F
      have hq1 := dec_f hp1
      refine CW.condF rfl hq1 ?_
      replace H := H.pick (L' := []) [] (by decide) rfl
      replace R0 := H.ext
      refine CW.exit (jK74 _ _ ⟨_, ?_, ⟨t5_3, F, rfl, H⟩⟩)
      exact ⟨rfl, rfl, trivial⟩
set_option maxRecDepth 20000 in
set_option maxHeartbeats 1000000 in
theorem ref02_most_ok {a0 : Net} {A_a0_drains : Option Addr} {c_a0_drains : Nat} {w : World} {res : Int} (h_a0_drains : Sl w A_a0_drains c_a0_drains 3 (a0.drains.map encDrain)) (F : ref02_most a0 = some res) : Calls Try.prog 57 #[.agg #[.int .i64 a0.nodes, .int .i64 a0.from_, .int .i64 a0.to_, .slice A_a0_drains a0.drains.length c_a0_drains]] w (Rt w (.int .i64 res)) := by
  refine calls_of_cw (args := [.agg #[.int .i64 a0.nodes, .int .i64 a0.from_, .int .i64 a0.to_, .slice A_a0_drains a0.drains.length c_a0_drains]]) Try.func57 rfl rfl rfl rfl ?_
  have H := Hp.start w
  have R0 := H.ext
  unfold ref02_most at F
  refine CW.seq fun K1 hK1 => ?_
  refine CW.region ?_
  refine LW.go rfl rfl (OW.box rfl fun b1 w1 N1 => ?_)
  replace H := H.new N1 N1.blk
  replace R0 := H.ext
  refine LW.pure rfl rfl (RV.assign rfl) ?_
  refine LW.nil (hK1 _ _ ?_)
  refine CW.seq fun K2 hK2 => ?_
  refine CW.region ?_
  refine LW.pure rfl rfl (RV.assign rfl) ?_
  refine LW.nil (hK2 _ _ ?_)
  refine CW.seqJ (fun ρ wl1 => (∃ (t3_1 : Int), ref02_most_k1 t3_1 = some res ∧ ρ = [(2, .int .i64 0), (3, .int .i64 t3_1)] ∧ Hp w wl1 [])) ?_ ?_
  ·
    rintro _ wl1 ⟨t3_1, F, rfl, H⟩
    have R0 := H.ext
    unfold ref02_most_k1 at F
    refine CW.seq fun K3 hK3 => ?_
    refine CW.region ?_
    refine LW.pure rfl rfl (RV.move rfl) ?_
    refine LW.pure rfl rfl (RV.assign rfl) ?_
    refine LW.nil (hK3 _ _ ?_)
    refine CW.ret ?_
    obtain rfl := Option.some.inj F
    refine ⟨_, (ResOK.one rfl), ?_⟩
    refine ⟨(by first | rfl | simp), R0⟩
  ·
    intro K4 hK4 jK92
    refine CW.seq fun K5 hK5 => ?_
    refine CW.region ?_
    refine LW.pure rfl rfl (RV.assign rfl) ?_
    refine LW.nil (hK5 _ _ ?_)
    refine CW.block ?_
    refine CW.loop (fun meas ρ wl2 => ∃ (t3_3 : Int) (t4_1 : Int), ref02_most_L1 a0 meas t3_3 t4_1 = some res ∧ ρ = [(1, .pointer (some (⟨b1, 0, none⟩))), (2, .int .i64 0), (3, .int .i64 t3_3), (4, .int .i64 t4_1)] ∧ Hp w wl2 [.blk b1 24 [.int .i64 a0.nodes, .int .i64 a0.from_, .int .i64 a0.to_, .slice A_a0_drains a0.drains.length c_a0_drains]]) FU ⟨_, ?_, ((-1 : Int)), ((0 : Int)), F, rfl, H⟩ ?_
    · exact ⟨rfl, rfl, rfl, rfl, trivial⟩
    rintro mk1 _ wl2 ⟨t3_3, t4_1, F, rfl, H⟩
    have R0 := H.ext
    replace F := ref02_most_L1_s F
    obtain ⟨mk1, rfl, F⟩ := F
    generalize hrec1 : ref02_most_L1 a0 mk1 = rec1 at F
    unfold ref02_most_B1 at F
    refine CW.seq fun K6 hK6 => ?_
    refine CW.seq fun K7 hK7 => ?_
    obtain ⟨hg1, F⟩ := gd_some F
    refine CW.region ?_
    refine LW.pure rfl rfl (RV.move rfl) ?_
    refine LW.pure rfl rfl (RV.fieldAddr Tf24_0 rfl) ?_
    refine LW.pure rfl rfl (RV.load1 Tk3 rfl ((H.blk 0 rfl).cells.off 0) rfl) ?_
    refine LW.pure rfl rfl (RV.convW Tu3s Tu74 rfl) ?_
    refine LW.pure rfl rfl (RV.shl rfl rfl hg1) ?_
    refine LW.pure rfl rfl (RV.lss rfl rfl) ?_
    refine LW.nil (hK7 _ _ ?_)
    by_cases hp1 : t4_1 < (shlI ((1 : Int)) (IntKind.u64.wrap a0.nodes))
    ·
      replace F := ite_y hp1 F
      have hq1 := dec_t hp1
      refine CW.condT rfl hq1 ?_
      refine CW.skip (hK6 _ _ ?_)
      refine CW.seqJ (fun ρ wl3 => (∃ (t3_2 : Int), ref02_most_k2 t4_1 rec1 t3_2 = some res ∧ ρ = [(1, .pointer (some (⟨b1, 0, none⟩))), (2, .int .i64 0), (3, .int .i64 t3_2), (4, .int .i64 t4_1)] ∧ Hp w wl3 [.blk b1 24 [.int .i64 a0.nodes, .int .i64 a0.from_, .int .i64 a0.to_, .slice A_a0_drains a0.drains.length c_a0_drains]])) ?_ ?_
      ·
        rintro _ wl3 ⟨t3_2, F, rfl, H⟩
        have R0 := H.ext
        unfold ref02_most_k2 at F
        obtain ⟨hg2, F⟩ := gd_some F
        refine CW.region ?_
        refine LW.pure rfl rfl (RV.move rfl) ?_
        refine LW.pure rfl rfl (RV.add rfl rfl hg2) ?_
        refine LW.pure rfl rfl (RV.assign rfl) ?_
        refine LW.nil ?_
        subst hrec1
        refine ⟨mk1, Nat.lt_succ_self _, _, ?_, t3_2, (t4_1 + 1), F, rfl, H⟩
        exact ⟨rfl, rfl, rfl, rfl, trivial⟩
      ·
        intro K8 hK8 jK117
        refine CW.block ?_
        refine CW.seq fun K9 hK9 => ?_
        obtain ⟨r2, hr2, F⟩ := bnd_some F
        refine CW.region ?_
        refine LW.pure rfl rfl (RV.loadA [.int .i64 a0.nodes, .int .i64 a0.from_, .int .i64 a0.to_, .slice A_a0_drains a0.drains.length c_a0_drains] Tk24 rfl (H.blk 0 rfl).cells rfl rfl) ?_
        refine LW.pure rfl rfl (RV.move rfl) ?_
        refine LW.go rfl rfl (OW.call Tc72 rfl (ref02_isCut_ok (a0 := a0) (a1 := t4_1) (h_a0_drains.ext R0) hr2) ?_)
        rintro _ w2 ⟨rfl, E1⟩
        refine ⟨_, rfl, ?_⟩
        replace H := H.grow E1
        replace R0 := H.ext
        refine LW.nil (hK9 _ _ ?_)
        by_cases hp2 : r2 = true
        ·
          replace F := ite_y hp2 F
          have hq2 : r2 = true := hp2
          refine CW.condT rfl hq2 ?_
          refine CW.seq fun K10 hK10 => ?_
          obtain ⟨r1, hr1, F⟩ := bnd_some F
          refine CW.region ?_
          refine LW.pure rfl rfl (RV.loadA [.int .i64 a0.nodes, .int .i64 a0.from_, .int .i64 a0.to_, .slice A_a0_drains a0.drains.length c_a0_drains] Tk24 rfl (H.blk 0 rfl).cells rfl rfl) ?_
          refine LW.pure rfl rfl (RV.move rfl) ?_
          refine LW.go rfl rfl (OW.call Tc68 rfl (ref02_width_ok (a0 := a0) (a1 := t4_1) (h_a0_drains.ext R0) hr1) ?_)
          rintro _ w3 ⟨rfl, E2⟩
          refine ⟨_, rfl, ?_⟩
          replace H := H.grow E2
          replace R0 := H.ext
          refine LW.pure rfl rfl (RV.assign rfl) ?_
          refine LW.nil (hK10 _ _ ?_)
          refine CW.seqJ (fun ρ wl4 => (∃ (t26_1 : Bool), ref02_most_k3 t3_3 t4_1 rec1 r1 t26_1 = some res ∧ ρ = [(1, .pointer (some (⟨b1, 0, none⟩))), (2, .int .i64 0), (3, .int .i64 t3_3), (4, .int .i64 t4_1), (5, .int .i64 r1), (26, .bool t26_1)] ∧ Hp w wl4 [.blk b1 24 [.int .i64 a0.nodes, .int .i64 a0.from_, .int .i64 a0.to_, .slice A_a0_drains a0.drains.length c_a0_drains]])) ?_ ?_
          ·
            rintro _ wl4 ⟨t26_1, F, rfl, H⟩
            have R0 := H.ext
            unfold ref02_most_k3 at F
            by_cases hp3 : t26_1 = true
            ·
              replace F := ite_y hp3 F
              have hq3 : t26_1 = true := hp3
              refine CW.condT rfl hq3 ?_
              refine CW.region ?_
              refine LW.pure rfl rfl (RV.move rfl) ?_
              refine LW.pure rfl rfl (RV.assign rfl) ?_
              refine LW.nil (jK117 _ _ ⟨_, ?_, ⟨r1, F, rfl, H⟩⟩)
              exact ⟨rfl, rfl, rfl, rfl, trivial⟩
            ·
              replace F := ite_n hp3 F
              have hq3 : t26_1 = false := raw_f hp3
              refine CW.condF rfl hq3 ?_
              refine CW.skip (jK117 _ _ ⟨_, ?_, ⟨t3_3, F, rfl, H⟩⟩)
              exact ⟨rfl, rfl, rfl, rfl, trivial⟩
          ·
            intro K11 hK11 jK120
            by_cases hp4 : t3_3 < 0
            ·
              replace F := ite_y hp4 F
              have hq4 := dec_t hp4
              refine CW.region ?_
              refine LW.pure rfl rfl (RV.move rfl) ?_
              refine LW.pure rfl rfl (RV.lss rfl rfl) ?_
              refine LW.pure rfl rfl (RV.move rfl) ?_
              refine LW.noB rfl rfl rfl rfl (ne_beq (v := true) hq4 rfl) ?_
              refine LW.noB rfl rfl rfl rfl (ne_beq (v := true) hq4 rfl) ?_
              refine LW.noB rfl rfl rfl rfl (ne_beq (v := true) hq4 rfl) ?_
              refine LW.pure rfl rfl (RV.pickTB rfl hq4 rfl) ?_
              refine LW.nil (jK120 _ _ ⟨_, ?_, ⟨true, F, rfl, H⟩⟩)
              exact ⟨rfl, rfl, rfl, rfl, rfl, rfl, trivial⟩
            ·
              replace F := ite_n hp4 F
              have hq4 := dec_f hp4
              refine CW.region ?_
              refine LW.pure rfl rfl (RV.move rfl) ?_
              refine LW.pure rfl rfl (RV.lss rfl rfl) ?_
              refine LW.pure rfl rfl (RV.move rfl) ?_
              refine LW.pureYB rfl rfl rfl rfl hq4 (RV.move rfl) ?_
              refine LW.pureYB rfl rfl rfl rfl hq4 (RV.move rfl) ?_
              refine LW.pureYB rfl rfl rfl rfl hq4 (RV.lss rfl rfl) ?_
              refine LW.pure rfl rfl (RV.pickFB rfl hq4 rfl) ?_
              refine LW.nil (jK120 _ _ ⟨_, ?_, ⟨(decide (r1 < t3_3)), F, rfl, H⟩⟩)
              exact ⟨rfl, rfl, rfl, rfl, rfl, rfl, trivial⟩
        ·
          replace F := ite_n hp2 F
          have hq2 : r2 = false := raw_f hp2
          refine CW.condF rfl hq2 ?_
          refine CW.skip (jK117 _ _ ⟨_, ?_, ⟨t3_3, F, rfl, H⟩⟩)
          exact ⟨rfl, rfl, rfl, rfl, trivial⟩
    ·
      replace F := ite_n hp1 F
      have hq1 := dec_f hp1
      refine CW.condF rfl hq1 ?_
      replace H := H.pick (L' := []) [] (by decide) rfl
      replace R0 := H.ext
      refine CW.exit (jK92 _ _ ⟨_, ?_, ⟨t3_3, F, rfl, H⟩⟩)
      exact ⟨rfl, rfl, trivial⟩
end Go.D2

set_option linter.unusedVariables false
set_option linter.unusedSimpArgs false
namespace Go.D2
open Go.Tb Go.Proofs Go.RowKit
theorem Tc16 : callable Try.prog 16 = true := by kernel_rfl
theorem Tc17 : callable Try.prog 17 = true := by kernel_rfl
end Go.D2

set_option linter.unusedVariables false
set_option linter.unusedSimpArgs false
namespace Go.D2
open Go.Tb Go.Proofs Go.RowKit
theorem Tc34 : callable Try.prog 34 = true := by kernel_rfl
set_option maxRecDepth 20000 in
set_option maxHeartbeats 1000000 in
theorem ref01_SameInts_ok {a0 : List Int} {a1 : List Int} {A_a0 : Option Addr} {c_a0 : Nat} {A_a1 : Option Addr} {c_a1 : Nat} {w : World} {res : Bool} (h_a0 : Sl w A_a0 c_a0 1 (a0.map encN)) (h_a1 : Sl w A_a1 c_a1 1 (a1.map encN)) (F : ref01_SameInts a0 a1 = some res) : Calls Try.prog 34 #[.slice A_a0 a0.length c_a0, .slice A_a1 a1.length c_a1] w (Rt w (.bool res)) := by
  refine calls_of_cw (args := [.slice A_a0 a0.length c_a0, .slice A_a1 a1.length c_a1]) Try.func34 rfl rfl rfl rfl ?_
  have H := Hp.start w
  have R0 := H.ext
  unfold ref01_SameInts at F
  refine CW.seq fun K1 hK1 => ?_
  refine CW.region ?_
  refine LW.pure rfl rfl (RV.assign rfl) ?_
  refine LW.nil (hK1 _ _ ?_)
  refine CW.seq fun K2 hK2 => ?_
  refine CW.seq fun K3 hK3 => ?_
  refine CW.region ?_
  refine LW.pure rfl rfl (RV.move rfl) ?_
  refine LW.pure rfl rfl (RV.len Ts30 rfl) ?_
  refine LW.pure rfl rfl (RV.move rfl) ?_
  refine LW.pure rfl rfl (RV.len Ts30 rfl) ?_
  refine LW.pure rfl rfl (RV.nei rfl rfl) ?_
  refine LW.nil (hK3 _ _ ?_)
  by_cases hp1 : ((a0.length : Int)) = ((a1.length : Int))
  ·
    replace F := ite_y hp1 F
    have hq1 := dec_t hp1
    refine CW.condF rfl (not_f hq1) ?_
    refine CW.skip (hK2 _ _ ?_)
    refine CW.seqJ (fun ρ wl1 => (ref01_SameInts_k1 = some res ∧ ρ = [(4, .bool false)] ∧ Hp w wl1 [])) ?_ ?_
    ·
      rintro _ wl1 ⟨F, rfl, H⟩
      have R0 := H.ext
      unfold ref01_SameInts_k1 at F
      refine CW.seq fun K4 hK4 => ?_
      refine CW.region ?_
      refine LW.pure rfl rfl (RV.assign rfl) ?_
      refine LW.nil (hK4 _ _ ?_)
      refine CW.ret ?_
      obtain rfl := Option.some.inj F
      refine ⟨_, (ResOK.one rfl), ?_⟩
      refine ⟨(by first | rfl | simp), R0⟩
    ·
      intro K5 hK5 jK59
      refine CW.seq fun K6 hK6 => ?_
      refine CW.region ?_
      refine LW.pure rfl rfl (RV.assign rfl) ?_
      refine LW.nil (hK6 _ _ ?_)
      refine CW.block ?_
      refine CW.loop (fun meas ρ wl2 => ∃ (t5_1 : Int), ref01_SameInts_L1 a0 a1 meas t5_1 = some res ∧ ρ = [(0, .slice A_a0 a0.length c_a0), (1, .slice A_a1 a1.length c_a1), (4, .bool false), (5, .int .i64 t5_1)] ∧ Hp w wl2 []) FU ⟨_, ?_, ((0 : Int)), F, rfl, H⟩ ?_
      · exact ⟨rfl, rfl, rfl, rfl, trivial⟩
      rintro mk1 _ wl2 ⟨t5_1, F, rfl, H⟩
      have R0 := H.ext
      replace F := ref01_SameInts_L1_s F
      obtain ⟨mk1, rfl, F⟩ := F
      generalize hrec1 : ref01_SameInts_L1 a0 a1 mk1 = rec1 at F
      unfold ref01_SameInts_B1 at F
      refine CW.seq fun K7 hK7 => ?_
      refine CW.seq fun K8 hK8 => ?_
      refine CW.region ?_
      refine LW.pure rfl rfl (RV.move rfl) ?_
      refine LW.pure rfl rfl (RV.move rfl) ?_
      refine LW.pure rfl rfl (RV.len Ts30 rfl) ?_
      refine LW.pure rfl rfl (RV.lss rfl rfl) ?_
      refine LW.nil (hK8 _ _ ?_)
      by_cases hp2 : t5_1 < ((a0.length : Int))
      ·
        replace F := ite_y hp2 F
        have hq2 := dec_t hp2
        refine CW.condT rfl hq2 ?_
        refine CW.skip (hK7 _ _ ?_)
        refine CW.seq fun K9 hK9 => ?_
        refine CW.block ?_
        refine CW.seq fun K10 hK10 => ?_
        obtain ⟨x1, hbx1, hx1, F⟩ := ix_some F
        obtain ⟨x2, hbx2, hx2, F⟩ := ix_some F
        refine CW.draw [] (fun _ => True) (.cons 0 1 (.cons 1 1 (.cons 2 1 (.cons 3 1 (.cons 4 1 (.cons 5 1 (.cons 6 1 (.cons 7 1 (.cons 8 1 .nil))))))))) mixed (by kernel_rfl) fun w1 E1 => ?_
        replace H := H.grow E1
        replace R0 := H.ext
        refine DW.fix rfl rfl rfl (fun _ EQ => RV.move rfl) ?_
        refine DW.fix rfl rfl rfl (fun _ EQ => RV.move rfl) ?_
        refine DW.fix rfl rfl rfl (fun _ EQ => RV.indexAddr Ts30 rfl rfl hbx1 (h_a0.addr_ hx1)) ?_
        refine DW.fix rfl rfl rfl (fun _ EQ => RV.load1 Tk3 rfl ((h_a0.at_ hx1).ext (R0.trans EQ)) rfl) ?_
        refine DW.fix rfl rfl rfl (fun _ EQ => RV.move rfl) ?_
        refine DW.fix rfl rfl rfl (fun _ EQ => RV.move rfl) ?_
        refine DW.fix rfl rfl rfl (fun _ EQ => RV.indexAddr Ts30 rfl rfl hbx2 (h_a1.addr_ hx2)) ?_
        refine DW.fix rfl rfl rfl (fun _ EQ => RV.load1 Tk3 rfl ((h_a1.at_ hx2).ext (R0.trans EQ)) rfl) ?_
        refine DW.fix rfl rfl rfl (fun _ EQ => RV.nei rfl rfl) ?_
        refine DW.nil (hK10 _ _ ?_)
        by_cases hp3 : x1 = x2
        ·
          replace F := ite_y hp3 F
          have hq3 := dec_t hp3
          refine CW.condF rfl (not_f hq3) ?_
          refine CW.skip (hK9 _ _ ?_)
          obtain ⟨hg1, F⟩ := gd_some F
          refine CW.region ?_
          refine LW.pure rfl rfl (RV.move rfl) ?_
          refine LW.pure rfl rfl (RV.add rfl rfl hg1) ?_
          refine LW.pure rfl rfl (RV.assign rfl) ?_
          refine LW.nil ?_
          subst hrec1
          refine ⟨mk1, Nat.lt_succ_self _, _, ?_, (t5_1 + 1), F, rfl, H⟩
          exact ⟨rfl, rfl, rfl, rfl, trivial⟩
        ·
          replace F := ite_n hp3 F
          have hq3 := dec_f hp3
          refine CW.condT rfl (not_t hq3) ?_
          refine CW.seq fun K11 hK11 => ?_
          refine CW.region ?_
          refine LW.pure rfl rfl (RV.assign rfl) ?_
          refine LW.nil (hK11 _ _ ?_)
          refine CW.ret ?_
          obtain rfl := Option.some.inj F
          refine ⟨_, (ResOK.one rfl), ?_⟩
          refine ⟨(by first | rfl | simp), R0⟩
      ·
        replace F := ite_n hp2 F
        have hq2 := dec_f hp2
        refine CW.condF rfl hq2 ?_
        refine CW.exit (jK59 _ _ ⟨_, ?_, ⟨F, rfl, H⟩⟩)
        exact ⟨rfl, trivial⟩
  ·
    replace F := ite_n hp1 F
    have hq1 := dec_f hp1
    refine CW.condT rfl (not_t hq1) ?_
    refine CW.seq fun K12 hK12 => ?_
    refine CW.region ?_
    refine LW.pure rfl rfl (RV.assign rfl) ?_
    refine LW.nil (hK12 _ _ ?_)
    refine CW.ret ?_
    obtain rfl := Option.some.inj F
    refine ⟨_, (ResOK.one rfl), ?_⟩
    refine ⟨(by first | rfl | simp), R0⟩
end Go.D2

set_option linter.unusedVariables false
set_option linter.unusedSimpArgs false
namespace Go.D2
open Go.Tb Go.Proofs Go.RowKit
theorem Tc80 : callable Try.prog 80 = true := by kernel_rfl
theorem Tc96 : callable Try.prog 96 = true := by kernel_rfl
set_option maxRecDepth 20000 in
set_option maxHeartbeats 1000000 in
theorem ref02_Copy_ok {a0 : Net} {A_a0_drains : Option Addr} {c_a0_drains : Nat} {w : World} {res : Net} (h_a0_drains : Sl w A_a0_drains c_a0_drains 3 (a0.drains.map encDrain)) (F : ref02_Copy a0 = some res) : Calls Try.prog 40 #[.agg #[.int .i64 a0.nodes, .int .i64 a0.from_, .int .i64 a0.to_, .slice A_a0_drains a0.drains.length c_a0_drains]] w (fun e w' => ∃ (A0_drains : Option Addr) (c0_drains : Nat), e = .returned (.agg #[.int .i64 res.nodes, .int .i64 res.from_, .int .i64 res.to_, .slice A0_drains res.drains.length c0_drains]) ∧ Hp w w' [.own A0_drains c0_drains 52 3 (List.map encDrain res.drains)]) := by
  refine calls_of_cw (args := [.agg #[.int .i64 a0.nodes, .int .i64 a0.from_, .int .i64 a0.to_, .slice A_a0_drains a0.drains.length c_a0_drains]]) Try.func40 rfl rfl rfl rfl ?_
  have H := Hp.start w
  have R0 := H.ext
  unfold ref02_Copy at F
  refine CW.seq fun K1 hK1 => ?_
  refine CW.region ?_
  refine LW.go rfl rfl (OW.box rfl fun b1 w1 N1 => ?_)
  replace H := H.new N1 N1.blk
  replace R0 := H.ext
  refine LW.go rfl rfl (OW.alloc Tz24 fun b2 w2 N2 => ?_)
  replace H := H.new N2 N2.blk
  replace R0 := H.ext
  refine LW.nil (hK1 _ _ ?_)
  refine CW.seq fun K2 hK2 => ?_
  obtain ⟨hg1, F⟩ := gd_some F
  refine CW.region ?_
  refine LW.go rfl rfl (OW.buildSlice (e := 52) (vs := []) (cs := []) rfl (fun _ => by kernel_rfl) fun b3 w3 N3 => ?_)
  replace H := H.made' (k := 3) (t := 52) (enc := encDrain) (l := ([] : List Drain)) N3 N3.blk (fun _ => rfl) rfl (by first | decide | omega | (simp; done) | (simp; omega))
  replace R0 := H.ext
  refine LW.pure rfl rfl (RV.fieldAddr Tf24_3 rfl) ?_
  refine LW.pure rfl rfl (RV.load1 Tk22 rfl ((H.blk 2 rfl).cells.off 3) rfl) ?_
  refine LW.go rfl rfl (OW.appendG (enc := encDrain) (l := ([] : List Drain)) (xs := a0.drains) Ts22 (look_slice rfl (by first | rfl | (simp; done) | (simp; omega))) rfl (H.own 0 rfl) (h_a0_drains.ext R0) (fun _ => rfl) rfl rfl hg1 (by decide) fun A1 c1 w4 O1 M1 D1 => ?_)
  replace H : Hp w w4 [.own A1 c1 52 3 (List.map encDrain ((([] : List Drain) ++ a0.drains))), .blk b2 24 [.int .i64 0, .int .i64 0, .int .i64 0, .slice none 0 0], .blk b1 24 [.int .i64 a0.nodes, .int .i64 a0.from_, .int .i64 a0.to_, .slice A_a0_drains a0.drains.length c_a0_drains]] := H.mod 0 rfl M1 O1 D1
  replace R0 := H.ext
  refine LW.pure rfl rfl (RV.fieldAddr Tf24_3 rfl) ?_
  refine LW.go rfl rfl (OW.store Tk22 rfl rfl (H.blk 2 rfl) (off := 3) (vs := [.slice A1 (((([] : List Drain) ++ a0.drains)).length) c1]) rfl rfl rfl rfl rfl fun w5 S1 => ?_)
  replace H : Hp w w5 [.own A1 c1 52 3 (List.map encDrain ((([] : List Drain) ++ a0.drains))), .blk b2 24 [.int .i64 0, .int .i64 0, .int .i64 0, .slice none 0 0], .blk b1 24 [.int .i64 a0.nodes, .int .i64 a0.from_, .int .i64 a0.to_, .slice A1 (((([] : List Drain) ++ a0.drains)).length) c1]] := H.stored 2 rfl S1
  replace R0 := H.ext
  refine LW.nil (hK2 _ _ ?_)
  refine CW.seq fun K3 hK3 => ?_
  refine CW.region ?_
  refine LW.pure rfl rfl (RV.loadA [.int .i64 a0.nodes, .int .i64 a0.from_, .int .i64 a0.to_, .slice A1 (((([] : List Drain) ++ a0.drains)).length) c1] Tk24 rfl (H.blk 2 rfl).cells rfl rfl) ?_
  refine LW.go rfl rfl (OW.store Tk24 rfl rfl (H.blk 1 rfl) (off := 0) (vs := [.int .i64 a0.nodes, .int .i64 a0.from_, .int .i64 a0.to_, .slice A1 (((([] : List Drain) ++ a0.drains)).length) c1]) rfl rfl rfl rfl rfl fun w6 S2 => ?_)
  replace H : Hp w w6 [.own A1 c1 52 3 (List.map encDrain ((([] : List Drain) ++ a0.drains))), .blk b2 24 [.int .i64 a0.nodes, .int .i64 a0.from_, .int .i64 a0.to_, .slice A1 (((([] : List Drain) ++ a0.drains)).length) c1], .blk b1 24 [.int .i64 a0.nodes, .int .i64 a0.from_, .int .i64 a0.to_, .slice A1 (((([] : List Drain) ++ a0.drains)).length) c1]] := H.stored 1 rfl S2
  replace R0 := H.ext
  refine LW.nil (hK3 _ _ ?_)
  refine CW.ret ?_
  obtain rfl := Option.some.inj F
  refine ⟨_, (ResOK.cell1 ⟨_, rfl, run_loadVar_agg Tk24 (H.blk 1 rfl).cells (us := [.int .i64 a0.nodes, .int .i64 a0.from_, .int .i64 a0.to_, .slice A1 (((([] : List Drain) ++ a0.drains)).length) c1]) rfl rfl⟩), ?_⟩
  replace H := H.pick (L' := [.own A1 c1 52 3 (List.map encDrain ((([] : List Drain) ++ a0.drains)))]) [0] (by decide) rfl
  replace R0 := H.ext
  exact ⟨A1, c1, (by first | rfl | (simp; done) | (simp; omega)), H⟩
set_option maxRecDepth 20000 in
set_option maxHeartbeats 1000000 in
theorem slices_Clone_Drain_ok {a0 : List Drain} {A_a0 : Option Addr} {c_a0 : Nat} {w : World} {res : List Drain} (h_a0 : Sl w A_a0 c_a0 3 (a0.map encDrain)) (F : slices_Clone_Drain a0 = some res) : Calls Try.prog 96 #[.slice A_a0 a0.length c_a0] w (fun e w' => ∃ (A0 : Option Addr) (c0 : Nat), e = .returned (.slice A0 res.length c0) ∧ Hp w w' [.own A0 c0 52 3 (List.map encDrain res)]) := by
  cases A_a0 with
  | none =>
    obtain rfl := Sl.none_nil h_a0
    refine calls_of_cw (args := [.slice none (([] : List Drain).length) c_a0]) Try.func96 rfl rfl rfl rfl ?_
    have H := Hp.start w
    have R0 := H.ext
    unfold slices_Clone_Drain at F
    obtain ⟨_, F⟩ := gd_some F
    refine CW.seq fun K1 hK1 => ?_
    refine CW.region ?_
    refine LW.pure rfl rfl (RV.assign rfl) ?_
    refine LW.nil (hK1 _ _ ?_)
    refine CW.seq fun K2 hK2 => ?_
    refine CW.seq fun K3 hK3 => ?_
    refine CW.region ?_
    refine LW.pure rfl rfl (RV.move rfl) ?_
    refine LW.pure rfl rfl (RV.eqnil Ts22 rfl rfl) ?_
    refine LW.nil (hK3 _ _ ?_)
    refine CW.condT rfl rfl ?_
    refine CW.seq fun K4 hK4 => ?_
    refine CW.region ?_
    refine LW.pure rfl rfl (RV.assign rfl) ?_
    refine LW.nil (hK4 _ _ ?_)
    refine CW.ret ?_
    obtain rfl := Option.some.inj F
    refine ⟨_, (ResOK.one rfl), ?_⟩
    replace H := H.nilOwn 52 3
    replace R0 := H.ext
    exact ⟨none, 0, (by first | rfl | (simp; done) | (simp; omega)), H⟩
  | some ad =>
    refine calls_of_cw (args := [.slice ((some ad)) a0.length c_a0]) Try.func96 rfl rfl rfl rfl ?_
    have H := Hp.start w
    have R0 := H.ext
    unfold slices_Clone_Drain at F
    refine CW.seq fun K1 hK1 => ?_
    refine CW.region ?_
    refine LW.pure rfl rfl (RV.assign rfl) ?_
    refine LW.nil (hK1 _ _ ?_)
    refine CW.seq fun K2 hK2 => ?_
    refine CW.seq fun K3 hK3 => ?_
    refine CW.region ?_
    refine LW.pure rfl rfl (RV.move rfl) ?_
    refine LW.pure rfl rfl (RV.eqnil Ts22 rfl rfl) ?_
    refine LW.nil (hK3 _ _ ?_)
    refine CW.condF rfl rfl ?_
    refine CW.skip (hK2 _ _ ?_)
    refine CW.seq fun K4 hK4 => ?_
    obtain ⟨hg1, F⟩ := gd_some F
    refine CW.region ?_
    refine LW.go rfl rfl (OW.buildSlice (e := 52) (vs := []) (cs := []) rfl (fun _ => by kernel_rfl) fun b2 w3 N2 => ?_)
    replace H := H.made' (k := 3) (t := 52) (enc := encDrain) (l := ([] : List Drain)) N2 N2.blk (fun _ => rfl) rfl (by first | decide | omega | (simp; done) | (simp; omega))
    replace R0 := H.ext
    refine LW.pure rfl rfl (RV.move rfl) ?_
    refine LW.go rfl rfl (OW.appendG (enc := encDrain) (l := ([] : List Drain)) (xs := a0) Ts22 (look_slice rfl (by first | rfl | (simp; done) | (simp; omega))) rfl (H.own 0 rfl) (h_a0.ext R0) (fun _ => rfl) rfl rfl hg1 (by decide) fun A2 c2 w4 O2 M2 D2 => ?_)
    replace H : Hp w w4 [.own A2 c2 52 3 (List.map encDrain ((([] : List Drain) ++ a0)))] := H.mod 0 rfl M2 O2 D2
    replace R0 := H.ext
    refine LW.pure rfl rfl (RV.assign rfl) ?_
    refine LW.nil (hK4 _ _ ?_)
    refine CW.ret ?_
    obtain rfl := Option.some.inj F
    refine ⟨_, (ResOK.one rfl), ?_⟩
    exact ⟨A2, c2, (by first | rfl | (simp; done) | (simp; omega)), H⟩
set_option maxRecDepth 20000 in
set_option maxHeartbeats 1000000 in
theorem drain_changed_ok {a0 : Net} {a1 : Int} {a2 : Int} {A_a0_drains : Option Addr} {c_a0_drains : Nat} {w : World} {res : Net} (h_a0_drains : Sl w A_a0_drains c_a0_drains 3 (a0.drains.map encDrain)) (F : drain_changed a0 a1 a2 = some res) : Calls Try.prog 80 #[.agg #[.int .i64 a0.nodes, .int .i64 a0.from_, .int .i64 a0.to_, .slice A_a0_drains a0.drains.length c_a0_drains], .int .i64 a1, .int .i64 a2] w (fun e w' => ∃ (A0_drains : Option Addr) (c0_drains : Nat), e = .returned (.agg #[.int .i64 res.nodes, .int .i64 res.from_, .int .i64 res.to_, .slice A0_drains res.drains.length c0_drains]) ∧ Hp w w' [.own A0_drains c0_drains 52 3 (List.map encDrain res.drains)]) := by
  refine calls_of_cw (args := [.agg #[.int .i64 a0.nodes, .int .i64 a0.from_, .int .i64 a0.to_, .slice A_a0_drains a0.drains.length c_a0_drains], .int .i64 a1, .int .i64 a2]) Try.func80 rfl rfl rfl rfl ?_
  have H := Hp.start w
  have R0 := H.ext
  unfold drain_changed at F
  refine CW.seq fun K1 hK1 => ?_
  refine CW.region ?_
  refine LW.go rfl rfl (OW.box rfl fun b1 w1 N1 => ?_)
  replace H := H.new N1 N1.blk
  replace R0 := H.ext
  refine LW.go rfl rfl (OW.alloc Tz24 fun b2 w2 N2 => ?_)
  replace H := H.new N2 N2.blk
  replace R0 := H.ext
  refine LW.nil (hK1 _ _ ?_)
  refine CW.seq fun K2 hK2 => ?_
  obtain ⟨r1, hr1, F⟩ := bnd_some F
  refine CW.region ?_
  refine LW.pure rfl rfl (RV.fieldAddr Tf24_3 rfl) ?_
  refine LW.pure rfl rfl (RV.load1 Tk22 rfl ((H.blk 1 rfl).cells.off 3) rfl) ?_
  refine LW.go rfl rfl (OW.call Tc96 rfl (slices_Clone_Drain_ok (a0 := a0.drains) (h_a0_drains.ext R0) hr1) ?_)
  rintro _ w3 ⟨A3_0, c3_0, rfl, E1⟩
  refine ⟨_, rfl, ?_⟩
  replace H : Hp w w3 [.own A3_0 c3_0 52 3 (List.map encDrain r1), .blk b2 24 [.int .i64 0, .int .i64 0, .int .i64 0, .slice none 0 0], .blk b1 24 [.int .i64 a0.nodes, .int .i64 a0.from_, .int .i64 a0.to_, .slice A_a0_drains a0.drains.length c_a0_drains]] := H.append E1
  replace R0 := H.ext
  refine LW.pure rfl rfl (RV.fieldAddr Tf24_3 rfl) ?_
  refine LW.go rfl rfl (OW.store Tk22 rfl rfl (H.blk 2 rfl) (off := 3) (vs := [.slice A3_0 r1.length c3_0]) rfl rfl rfl rfl rfl fun w4 S1 => ?_)
  replace H : Hp w w4 [.own A3_0 c3_0 52 3 (List.map encDrain r1), .blk b2 24 [.int .i64 0, .int .i64 0, .int .i64 0, .slice none 0 0], .blk b1 24 [.int .i64 a0.nodes, .int .i64 a0.from_, .int .i64 a0.to_, .slice A3_0 r1.length c3_0]] := H.stored 2 rfl S1
  replace R0 := H.ext
  refine LW.nil (hK2 _ _ ?_)
  refine CW.seq fun K3 hK3 => ?_
  obtain ⟨x1, hbx1, hx1, F⟩ := ix_some F
  refine CW.region ?_
  refine LW.pure rfl rfl (RV.fieldAddr Tf24_3 rfl) ?_
  refine LW.pure rfl rfl (RV.load1 Tk22 rfl ((H.blk 2 rfl).cells.off 3) rfl) ?_
  refine LW.pure rfl rfl (RV.move rfl) ?_
  refine LW.pure rfl rfl (RV.move rfl) ?_
  refine LW.pure rfl rfl (RV.indexAddr Ts22 rfl rfl hbx1 ((H.own 0 rfl).sl.addr_ hx1)) ?_
  refine LW.pure rfl rfl (RV.fieldAddr Tf52_2 rfl) ?_
  refine LW.go rfl rfl (OW.storeO (enc := encDrain) (vs := [.int .i64 a2]) 2 ((⟨x1.from_, x1.to_, a2⟩ : Drain)) Tk3 rfl rfl (H.own 0 rfl) (fun _ => rfl) rfl hx1 rfl rfl (by decide) rfl rfl fun w5 M1 O1 => ?_)
  replace H : Hp w w5 [.own A3_0 c3_0 52 3 (List.map encDrain ((r1.set (Int.toNat a1) ((⟨x1.from_, x1.to_, a2⟩ : Drain))))), .blk b2 24 [.int .i64 0, .int .i64 0, .int .i64 0, .slice none 0 0], .blk b1 24 [.int .i64 a0.nodes, .int .i64 a0.from_, .int .i64 a0.to_, .slice A3_0 r1.length c3_0]] := H.mod 0 rfl M1 O1 (.inl rfl)
  replace R0 := H.ext
  refine LW.nil (hK3 _ _ ?_)
  refine CW.seq fun K4 hK4 => ?_
  refine CW.region ?_
  refine LW.pure rfl rfl (RV.loadA [.int .i64 a0.nodes, .int .i64 a0.from_, .int .i64 a0.to_, .slice A3_0 r1.length c3_0] Tk24 rfl (H.blk 2 rfl).cells rfl rfl) ?_
  refine LW.go rfl rfl (OW.store Tk24 rfl rfl (H.blk 1 rfl) (off := 0) (vs := [.int .i64 a0.nodes, .int .i64 a0.from_, .int .i64 a0.to_, .slice A3_0 r1.length c3_0]) rfl rfl rfl rfl rfl fun w6 S2 => ?_)
  replace H : Hp w w6 [.own A3_0 c3_0 52 3 (List.map encDrain ((r1.set (Int.toNat a1) ((⟨x1.from_, x1.to_, a2⟩ : Drain))))), .blk b2 24 [.int .i64 a0.nodes, .int .i64 a0.from_, .int .i64 a0.to_, .slice A3_0 r1.length c3_0], .blk b1 24 [.int .i64 a0.nodes, .int .i64 a0.from_, .int .i64 a0.to_, .slice A3_0 r1.length c3_0]] := H.stored 1 rfl S2
  replace R0 := H.ext
  refine LW.nil (hK4 _ _ ?_)
  refine CW.ret ?_
  obtain rfl := Option.some.inj F
  refine ⟨_, (ResOK.cell1 ⟨_, rfl, run_loadVar_agg Tk24 (H.blk 1 rfl).cells (us := [.int .i64 a0.nodes, .int .i64 a0.from_, .int .i64 a0.to_, .slice A3_0 r1.length c3_0]) rfl rfl⟩), ?_⟩
  replace H := H.pick (L' := [.own A3_0 c3_0 52 3 (List.map encDrain ((r1.set (Int.toNat a1) ((⟨x1.from_, x1.to_, a2⟩ : Drain)))))]) [0] (by decide) rfl
  replace R0 := H.ext
  exact ⟨A3_0, c3_0, (by first | rfl | (simp; done) | (simp; omega)), H⟩
end Go.D2

set_option linter.unusedVariables false
set_option linter.unusedSimpArgs false
namespace Go.D2
open Go.Tb Go.Proofs Go.RowKit
theorem Tc40 : callable Try.prog 40 = true := by kernel_rfl
theorem Tc43 : callable Try.prog 43 = true := by kernel_rfl
theorem Tc81 : callable Try.prog 81 = true := by kernel_rfl
theorem Tc82 : callable Try.prog 82 = true := by kernel_rfl
theorem Tc83 : callable Try.prog 83 = true := by kernel_rfl
theorem Tz3 : tyZ Try.prog 3 = some (.int .i64 0) := by kernel_rfl
set_option maxRecDepth 20000 in
set_option maxHeartbeats 1000000 in
theorem ref02_wide_ok {a0 : Net} {a1 : Int} {a2 : Int} {A_a0_drains : Option Addr} {c_a0_drains : Nat} {w : World} {res : Net} (h_a0_drains : Sl w A_a0_drains c_a0_drains 3 (a0.drains.map encDrain)) (F : ref02_wide a0 a1 a2 = some res) : Calls Try.prog 81 #[.agg #[.int .i64 a0.nodes, .int .i64 a0.from_, .int .i64 a0.to_, .slice A_a0_drains a0.drains.length c_a0_drains], .int .i64 a1, .int .i64 a2] w (fun e w' => ∃ (A0_drains : Option Addr) (c0_drains : Nat), e = .returned (.agg #[.int .i64 res.nodes, .int .i64 res.from_, .int .i64 res.to_, .slice A0_drains res.drains.length c0_drains]) ∧ Hp w w' [.own A0_drains c0_drains 52 3 (List.map encDrain res.drains)]) := by
  refine calls_of_cw (args := [.agg #[.int .i64 a0.nodes, .int .i64 a0.from_, .int .i64 a0.to_, .slice A_a0_drains a0.drains.length c_a0_drains], .int .i64 a1, .int .i64 a2]) Try.func81 rfl rfl rfl rfl ?_
  have H := Hp.start w
  have R0 := H.ext
  unfold ref02_wide at F
  refine CW.seq fun K1 hK1 => ?_
  refine CW.region ?_
  refine LW.go rfl rfl (OW.box rfl fun b1 w1 N1 => ?_)
  replace H := H.new N1 N1.blk
  replace R0 := H.ext
  refine LW.go rfl rfl (OW.alloc Tz24 fun b2 w2 N2 => ?_)
  replace H := H.new N2 N2.blk
  replace R0 := H.ext
  refine LW.nil (hK1 _ _ ?_)
  refine CW.seq fun K2 hK2 => ?_
  obtain ⟨r1, hr1, F⟩ := bnd_some F
  refine CW.region ?_
  refine LW.pure rfl rfl (RV.loadA [.int .i64 a0.nodes, .int .i64 a0.from_, .int .i64 a0.to_, .slice A_a0_drains a0.drains.length c_a0_drains] Tk24 rfl (H.blk 1 rfl).cells rfl rfl) ?_
  refine LW.go rfl rfl (OW.call Tc40 rfl (ref02_Copy_ok (a0 := a0) (h_a0_drains.ext R0) hr1) ?_)
  rintro _ w3 ⟨A3_0_drains, c3_0_drains, rfl, E1⟩
  refine ⟨_, rfl, ?_⟩
  replace H : Hp w w3 [.own A3_0_drains c3_0_drains 52 3 (List.map encDrain r1.drains), .blk b2 24 [.int .i64 0, .int .i64 0, .int .i64 0, .slice none 0 0], .blk b1 24 [.int .i64 a0.nodes, .int .i64 a0.from_, .int .i64 a0.to_, .slice A_a0_drains a0.drains.length c_a0_drains]] := H.append E1
  replace R0 := H.ext
  refine LW.go rfl rfl (OW.alloc Tz24 fun b3 w4 N3 => ?_)
  replace H := H.new N3 N3.blk
  replace R0 := H.ext
  refine LW.go rfl rfl (OW.store Tk24 rfl rfl (H.blk 0 rfl) (off := 0) (vs := [.int .i64 r1.nodes, .int .i64 r1.from_, .int .i64 r1.to_, .slice A3_0_drains r1.drains.length c3_0_drains]) rfl rfl rfl rfl rfl fun w5 S1 => ?_)
  replace H : Hp w w5 [.blk b3 24 [.int .i64 r1.nodes, .int .i64 r1.from_, .int .i64 r1.to_, .slice A3_0_drains r1.drains.length c3_0_drains], .own A3_0_drains c3_0_drains 52 3 (List.map encDrain r1.drains), .blk b2 24 [.int .i64 0, .int .i64 0, .int .i64 0, .slice none 0 0], .blk b1 24 [.int .i64 a0.nodes, .int .i64 a0.from_, .int .i64 a0.to_, .slice A_a0_drains a0.drains.length c_a0_drains]] := H.stored 0 rfl S1
  replace R0 := H.ext
  refine LW.nil (hK2 _ _ ?_)
  refine CW.seq fun K3 hK3 => ?_
  obtain ⟨x1, hbx1, hx1, F⟩ := ix_some F
  refine CW.region ?_
  refine LW.pure rfl rfl (RV.fieldAddr Tf24_3 rfl) ?_
  refine LW.pure rfl rfl (RV.load1 Tk22 rfl ((H.blk 0 rfl).cells.off 3) rfl) ?_
  refine LW.pure rfl rfl (RV.move rfl) ?_
  refine LW.pure rfl rfl (RV.move rfl) ?_
  refine LW.pure rfl rfl (RV.indexAddr Ts22 rfl rfl hbx1 ((H.own 1 rfl).sl.addr_ hx1)) ?_
  refine LW.pure rfl rfl (RV.fieldAddr Tf52_2 rfl) ?_
  refine LW.go rfl rfl (OW.storeO (enc := encDrain) (vs := [.int .i64 a2]) 2 ((⟨x1.from_, x1.to_, a2⟩ : Drain)) Tk3 rfl rfl (H.own 1 rfl) (fun _ => rfl) rfl hx1 rfl rfl (by decide) rfl rfl fun w6 M1 O1 => ?_)
  replace H : Hp w w6 [.blk b3 24 [.int .i64 r1.nodes, .int .i64 r1.from_, .int .i64 r1.to_, .slice A3_0_drains r1.drains.length c3_0_drains], .own A3_0_drains c3_0_drains 52 3 (List.map encDrain ((r1.drains.set (Int.toNat a1) ((⟨x1.from_, x1.to_, a2⟩ : Drain))))), .blk b2 24 [.int .i64 0, .int .i64 0, .int .i64 0, .slice none 0 0], .blk b1 24 [.int .i64 a0.nodes, .int .i64 a0.from_, .int .i64 a0.to_, .slice A_a0_drains a0.drains.length c_a0_drains]] := H.mod 1 rfl M1 O1 (.inl rfl)
  replace R0 := H.ext
  refine LW.nil (hK3 _ _ ?_)
  refine CW.seq fun K4 hK4 => ?_
  refine CW.region ?_
  refine LW.pure rfl rfl (RV.loadA [.int .i64 r1.nodes, .int .i64 r1.from_, .int .i64 r1.to_, .slice A3_0_drains r1.drains.length c3_0_drains] Tk24 rfl (H.blk 0 rfl).cells rfl rfl) ?_
  refine LW.go rfl rfl (OW.store Tk24 rfl rfl (H.blk 2 rfl) (off := 0) (vs := [.int .i64 r1.nodes, .int .i64 r1.from_, .int .i64 r1.to_, .slice A3_0_drains r1.drains.length c3_0_drains]) rfl rfl rfl rfl rfl fun w7 S2 => ?_)
  replace H : Hp w w7 [.blk b3 24 [.int .i64 r1.nodes, .int .i64 r1.from_, .int .i64 r1.to_, .slice A3_0_drains r1.drains.length c3_0_drains], .own A3_0_drains c3_0_drains 52 3 (List.map encDrain ((r1.drains.set (Int.toNat a1) ((⟨x1.from_, x1.to_, a2⟩ : Drain))))), .blk b2 24 [.int .i64 r1.nodes, .int .i64 r1.from_, .int .i64 r1.to_, .slice A3_0_drains r1.drains.length c3_0_drains], .blk b1 24 [.int .i64 a0.nodes, .int .i64 a0.from_, .int .i64 a0.to_, .slice A_a0_drains a0.drains.length c_a0_drains]] := H.stored 2 rfl S2
  replace R0 := H.ext
  refine LW.nil (hK4 _ _ ?_)
  refine CW.ret ?_
  obtain rfl := Option.some.inj F
  refine ⟨_, (ResOK.cell1 ⟨_, rfl, run_loadVar_agg Tk24 (H.blk 2 rfl).cells (us := [.int .i64 r1.nodes, .int .i64 r1.from_, .int .i64 r1.to_, .slice A3_0_drains r1.drains.length c3_0_drains]) rfl rfl⟩), ?_⟩
  replace H := H.pick (L' := [.own A3_0_drains c3_0_drains 52 3 (List.map encDrain ((r1.drains.set (Int.toNat a1) ((⟨x1.from_, x1.to_, a2⟩ : Drain)))))]) [1] (by decide) rfl
  replace R0 := H.ext
  exact ⟨A3_0_drains, c3_0_drains, (by first | rfl | (simp; done) | (simp; omega)), H⟩
set_option maxRecDepth 20000 in
set_option maxHeartbeats 1000000 in
theorem drain_Wanted_1_ok {cap0 : Net} {cap1 : Int} {a0 : Int} {A_cap0_drains : Option Addr} {c_cap0_drains : Nat} {b_cap0 : Nat} {b_cap1 : Nat} {w : World} {res : Bool} (h_cap0_drains : Sl w A_cap0_drains c_cap0_drains 3 (cap0.drains.map encDrain)) (hc_cap0 : Cells w ⟨b_cap0, 0, none⟩ [.int .i64 cap0.nodes, .int .i64 cap0.from_, .int .i64 cap0.to_, .slice A_cap0_drains cap0.drains.length c_cap0_drains]) (hc_cap1 : Cells w ⟨b_cap1, 0, none⟩ [.int .i64 cap1]) (F : drain_Wanted_1 cap0 cap1 a0 = some res) : Calls Try.prog 83 #[.int .i64 a0, .pointer (some (⟨b_cap0, 0, none⟩)), .pointer (some (⟨b_cap1, 0, none⟩))] w (Rt w (.bool res)) := by
  refine calls_of_cw (args := [.int .i64 a0, .pointer (some (⟨b_cap0, 0, none⟩)), .pointer (some (⟨b_cap1, 0, none⟩))]) Try.func83 rfl rfl rfl rfl ?_
  have H := Hp.start w
  have R0 := H.ext
  unfold drain_Wanted_1 at F
  refine CW.seq fun K1 hK1 => ?_
  refine CW.region ?_
  refine LW.pure rfl rfl (RV.assign rfl) ?_
  refine LW.nil (hK1 _ _ ?_)
  refine CW.seq fun K2 hK2 => ?_
  obtain ⟨x1, hbx1, hx1, F⟩ := ix_some F
  obtain ⟨hg1, F⟩ := gd_some F
  obtain ⟨r1, hr1, F⟩ := bnd_some F
  obtain ⟨r2, hr2, F⟩ := bnd_some F
  refine CW.draw [] (fun _ => True) (.cons 0 1 (.cons 1 1 (.cons 2 1 (.cons 3 1 (.cons 4 1 (.cons 5 1 (.cons 6 1 (.cons 7 1 (.cons 8 1 (.cons 11 1 (.cons 9 0 (.cons 10 0 (.cons 12 1 (.cons 13 1 .nil)))))))))))))) mixed (by kernel_rfl) fun w1 E1 => ?_
  replace H := H.grow E1
  replace R0 := H.ext
  refine DW.fix rfl rfl rfl (fun _ EQ => RV.loadA [.int .i64 cap0.nodes, .int .i64 cap0.from_, .int .i64 cap0.to_, .slice A_cap0_drains cap0.drains.length c_cap0_drains] Tk24 rfl (hc_cap0.ext (R0.trans EQ)) rfl rfl) ?_
  refine DW.fix rfl rfl rfl (fun _ EQ => RV.move rfl) ?_
  refine DW.fix rfl rfl rfl (fun _ EQ => RV.fieldAddr Tf24_3 rfl) ?_
  refine DW.fix rfl rfl rfl (fun _ EQ => RV.load1 Tk22 rfl ((hc_cap0.ext (R0.trans EQ)).off 3) rfl) ?_
  refine DW.fix rfl rfl rfl (fun _ EQ => RV.move rfl) ?_
  refine DW.fix rfl rfl rfl (fun _ EQ => RV.indexAddr Ts22 rfl rfl hbx1 (h_cap0_drains.addr_ hx1)) ?_
  refine DW.fix rfl rfl rfl (fun _ EQ => RV.fieldAddr Tf52_2 rfl) ?_
  refine DW.fix rfl rfl rfl (fun _ EQ => RV.load1 Tk3 rfl (((h_cap0_drains.at_ hx1).ext (R0.trans EQ)).off 2) rfl) ?_
  refine DW.fix rfl rfl rfl (fun _ EQ => RV.add rfl rfl hg1) ?_
  refine DW.fix rfl rfl rfl (fun _ EQ => RV.load1 Tk3 rfl (hc_cap1.ext (R0.trans EQ)) rfl) ?_
  refine DW.sole rfl rfl rfl (OW.call Tc80 rfl (drain_changed_ok (a0 := cap0) (a1 := a0) (a2 := x1.width + 1) (h_cap0_drains.ext R0) hr1) ?_)
  rintro _ w2 ⟨A5_0_drains, c5_0_drains, rfl, E2⟩
  refine ⟨_, rfl, fun _ => E2.ext, ModX.ext E2.ext, ?_⟩
  replace H : Hp w w2 [.own A5_0_drains c5_0_drains 52 3 (List.map encDrain r1.drains)] := H.append E2
  replace R0 := H.ext
  refine DW.sole rfl rfl rfl (OW.call Tc56 rfl (drain_most_ok (a0 := r1) (H.own 0 rfl).sl hr2) ?_)
  rintro _ w3 ⟨rfl, E3⟩
  refine ⟨_, rfl, fun _ => E3, ModX.ext E3, ?_⟩
  replace H := H.grow E3
  replace R0 := H.ext
  refine DW.fix rfl rfl rfl (fun _ EQ => RV.gtr rfl rfl) ?_
  refine DW.fix rfl rfl rfl (fun _ EQ => RV.assign rfl) ?_
  refine DW.nil (hK2 _ _ ?_)
  refine CW.ret ?_
  obtain rfl := Option.some.inj F
  refine ⟨_, (ResOK.one rfl), ?_⟩
  refine ⟨(by first | rfl | simp), R0⟩
set_option maxRecDepth 20000 in
set_option maxHeartbeats 1000000 in
theorem drain_those_ok {a0 : Net} {a1 : Int → Option Bool} {A_a0_drains : Option Addr} {c_a0_drains : Nat} {f_a1 : Nat} {p_a1 : Array Value} {q_a1 : Array Value} {w : World} {res : (List Int)} (h_a0_drains : Sl w A_a0_drains c_a0_drains 3 (a0.drains.map encDrain)) (h_a1 : ∀ (x0 : Int) (r : Bool), a1 x0 = some r → ∀ w1, Ext w w1 → CallsV Try.prog f_a1 p_a1 q_a1 #[.int .i64 x0] w1 (Rt w1 (.bool r))) (F : drain_those a0 a1 = some res) : Calls Try.prog 82 #[.agg #[.int .i64 a0.nodes, .int .i64 a0.from_, .int .i64 a0.to_, .slice A_a0_drains a0.drains.length c_a0_drains], .func (.func f_a1) p_a1 q_a1] w (fun e w' => ∃ (A1 : Option Addr) (c1 : Nat), e = .returned (.slice A1 res.length c1) ∧ Hp w w' [.own A1 c1 3 1 (List.map encN res)]) := by
  refine calls_of_cw (args := [.agg #[.int .i64 a0.nodes, .int .i64 a0.from_, .int .i64 a0.to_, .slice A_a0_drains a0.drains.length c_a0_drains], .func (.func f_a1) p_a1 q_a1]) Try.func82 rfl rfl rfl rfl ?_
  have H := Hp.start w
  have R0 := H.ext
  unfold drain_those at F
  refine CW.seq fun K1 hK1 => ?_
  refine CW.region ?_
  refine LW.go rfl rfl (OW.box rfl fun b1 w2 N1 => ?_)
  replace H := H.new N1 N1.blk
  replace R0 := H.ext
  refine LW.pure rfl rfl (RV.assign rfl) ?_
  refine LW.nil (hK1 _ _ ?_)
  refine CW.seq fun K2 hK2 => ?_
  refine CW.region ?_
  refine LW.pure rfl rfl (RV.assign rfl) ?_
  refine LW.nil (hK2 _ _ ?_)
  refine CW.seqJ (fun ρ wl1 => (∃ (l1 : List Int) (Al1 : Option Addr) (cl1 : Nat), drain_those_k1 l1 = some res ∧ ρ = [(4, .slice none 0 0), (5, .slice Al1 l1.length cl1)] ∧ Hp w wl1 [.own Al1 cl1 3 1 (List.map encN l1)])) ?_ ?_
  ·
    rintro _ wl1 ⟨l1, Al1, cl1, F, rfl, H⟩
    have R0 := H.ext
    unfold drain_those_k1 at F
    refine CW.seq fun K3 hK3 => ?_
    refine CW.region ?_
    refine LW.pure rfl rfl (RV.move rfl) ?_
    refine LW.pure rfl rfl (RV.assign rfl) ?_
    refine LW.nil (hK3 _ _ ?_)
    refine CW.ret ?_
    obtain rfl := Option.some.inj F
    refine ⟨_, (ResOK.one rfl), ?_⟩
    exact ⟨Al1, cl1, (by first | rfl | (simp; done) | (simp; omega)), H⟩
  ·
    intro K4 hK4 jK74
    refine CW.seq fun K5 hK5 => ?_
    refine CW.region ?_
    refine LW.pure rfl rfl (RV.fieldAddr Tf24_3 rfl) ?_
    refine LW.pure rfl rfl (RV.load1 Tk22 rfl ((H.blk 0 rfl).cells.off 3) rfl) ?_
    refine LW.pure rfl rfl (RV.len Ts22 rfl) ?_
    refine LW.pure rfl rfl (RV.move rfl) ?_
    refine LW.nil (hK5 _ _ ?_)
    refine CW.block ?_
    replace H := H.nilOwn 3 1
    replace R0 := H.ext
    replace H := H.pick (L' := [.own none 0 3 1 (List.map encN (([] : List Int)))]) [0] (by decide) rfl
    replace R0 := H.ext
    refine CW.loop (fun meas ρ wl2 => ∃ (t10_1 : Int) (l3 : List Int) (Al3 : Option Addr) (cl3 : Nat), drain_those_L1 a0 a1 meas t10_1 l3 = some res ∧ ρ = [(1, .func (.func f_a1) p_a1 q_a1), (4, .slice none 0 0), (5, .slice Al3 l3.length cl3), (9, .int .i64 ((a0.drains.length : Int))), (10, .int .i64 t10_1)] ∧ Hp w wl2 [.own Al3 cl3 3 1 (List.map encN l3)]) FU ⟨_, ?_, ((0 : Int)), (([] : List Int)), none, 0, F, rfl, H⟩ ?_
    · exact ⟨rfl, rfl, (look_slice rfl (by first | rfl | (simp; done) | (simp; omega))), rfl, rfl, trivial⟩
    rintro mk1 _ wl2 ⟨t10_1, l3, Al3, cl3, F, rfl, H⟩
    have R0 := H.ext
    replace F := drain_those_L1_s F
    obtain ⟨mk1, rfl, F⟩ := F
    generalize hrec1 : drain_those_L1 a0 a1 mk1 = rec1 at F
    unfold drain_those_B1 at F
    refine CW.seq fun K6 hK6 => ?_
    refine CW.region ?_
    refine LW.pure rfl rfl (RV.lss rfl rfl) ?_
    refine LW.nil (hK6 _ _ ?_)
    refine CW.seq fun K7 hK7 => ?_
    by_cases hp1 : t10_1 < ((a0.drains.length : Int))
    ·
      replace F := ite_y hp1 F
      have hq1 := dec_t hp1
      refine CW.condT rfl hq1 ?_
      refine CW.skip (hK7 _ _ ?_)
      refine CW.seqJ (fun ρ wl3 => (∃ (l2 : List Int) (Al2 : Option Addr) (cl2 : Nat), drain_those_k2 t10_1 rec1 l2 = some res ∧ ρ = [(1, .func (.func f_a1) p_a1 q_a1), (4, .slice none 0 0), (5, .slice Al2 l2.length cl2), (9, .int .i64 ((a0.drains.length : Int))), (10, .int .i64 t10_1)] ∧ Hp w wl3 [.own Al2 cl2 3 1 (List.map encN l2)])) ?_ ?_
      ·
        rintro _ wl3 ⟨l2, Al2, cl2, F, rfl, H⟩
        have R0 := H.ext
        unfold drain_those_k2 at F
        obtain ⟨hg1, F⟩ := gd_some F
        refine CW.region ?_
        refine LW.pure rfl rfl (RV.add rfl rfl hg1) ?_
        refine LW.pure rfl rfl (RV.move rfl) ?_
        refine LW.nil ?_
        subst hrec1
        refine ⟨mk1, Nat.lt_succ_self _, _, ?_, (t10_1 + 1), l2, Al2, cl2, F, rfl, H⟩
        exact ⟨rfl, rfl, (look_slice rfl (by first | rfl | (simp; done) | (simp; omega))), rfl, rfl, trivial⟩
      ·
        intro K8 hK8 jK94
        refine CW.block ?_
        refine CW.seq fun K9 hK9 => ?_
        refine CW.region ?_
        refine LW.pure rfl rfl (RV.move rfl) ?_
        refine LW.pure rfl rfl (RV.assign rfl) ?_
        refine LW.nil (hK9 _ _ ?_)
        refine CW.seq fun K10 hK10 => ?_
        obtain ⟨r1, hr1, F⟩ := bnd_some F
        refine CW.region ?_
        refine LW.pure rfl rfl (RV.move rfl) ?_
        refine LW.pure rfl rfl (RV.move rfl) ?_
        refine LW.go rfl rfl (OW.callV2 rfl rfl rfl (h_a1 _ _ hr1 _ R0) ?_)
        rintro _ w3 ⟨rfl, E1⟩
        refine ⟨_, rfl, ?_⟩
        replace H := H.grow E1
        replace R0 := H.ext
        refine LW.nil (hK10 _ _ ?_)
        by_cases hp2 : r1 = true
        ·
          replace F := ite_y hp2 F
          have hq2 : r1 = true := hp2
          refine CW.condT rfl hq2 ?_
          obtain ⟨hg2, F⟩ := gd_some F
          refine CW.region ?_
          refine LW.pure rfl rfl (RV.move rfl) ?_
          refine LW.pure rfl rfl (RV.move rfl) ?_
          refine LW.go rfl rfl (OW.buildSlice (e := 3) (vs := [.int .i64 t10_1]) (cs := [.int .i64 t10_1]) rfl (fun _ => by kernel_rfl) fun b2 w4 N2 => ?_)
          replace H := H.made' (k := 1) (t := 3) (enc := encN) (l := ([t10_1] : List Int)) N2 N2.blk (fun _ => rfl) rfl (by first | decide | omega | (simp; done) | (simp; omega))
          replace R0 := H.ext
          refine LW.go rfl rfl (OW.appendG (enc := encN) (l := l3) (xs := ([t10_1] : List Int)) Ts30 rfl (look_slice rfl (by first | rfl | (simp; done) | (simp; omega))) (H.own 1 rfl) (H.own 0 rfl).sl (fun _ => rfl) rfl rfl hg2 (by decide) fun A2 c2 w5 O1 M1 D1 => ?_)
          replace H : Hp w w5 [.own (some ⟨b2, 0, none⟩) ((([t10_1] : List Int)).length) 3 1 (List.map encN (([t10_1] : List Int))), .own A2 c2 3 1 (List.map encN ((l3 ++ ([t10_1] : List Int))))] := H.mod 1 rfl M1 O1 D1
          replace R0 := H.ext
          refine LW.pure rfl rfl (RV.assign rfl) ?_
          replace H := H.pick (L' := [.own A2 c2 3 1 (List.map encN ((l3 ++ ([t10_1] : List Int))))]) [1] (by decide) rfl
          replace R0 := H.ext
          refine LW.nil (jK94 _ _ ⟨_, ?_, ⟨((l3 ++ ([t10_1] : List Int))), A2, c2, F, rfl, H⟩⟩)
          exact ⟨rfl, rfl, (look_slice rfl (by first | rfl | (simp; done) | (simp; omega))), rfl, rfl, trivial⟩
        ·
          replace F := ite_n hp2 F
          have hq2 : r1 = false := raw_f hp2
          refine CW.condF rfl hq2 ?_
          refine CW.skip (jK94 _ _ ⟨_, ?_, ⟨l3, Al3, cl3, F, rfl, H⟩⟩)
          exact ⟨rfl, rfl, (look_slice rfl (by first | rfl | (simp; done) | (simp; omega))), rfl, rfl, trivial⟩
    ·
      replace F := ite_n hp1 F
      have hq1 := dec_f hp1
      refine CW.condF rfl hq1 ?_
      refine CW.exit (jK74 _ _ ⟨_, ?_, ⟨l3, Al3, cl3, F, rfl, H⟩⟩)
      exact ⟨rfl, (look_slice rfl (by first | rfl | (simp; done) | (simp; omega))), trivial⟩
set_option maxRecDepth 20000 in
set_option maxHeartbeats 1000000 in
theorem drain_Wanted_ok {a0 : Net} {A_a0_drains : Option Addr} {c_a0_drains : Nat} {w : World} {res : (List Int) × Int} (h_a0_drains : Sl w A_a0_drains c_a0_drains 3 (a0.drains.map encDrain)) (F : drain_Wanted a0 = some res) : Calls Try.prog 43 #[.agg #[.int .i64 a0.nodes, .int .i64 a0.from_, .int .i64 a0.to_, .slice A_a0_drains a0.drains.length c_a0_drains]] w (fun e w' => ∃ (A0 : Option Addr) (c0 : Nat), e = .returned (.tuple #[.slice A0 res.1.length c0, .int .i64 res.2]) ∧ Hp w w' [.own A0 c0 3 1 (List.map encN res.1)]) := by
  refine calls_of_cw (args := [.agg #[.int .i64 a0.nodes, .int .i64 a0.from_, .int .i64 a0.to_, .slice A_a0_drains a0.drains.length c_a0_drains]]) Try.func43 rfl rfl rfl rfl ?_
  have H := Hp.start w
  have R0 := H.ext
  unfold drain_Wanted at F
  refine CW.seq fun K1 hK1 => ?_
  refine CW.region ?_
  refine LW.go rfl rfl (OW.box rfl fun b1 w1 N1 => ?_)
  replace H := H.new N1 N1.blk
  replace R0 := H.ext
  refine LW.pure rfl rfl (RV.assign rfl) ?_
  refine LW.pure rfl rfl (RV.assign rfl) ?_
  refine LW.nil (hK1 _ _ ?_)
  refine CW.seq fun K2 hK2 => ?_
  refine CW.seq fun K3 hK3 => ?_
  obtain ⟨r1, hr1, F⟩ := bnd_some F
  refine CW.region ?_
  refine LW.pure rfl rfl (RV.loadA [.int .i64 a0.nodes, .int .i64 a0.from_, .int .i64 a0.to_, .slice A_a0_drains a0.drains.length c_a0_drains] Tk24 rfl (H.blk 0 rfl).cells rfl rfl) ?_
  refine LW.go rfl rfl (OW.call Tc26 rfl (drain_Validate_ok (a0 := a0) (h_a0_drains.ext R0) hr1) ?_)
  rintro _ w2 ⟨rfl, E1⟩
  refine ⟨_, rfl, ?_⟩
  replace H := H.grow E1
  replace R0 := H.ext
  refine LW.pure rfl rfl (RV.assign rfl) ?_
  refine LW.nil (hK3 _ _ ?_)
  refine CW.seq fun K4 hK4 => ?_
  refine CW.region ?_
  refine LW.pure rfl rfl (RV.move rfl) ?_
  refine LW.pure rfl rfl (RV.nei rfl rfl) ?_
  refine LW.nil (hK4 _ _ ?_)
  by_cases hp1 : r1 = 0
  ·
    replace F := ite_y hp1 F
    have hq1 := dec_t hp1
    refine CW.condF rfl (not_f hq1) ?_
    refine CW.skip (hK2 _ _ ?_)
    refine CW.seq fun K5 hK5 => ?_
    obtain ⟨r2, hr2, F⟩ := bnd_some F
    refine CW.region ?_
    refine LW.pure rfl rfl (RV.loadA [.int .i64 a0.nodes, .int .i64 a0.from_, .int .i64 a0.to_, .slice A_a0_drains a0.drains.length c_a0_drains] Tk24 rfl (H.blk 0 rfl).cells rfl rfl) ?_
    refine LW.go rfl rfl (OW.call Tc56 rfl (drain_most_ok (a0 := a0) (h_a0_drains.ext R0) hr2) ?_)
    rintro _ w3 ⟨rfl, E2⟩
    refine ⟨_, rfl, ?_⟩
    replace H := H.grow E2
    replace R0 := H.ext
    refine LW.go rfl rfl (OW.alloc Tz3 fun b2 w4 N2 => ?_)
    replace H := H.new N2 N2.blk
    replace R0 := H.ext
    refine LW.go rfl rfl (OW.store Tk3 rfl rfl (H.blk 0 rfl) (off := 0) (vs := [.int .i64 r2]) rfl rfl rfl rfl rfl fun w5 S1 => ?_)
    replace H : Hp w w5 [.blk b2 3 [.int .i64 r2], .blk b1 24 [.int .i64 a0.nodes, .int .i64 a0.from_, .int .i64 a0.to_, .slice A_a0_drains a0.drains.length c_a0_drains]] := H.stored 0 rfl S1
    replace R0 := H.ext
    refine LW.nil (hK5 _ _ ?_)
    refine CW.seq fun K6 hK6 => ?_
    obtain ⟨r3, hr3, F⟩ := bnd_some F
    refine CW.region ?_
    refine LW.pure rfl rfl (RV.loadA [.int .i64 a0.nodes, .int .i64 a0.from_, .int .i64 a0.to_, .slice A_a0_drains a0.drains.length c_a0_drains] Tk24 rfl (H.blk 1 rfl).cells rfl rfl) ?_
    refine LW.pure rfl rfl (RV.makeFunc (fs := []) (cs := [.pointer (some (⟨b1, 0, none⟩)), .pointer (some (⟨b2, 0, none⟩))]) rfl rfl) ?_
    refine LW.go rfl rfl (OW.call Tc82 rfl (drain_those_ok (a0 := a0) (a1 := (fun x0 => drain_Wanted_1 a0 r2 x0)) (h_a0_drains.ext R0) (fun x0 r hF w6 hE => CallsV.cap Tc83 (by simp) (drain_Wanted_1_ok (cap0 := a0) (cap1 := r2) (a0 := x0) ((h_a0_drains.ext R0).ext hE) ((H.blk 1 rfl).cells.ext hE) ((H.blk 0 rfl).cells.ext hE) hF)) hr3) ?_)
    rintro _ w7 ⟨A9_0, c9_0, rfl, E3⟩
    refine ⟨_, rfl, ?_⟩
    replace H : Hp w w7 [.own A9_0 c9_0 3 1 (List.map encN r3), .blk b2 3 [.int .i64 r2], .blk b1 24 [.int .i64 a0.nodes, .int .i64 a0.from_, .int .i64 a0.to_, .slice A_a0_drains a0.drains.length c_a0_drains]] := H.append E3
    replace R0 := H.ext
    refine LW.pure rfl rfl (RV.assign rfl) ?_
    refine LW.pure rfl rfl (RV.assign rfl) ?_
    refine LW.nil (hK6 _ _ ?_)
    refine CW.ret ?_
    obtain rfl := Option.some.inj F
    refine ⟨_, (ResOK.two rfl rfl), ?_⟩
    replace H := H.pick (L' := [.own A9_0 c9_0 3 1 (List.map encN r3)]) [0] (by decide) rfl
    replace R0 := H.ext
    exact ⟨A9_0, c9_0, (by first | rfl | (simp; done) | (simp; omega)), H⟩
  ·
    replace F := ite_n hp1 F
    have hq1 := dec_f hp1
    refine CW.condT rfl (not_t hq1) ?_
    refine CW.seq fun K7 hK7 => ?_
    refine CW.region ?_
    refine LW.pure rfl rfl (RV.move rfl) ?_
    refine LW.pure rfl rfl (RV.assign rfl) ?_
    refine LW.pure rfl rfl (RV.assign rfl) ?_
    refine LW.nil (hK7 _ _ ?_)
    refine CW.ret ?_
    obtain rfl := Option.some.inj F
    refine ⟨_, (ResOK.two rfl rfl), ?_⟩
    replace H := H.nilOwn 3 1
    replace R0 := H.ext
    replace H := H.pick (L' := [.own none 0 3 1 (List.map encN (([] : List Int)))]) [0] (by decide) rfl
    replace R0 := H.ext
    exact ⟨none, 0, (by first | rfl | (simp; done) | (simp; omega)), H⟩
end Go.D2

set_option linter.unusedVariables false
set_option linter.unusedSimpArgs false
namespace Go.D2
open Go.Tb Go.Proofs Go.RowKit
theorem Tc84 : callable Try.prog 84 = true := by kernel_rfl
theorem Tc85 : callable Try.prog 85 = true := by kernel_rfl
set_option maxRecDepth 20000 in
set_option maxHeartbeats 1000000 in
theorem drain_Critical_1_ok {cap0 : Net} {cap1 : Int} {a0 : Int} {A_cap0_drains : Option Addr} {c_cap0_drains : Nat} {b_cap0 : Nat} {b_cap1 : Nat} {w : World} {res : Bool} (h_cap0_drains : Sl w A_cap0_drains c_cap0_drains 3 (cap0.drains.map encDrain)) (hc_cap0 : Cells w ⟨b_cap0, 0, none⟩ [.int .i64 cap0.nodes, .int .i64 cap0.from_, .int .i64 cap0.to_, .slice A_cap0_drains cap0.drains.length c_cap0_drains]) (hc_cap1 : Cells w ⟨b_cap1, 0, none⟩ [.int .i64 cap1]) (F : drain_Critical_1 cap0 cap1 a0 = some res) : Calls Try.prog 84 #[.int .i64 a0, .pointer (some (⟨b_cap0, 0, none⟩)), .pointer (some (⟨b_cap1, 0, none⟩))] w (Rt w (.bool res)) := by
  refine calls_of_cw (args := [.int .i64 a0, .pointer (some (⟨b_cap0, 0, none⟩)), .pointer (some (⟨b_cap1, 0, none⟩))]) Try.func84 rfl rfl rfl rfl ?_
  have H := Hp.start w
  have R0 := H.ext
  unfold drain_Critical_1 at F
  refine CW.seq fun K1 hK1 => ?_
  refine CW.region ?_
  refine LW.pure rfl rfl (RV.assign rfl) ?_
  refine LW.nil (hK1 _ _ ?_)
  refine CW.seq fun K2 hK2 => ?_
  obtain ⟨x1, hbx1, hx1, F⟩ := ix_some F
  refine CW.region ?_
  refine LW.pure rfl rfl (RV.fieldAddr Tf24_3 rfl) ?_
  refine LW.pure rfl rfl (RV.load1 Tk22 rfl ((hc_cap0.ext R0).off 3) rfl) ?_
  refine LW.pure rfl rfl (RV.move rfl) ?_
  refine LW.pure rfl rfl (RV.indexAddr Ts22 rfl rfl hbx1 (h_cap0_drains.addr_ hx1)) ?_
  refine LW.pure rfl rfl (RV.fieldAddr Tf52_2 rfl) ?_
  refine LW.pure rfl rfl (RV.load1 Tk3 rfl (((h_cap0_drains.at_ hx1).ext R0).off 2) rfl) ?_
  refine LW.pure rfl rfl (RV.assign rfl) ?_
  refine LW.nil (hK2 _ _ ?_)
  refine CW.seq fun K3 hK3 => ?_
  by_cases hp1 : (0 : Int) < x1.width
  ·
    replace F := ite_y hp1 F
    have hq1 := dec_t hp1
    obtain ⟨hg1, F⟩ := gd_some F
    obtain ⟨r1, hr1, F⟩ := bnd_some F
    obtain ⟨r2, hr2, F⟩ := bnd_some F
    refine CW.draw [] (fun _ => True) (.cons 0 1 (.cons 1 1 (.cons 2 1 (.cons 3 1 (.cons 4 1 (.cons 5 1 (.cons 6 1 (.cons 9 1 (.cons 7 0 (.cons 8 0 (.cons 10 1 (.cons 11 1 (.cons 12 1 .nil))))))))))))) mixed (by kernel_rfl) fun w1 E1 => ?_
    replace H := H.grow E1
    replace R0 := H.ext
    refine DW.fix rfl rfl rfl (fun _ EQ => RV.move rfl) ?_
    refine DW.fix rfl rfl rfl (fun _ EQ => RV.gtr rfl rfl) ?_
    refine DW.fix rfl rfl rfl (fun _ EQ => RV.move rfl) ?_
    refine DW.fixYB rfl rfl rfl rfl rfl hq1 (fun _ EQ => RV.loadA [.int .i64 cap0.nodes, .int .i64 cap0.from_, .int .i64 cap0.to_, .slice A_cap0_drains cap0.drains.length c_cap0_drains] Tk24 rfl (hc_cap0.ext (R0.trans EQ)) rfl rfl) ?_
    refine DW.fixYB rfl rfl rfl rfl rfl hq1 (fun _ EQ => RV.move rfl) ?_
    refine DW.fixYB rfl rfl rfl rfl rfl hq1 (fun _ EQ => RV.move rfl) ?_
    refine DW.fixYB rfl rfl rfl rfl rfl hq1 (fun _ EQ => RV.sub rfl rfl hg1) ?_
    refine DW.fixYB rfl rfl rfl rfl rfl hq1 (fun _ EQ => RV.load1 Tk3 rfl (hc_cap1.ext (R0.trans EQ)) rfl) ?_
    refine DW.soleYB rfl rfl rfl rfl rfl hq1 (OW.call Tc80 rfl (drain_changed_ok (a0 := cap0) (a1 := a0) (a2 := x1.width - 1) (h_cap0_drains.ext R0) hr1) ?_)
    rintro _ w2 ⟨A5_0_drains, c5_0_drains, rfl, E2⟩
    refine ⟨_, rfl, fun _ => E2.ext, ModX.ext E2.ext, ?_⟩
    replace H : Hp w w2 [.own A5_0_drains c5_0_drains 52 3 (List.map encDrain r1.drains)] := H.append E2
    replace R0 := H.ext
    refine DW.soleYB rfl rfl rfl rfl rfl hq1 (OW.call Tc56 rfl (drain_most_ok (a0 := r1) (H.own 0 rfl).sl hr2) ?_)
    rintro _ w3 ⟨rfl, E3⟩
    refine ⟨_, rfl, fun _ => E3, ModX.ext E3, ?_⟩
    replace H := H.grow E3
    replace R0 := H.ext
    refine DW.fixYB rfl rfl rfl rfl rfl hq1 (fun _ EQ => RV.lss rfl rfl) ?_
    refine DW.fix rfl rfl rfl (fun _ EQ => RV.pickTB rfl hq1 rfl) ?_
    refine DW.fix rfl rfl rfl (fun _ EQ => RV.assign rfl) ?_
    refine DW.nil (hK3 _ _ ?_)
    refine CW.ret ?_
    obtain rfl := Option.some.inj F
    refine ⟨_, (ResOK.one rfl), ?_⟩
    refine ⟨(by first | rfl | simp), R0⟩
  ·
    replace F := ite_n hp1 F
    have hq1 := dec_f hp1
    refine CW.draw [] (fun _ => True) (.cons 0 1 (.cons 1 1 (.cons 2 1 (.cons 3 1 (.cons 4 1 (.cons 5 1 (.cons 6 1 (.cons 9 1 (.cons 7 0 (.cons 8 0 (.cons 10 1 (.cons 11 1 (.cons 12 1 .nil))))))))))))) mixed (by kernel_rfl) fun w4 E4 => ?_
    replace H := H.grow E4
    replace R0 := H.ext
    refine DW.fix rfl rfl rfl (fun _ EQ => RV.move rfl) ?_
    refine DW.fix rfl rfl rfl (fun _ EQ => RV.gtr rfl rfl) ?_
    refine DW.fix rfl rfl rfl (fun _ EQ => RV.move rfl) ?_
    refine DW.fixNB rfl rfl rfl rfl rfl (ne_beq (v := false) hq1 rfl) ?_
    refine DW.fixNB rfl rfl rfl rfl rfl (ne_beq (v := false) hq1 rfl) ?_
    refine DW.fixNB rfl rfl rfl rfl rfl (ne_beq (v := false) hq1 rfl) ?_
    refine DW.fixNB rfl rfl rfl rfl rfl (ne_beq (v := false) hq1 rfl) ?_
    refine DW.fixNB rfl rfl rfl rfl rfl (ne_beq (v := false) hq1 rfl) ?_
    refine DW.soleNB rfl rfl rfl rfl rfl (ne_beq (v := false) hq1 rfl) ?_
    refine DW.soleNB rfl rfl rfl rfl rfl (ne_beq (v := false) hq1 rfl) ?_
    refine DW.fixNB rfl rfl rfl rfl rfl (ne_beq (v := false) hq1 rfl) ?_
    refine DW.fix rfl rfl rfl (fun _ EQ => RV.pickFB rfl hq1 rfl) ?_
    refine DW.fix rfl rfl rfl (fun _ EQ => RV.assign rfl) ?_
    refine DW.nil (hK3 _ _ ?_)
    refine CW.ret ?_
    obtain rfl := Option.some.inj F
    refine ⟨_, (ResOK.one rfl), ?_⟩
    refine ⟨(by first | rfl | simp), R0⟩
set_option maxRecDepth 20000 in
set_option maxHeartbeats 1000000 in
theorem drain_Critical_ok {a0 : Net} {A_a0_drains : Option Addr} {c_a0_drains : Nat} {w : World} {res : (List Int) × Int} (h_a0_drains : Sl w A_a0_drains c_a0_drains 3 (a0.drains.map encDrain)) (F : drain_Critical a0 = some res) : Calls Try.prog 45 #[.agg #[.int .i64 a0.nodes, .int .i64 a0.from_, .int .i64 a0.to_, .slice A_a0_drains a0.drains.length c_a0_drains]] w (fun e w' => ∃ (A0 : Option Addr) (c0 : Nat), e = .returned (.tuple #[.slice A0 res.1.length c0, .int .i64 res.2]) ∧ Hp w w' [.own A0 c0 3 1 (List.map encN res.1)]) := by
  refine calls_of_cw (args := [.agg #[.int .i64 a0.nodes, .int .i64 a0.from_, .int .i64 a0.to_, .slice A_a0_drains a0.drains.length c_a0_drains]]) Try.func45 rfl rfl rfl rfl ?_
  have H := Hp.start w
  have R0 := H.ext
  unfold drain_Critical at F
  refine CW.seq fun K1 hK1 => ?_
  refine CW.region ?_
  refine LW.go rfl rfl (OW.box rfl fun b1 w1 N1 => ?_)
  replace H := H.new N1 N1.blk
  replace R0 := H.ext
  refine LW.pure rfl rfl (RV.assign rfl) ?_
  refine LW.pure rfl rfl (RV.assign rfl) ?_
  refine LW.nil (hK1 _ _ ?_)
  refine CW.seq fun K2 hK2 => ?_
  refine CW.seq fun K3 hK3 => ?_
  obtain ⟨r1, hr1, F⟩ := bnd_some F
  refine CW.region ?_
  refine LW.pure rfl rfl (RV.loadA [.int .i64 a0.nodes, .int .i64 a0.from_, .int .i64 a0.to_, .slice A_a0_drains a0.drains.length c_a0_drains] Tk24 rfl (H.blk 0 rfl).cells rfl rfl) ?_
  refine LW.go rfl rfl (OW.call Tc26 rfl (drain_Validate_ok (a0 := a0) (h_a0_drains.ext R0) hr1) ?_)
  rintro _ w2 ⟨rfl, E1⟩
  refine ⟨_, rfl, ?_⟩
  replace H := H.grow E1
  replace R0 := H.ext
  refine LW.pure rfl rfl (RV.assign rfl) ?_
  refine LW.nil (hK3 _ _ ?_)
  refine CW.seq fun K4 hK4 => ?_
  refine CW.region ?_
  refine LW.pure rfl rfl (RV.move rfl) ?_
  refine LW.pure rfl rfl (RV.nei rfl rfl) ?_
  refine LW.nil (hK4 _ _ ?_)
  by_cases hp1 : r1 = 0
  ·
    replace F := ite_y hp1 F
    have hq1 := dec_t hp1
    refine CW.condF rfl (not_f hq1) ?_
    refine CW.skip (hK2 _ _ ?_)
    refine CW.seq fun K5 hK5 => ?_
    obtain ⟨r2, hr2, F⟩ := bnd_some F
    refine CW.region ?_
    refine LW.pure rfl rfl (RV.loadA [.int .i64 a0.nodes, .int .i64 a0.from_, .int .i64 a0.to_, .slice A_a0_drains a0.drains.length c_a0_drains] Tk24 rfl (H.blk 0 rfl).cells rfl rfl) ?_
    refine LW.go rfl rfl (OW.call Tc56 rfl (drain_most_ok (a0 := a0) (h_a0_drains.ext R0) hr2) ?_)
    rintro _ w3 ⟨rfl, E2⟩
    refine ⟨_, rfl, ?_⟩
    replace H := H.grow E2
    replace R0 := H.ext
    refine LW.go rfl rfl (OW.alloc Tz3 fun b2 w4 N2 => ?_)
    replace H := H.new N2 N2.blk
    replace R0 := H.ext
    refine LW.go rfl rfl (OW.store Tk3 rfl rfl (H.blk 0 rfl) (off := 0) (vs := [.int .i64 r2]) rfl rfl rfl rfl rfl fun w5 S1 => ?_)
    replace H : Hp w w5 [.blk b2 3 [.int .i64 r2], .blk b1 24 [.int .i64 a0.nodes, .int .i64 a0.from_, .int .i64 a0.to_, .slice A_a0_drains a0.drains.length c_a0_drains]] := H.stored 0 rfl S1
    replace R0 := H.ext
    refine LW.nil (hK5 _ _ ?_)
    refine CW.seq fun K6 hK6 => ?_
    obtain ⟨r3, hr3, F⟩ := bnd_some F
    refine CW.region ?_
    refine LW.pure rfl rfl (RV.loadA [.int .i64 a0.nodes, .int .i64 a0.from_, .int .i64 a0.to_, .slice A_a0_drains a0.drains.length c_a0_drains] Tk24 rfl (H.blk 1 rfl).cells rfl rfl) ?_
    refine LW.pure rfl rfl (RV.makeFunc (fs := []) (cs := [.pointer (some (⟨b1, 0, none⟩)), .pointer (some (⟨b2, 0, none⟩))]) rfl rfl) ?_
    refine LW.go rfl rfl (OW.call Tc82 rfl (drain_those_ok (a0 := a0) (a1 := (fun x0 => drain_Critical_1 a0 r2 x0)) (h_a0_drains.ext R0) (fun x0 r hF w6 hE => CallsV.cap Tc84 (by simp) (drain_Critical_1_ok (cap0 := a0) (cap1 := r2) (a0 := x0) ((h_a0_drains.ext R0).ext hE) ((H.blk 1 rfl).cells.ext hE) ((H.blk 0 rfl).cells.ext hE) hF)) hr3) ?_)
    rintro _ w7 ⟨A9_0, c9_0, rfl, E3⟩
    refine ⟨_, rfl, ?_⟩
    replace H : Hp w w7 [.own A9_0 c9_0 3 1 (List.map encN r3), .blk b2 3 [.int .i64 r2], .blk b1 24 [.int .i64 a0.nodes, .int .i64 a0.from_, .int .i64 a0.to_, .slice A_a0_drains a0.drains.length c_a0_drains]] := H.append E3
    replace R0 := H.ext
    refine LW.pure rfl rfl (RV.assign rfl) ?_
    refine LW.pure rfl rfl (RV.assign rfl) ?_
    refine LW.nil (hK6 _ _ ?_)
    refine CW.ret ?_
    obtain rfl := Option.some.inj F
    refine ⟨_, (ResOK.two rfl rfl), ?_⟩
    replace H := H.pick (L' := [.own A9_0 c9_0 3 1 (List.map encN r3)]) [0] (by decide) rfl
    replace R0 := H.ext
    exact ⟨A9_0, c9_0, (by first | rfl | (simp; done) | (simp; omega)), H⟩
  ·
    replace F := ite_n hp1 F
    have hq1 := dec_f hp1
    refine CW.condT rfl (not_t hq1) ?_
    refine CW.seq fun K7 hK7 => ?_
    refine CW.region ?_
    refine LW.pure rfl rfl (RV.move rfl) ?_
    refine LW.pure rfl rfl (RV.assign rfl) ?_
    refine LW.pure rfl rfl (RV.assign rfl) ?_
    refine LW.nil (hK7 _ _ ?_)
    refine CW.ret ?_
    obtain rfl := Option.some.inj F
    refine ⟨_, (ResOK.two rfl rfl), ?_⟩
    replace H := H.nilOwn 3 1
    replace R0 := H.ext
    replace H := H.pick (L' := [.own none 0 3 1 (List.map encN (([] : List Int)))]) [0] (by decide) rfl
    replace R0 := H.ext
    exact ⟨none, 0, (by first | rfl | (simp; done) | (simp; omega)), H⟩
set_option maxRecDepth 20000 in
set_option maxHeartbeats 1000000 in
theorem ref02_Critical_ok {a0 : Net} {A_a0_drains : Option Addr} {c_a0_drains : Nat} {w : World} {res : (List Int) × Int} (h_a0_drains : Sl w A_a0_drains c_a0_drains 3 (a0.drains.map encDrain)) (F : ref02_Critical a0 = some res) : Calls Try.prog 46 #[.agg #[.int .i64 a0.nodes, .int .i64 a0.from_, .int .i64 a0.to_, .slice A_a0_drains a0.drains.length c_a0_drains]] w (fun e w' => ∃ (A1 : Option Addr) (c1 : Nat), e = .returned (.tuple #[.slice A1 res.1.length c1, .int .i64 res.2]) ∧ Hp w w' [.own A1 c1 3 1 (List.map encN res.1)]) := by
  refine calls_of_cw (args := [.agg #[.int .i64 a0.nodes, .int .i64 a0.from_, .int .i64 a0.to_, .slice A_a0_drains a0.drains.length c_a0_drains]]) Try.func46 rfl rfl rfl rfl ?_
  have H := Hp.start w
  have R0 := H.ext
  unfold ref02_Critical at F
  refine CW.seq fun K1 hK1 => ?_
  refine CW.region ?_
  refine LW.go rfl rfl (OW.box rfl fun b1 w1 N1 => ?_)
  replace H := H.new N1 N1.blk
  replace R0 := H.ext
  refine LW.pure rfl rfl (RV.assign rfl) ?_
  refine LW.pure rfl rfl (RV.assign rfl) ?_
  refine LW.nil (hK1 _ _ ?_)
  refine CW.seq fun K2 hK2 => ?_
  refine CW.seq fun K3 hK3 => ?_
  obtain ⟨r4, hr4, F⟩ := bnd_some F
  refine CW.region ?_
  refine LW.pure rfl rfl (RV.loadA [.int .i64 a0.nodes, .int .i64 a0.from_, .int .i64 a0.to_, .slice A_a0_drains a0.drains.length c_a0_drains] Tk24 rfl (H.blk 0 rfl).cells rfl rfl) ?_
  refine LW.go rfl rfl (OW.call Tc27 rfl (ref02_Validate_ok (a0 := a0) (h_a0_drains.ext R0) hr4) ?_)
  rintro _ w2 ⟨rfl, E1⟩
  refine ⟨_, rfl, ?_⟩
  replace H := H.grow E1
  replace R0 := H.ext
  refine LW.pure rfl rfl (RV.assign rfl) ?_
  refine LW.nil (hK3 _ _ ?_)
  refine CW.seq fun K4 hK4 => ?_
  refine CW.region ?_
  refine LW.pure rfl rfl (RV.move rfl) ?_
  refine LW.pure rfl rfl (RV.nei rfl rfl) ?_
  refine LW.nil (hK4 _ _ ?_)
  by_cases hp1 : r4 = 0
  ·
    replace F := ite_y hp1 F
    have hq1 := dec_t hp1
    refine CW.condF rfl (not_f hq1) ?_
    refine CW.skip (hK2 _ _ ?_)
    refine CW.seq fun K5 hK5 => ?_
    refine CW.region ?_
    refine LW.pure rfl rfl (RV.assign rfl) ?_
    refine LW.nil (hK5 _ _ ?_)
    refine CW.seqJ (fun ρ wl1 => (∃ (l1 : List Int) (Al1 : Option Addr) (cl1 : Nat), ref02_Critical_k1 l1 = some res ∧ ρ = [(2, .slice none 0 0), (3, .int .i64 0), (5, .slice Al1 l1.length cl1)] ∧ Hp w wl1 [.own Al1 cl1 3 1 (List.map encN l1)])) ?_ ?_
    ·
      rintro _ wl1 ⟨l1, Al1, cl1, F, rfl, H⟩
      have R0 := H.ext
      unfold ref02_Critical_k1 at F
      refine CW.seq fun K6 hK6 => ?_
      refine CW.region ?_
      refine LW.pure rfl rfl (RV.move rfl) ?_
      refine LW.pure rfl rfl (RV.assign rfl) ?_
      refine LW.pure rfl rfl (RV.assign rfl) ?_
      refine LW.nil (hK6 _ _ ?_)
      refine CW.ret ?_
      obtain rfl := Option.some.inj F
      refine ⟨_, (ResOK.two rfl rfl), ?_⟩
      exact ⟨Al1, cl1, (by first | rfl | (simp; done) | (simp; omega)), H⟩
    ·
      intro K7 hK7 jK81
      refine CW.seq fun K8 hK8 => ?_
      refine CW.region ?_
      refine LW.pure rfl rfl (RV.assign rfl) ?_
      refine LW.nil (hK8 _ _ ?_)
      refine CW.block ?_
      replace H := H.nilOwn 3 1
      replace R0 := H.ext
      refine CW.loop (fun meas ρ wl2 => ∃ (t6_1 : Int) (l3 : List Int) (Al3 : Option Addr) (cl3 : Nat), ref02_Critical_L1 a0 meas t6_1 l3 = some res ∧ ρ = [(1, .pointer (some (⟨b1, 0, none⟩))), (2, .slice none 0 0), (3, .int .i64 0), (5, .slice Al3 l3.length cl3), (6, .int .i64 t6_1)] ∧ Hp w wl2 [.own Al3 cl3 3 1 (List.map encN l3), .blk b1 24 [.int .i64 a0.nodes, .int .i64 a0.from_, .int .i64 a0.to_, .slice A_a0_drains a0.drains.length c_a0_drains]]) FU ⟨_, ?_, ((0 : Int)), (([] : List Int)), none, 0, F, rfl, H⟩ ?_
      · exact ⟨rfl, rfl, rfl, (look_slice rfl (by first | rfl | (simp; done) | (simp; omega))), rfl, trivial⟩
      rintro mk1 _ wl2 ⟨t6_1, l3, Al3, cl3, F, rfl, H⟩
      have R0 := H.ext
      replace F := ref02_Critical_L1_s F
      obtain ⟨mk1, rfl, F⟩ := F
      generalize hrec1 : ref02_Critical_L1 a0 mk1 = rec1 at F
      unfold ref02_Critical_B1 at F
      refine CW.seq fun K9 hK9 => ?_
      refine CW.seq fun K10 hK10 => ?_
      refine CW.region ?_
      refine LW.pure rfl rfl (RV.move rfl) ?_
      refine LW.pure rfl rfl (RV.fieldAddr Tf24_3 rfl) ?_
      refine LW.pure rfl rfl (RV.load1 Tk22 rfl ((H.blk 1 rfl).cells.off 3) rfl) ?_
      refine LW.pure rfl rfl (RV.len Ts22 rfl) ?_
      refine LW.pure rfl rfl (RV.lss rfl rfl) ?_
      refine LW.nil (hK10 _ _ ?_)
      by_cases hp2 : t6_1 < ((a0.drains.length : Int))
      ·
        replace F := ite_y hp2 F
        have hq2 := dec_t hp2
        refine CW.condT rfl hq2 ?_
        refine CW.skip (hK9 _ _ ?_)
        refine CW.seqJ (fun ρ wl3 => (∃ (l2 : List Int) (Al2 : Option Addr) (cl2 : Nat), ref02_Critical_k2 t6_1 rec1 l2 = some res ∧ ρ = [(1, .pointer (some (⟨b1, 0, none⟩))), (2, .slice none 0 0), (3, .int .i64 0), (5, .slice Al2 l2.length cl2), (6, .int .i64 t6_1)] ∧ Hp w wl3 [.own Al2 cl2 3 1 (List.map encN l2), .blk b1 24 [.int .i64 a0.nodes, .int .i64 a0.from_, .int .i64 a0.to_, .slice A_a0_drains a0.drains.length c_a0_drains]])) ?_ ?_
        ·
          rintro _ wl3 ⟨l2, Al2, cl2, F, rfl, H⟩
          have R0 := H.ext
          unfold ref02_Critical_k2 at F
          obtain ⟨hg1, F⟩ := gd_some F
          refine CW.region ?_
          refine LW.pure rfl rfl (RV.move rfl) ?_
          refine LW.pure rfl rfl (RV.add rfl rfl hg1) ?_
          refine LW.pure rfl rfl (RV.assign rfl) ?_
          refine LW.nil ?_
          subst hrec1
          refine ⟨mk1, Nat.lt_succ_self _, _, ?_, (t6_1 + 1), l2, Al2, cl2, F, rfl, H⟩
          exact ⟨rfl, rfl, rfl, (look_slice rfl (by first | rfl | (simp; done) | (simp; omega))), rfl, trivial⟩
        ·
          intro K11 hK11 jK101
          refine CW.block ?_
          refine CW.seq fun K12 hK12 => ?_
          obtain ⟨x1, hbx1, hx1, F⟩ := ix_some F
          refine CW.region ?_
          refine LW.pure rfl rfl (RV.fieldAddr Tf24_3 rfl) ?_
          refine LW.pure rfl rfl (RV.load1 Tk22 rfl ((H.blk 1 rfl).cells.off 3) rfl) ?_
          refine LW.pure rfl rfl (RV.move rfl) ?_
          refine LW.pure rfl rfl (RV.indexAddr Ts22 rfl rfl hbx1 (h_a0_drains.addr_ hx1)) ?_
          refine LW.pure rfl rfl (RV.fieldAddr Tf52_2 rfl) ?_
          refine LW.pure rfl rfl (RV.load1 Tk3 rfl (((h_a0_drains.at_ hx1).ext R0).off 2) rfl) ?_
          refine LW.pure rfl rfl (RV.assign rfl) ?_
          refine LW.nil (hK12 _ _ ?_)
          refine CW.seqJ (fun ρ wl4 => (∃ (t38_1 : Bool), ref02_Critical_k3 t6_1 l3 rec1 t38_1 = some res ∧ ρ = [(1, .pointer (some (⟨b1, 0, none⟩))), (2, .slice none 0 0), (3, .int .i64 0), (5, .slice Al3 l3.length cl3), (6, .int .i64 t6_1), (38, .bool t38_1)] ∧ Hp w wl4 [.own Al3 cl3 3 1 (List.map encN l3), .blk b1 24 [.int .i64 a0.nodes, .int .i64 a0.from_, .int .i64 a0.to_, .slice A_a0_drains a0.drains.length c_a0_drains]])) ?_ ?_
          ·
            rintro _ wl4 ⟨t38_1, F, rfl, H⟩
            have R0 := H.ext
            unfold ref02_Critical_k3 at F
            by_cases hp3 : t38_1 = true
            ·
              replace F := ite_y hp3 F
              have hq3 : t38_1 = true := hp3
              refine CW.condT rfl hq3 ?_
              obtain ⟨hg2, F⟩ := gd_some F
              refine CW.region ?_
              refine LW.pure rfl rfl (RV.move rfl) ?_
              refine LW.pure rfl rfl (RV.move rfl) ?_
              refine LW.go rfl rfl (OW.buildSlice (e := 3) (vs := [.int .i64 t6_1]) (cs := [.int .i64 t6_1]) rfl (fun _ => by kernel_rfl) fun b2 w3 N2 => ?_)
              replace H := H.made' (k := 1) (t := 3) (enc := encN) (l := ([t6_1] : List Int)) N2 N2.blk (fun _ => rfl) rfl (by first | decide | omega | (simp; done) | (simp; omega))
              replace R0 := H.ext
              refine LW.go rfl rfl (OW.appendG (enc := encN) (l := l3) (xs := ([t6_1] : List Int)) Ts30 rfl (look_slice rfl (by first | rfl | (simp; done) | (simp; omega))) (H.own 1 rfl) (H.own 0 rfl).sl (fun _ => rfl) rfl rfl hg2 (by decide) fun A2 c2 w4 O1 M1 D1 => ?_)
              replace H : Hp w w4 [.own (some ⟨b2, 0, none⟩) ((([t6_1] : List Int)).length) 3 1 (List.map encN (([t6_1] : List Int))), .own A2 c2 3 1 (List.map encN ((l3 ++ ([t6_1] : List Int)))), .blk b1 24 [.int .i64 a0.nodes, .int .i64 a0.from_, .int .i64 a0.to_, .slice A_a0_drains a0.drains.length c_a0_drains]] := H.mod 1 rfl M1 O1 D1
              replace R0 := H.ext
              refine LW.pure rfl rfl (RV.assign rfl) ?_
              replace H := H.pick (L' := [.own A2 c2 3 1 (List.map encN ((l3 ++ ([t6_1] : List Int)))), .blk b1 24 [.int .i64 a0.nodes, .int .i64 a0.from_, .int .i64 a0.to_, .slice A_a0_drains a0.drains.length c_a0_drains]]) [1, 2] (by decide) rfl
              replace R0 := H.ext
              refine LW.nil (jK101 _ _ ⟨_, ?_, ⟨((l3 ++ ([t6_1] : List Int))), A2, c2, F, rfl, H⟩⟩)
              exact ⟨rfl, rfl, rfl, (look_slice rfl (by first | rfl | (simp; done) | (simp; omega))), rfl, trivial⟩
            ·
              replace F := ite_n hp3 F
              have hq3 : t38_1 = false := raw_f hp3
              refine CW.condF rfl hq3 ?_
              refine CW.skip (jK101 _ _ ⟨_, ?_, ⟨l3, Al3, cl3, F, rfl, H⟩⟩)
              exact ⟨rfl, rfl, rfl, (look_slice rfl (by first | rfl | (simp; done) | (simp; omega))), rfl, trivial⟩
          ·
            intro K13 hK13 jK103
            by_cases hp4 : (0 : Int) < x1.width
            ·
              replace F := ite_y hp4 F
              have hq4 := dec_t hp4
              obtain ⟨hg3, F⟩ := gd_some F
              obtain ⟨r1, hr1, F⟩ := bnd_some F
              obtain ⟨r2, hr2, F⟩ := bnd_some F
              obtain ⟨r3, hr3, F⟩ := bnd_some F
              refine CW.draw [] (fun _ => True) (.cons 0 1 (.cons 1 1 (.cons 2 1 (.cons 3 1 (.cons 4 1 (.cons 5 1 (.cons 6 1 (.cons 9 1 (.cons 7 0 (.cons 8 0 (.cons 10 0 (.cons 11 1 (.cons 12 1 .nil))))))))))))) mixed (by kernel_rfl) fun w5 E2 => ?_
              replace H := H.grow E2
              replace R0 := H.ext
              refine DW.fix rfl rfl rfl (fun _ EQ => RV.move rfl) ?_
              refine DW.fix rfl rfl rfl (fun _ EQ => RV.gtr rfl rfl) ?_
              refine DW.fix rfl rfl rfl (fun _ EQ => RV.move rfl) ?_
              refine DW.fixYB rfl rfl rfl rfl rfl hq4 (fun _ EQ => RV.loadA [.int .i64 a0.nodes, .int .i64 a0.from_, .int .i64 a0.to_, .slice A_a0_drains a0.drains.length c_a0_drains] Tk24 rfl ((H.grow EQ).blk 1 rfl).cells rfl rfl) ?_
              refine DW.fixYB rfl rfl rfl rfl rfl hq4 (fun _ EQ => RV.move rfl) ?_
              refine DW.fixYB rfl rfl rfl rfl rfl hq4 (fun _ EQ => RV.move rfl) ?_
              refine DW.fixYB rfl rfl rfl rfl rfl hq4 (fun _ EQ => RV.sub rfl rfl hg3) ?_
              refine DW.fixYB rfl rfl rfl rfl rfl hq4 (fun _ EQ => RV.loadA [.int .i64 a0.nodes, .int .i64 a0.from_, .int .i64 a0.to_, .slice A_a0_drains a0.drains.length c_a0_drains] Tk24 rfl ((H.grow EQ).blk 1 rfl).cells rfl rfl) ?_
              refine DW.soleYB rfl rfl rfl rfl rfl hq4 (OW.call Tc81 rfl (ref02_wide_ok (a0 := a0) (a1 := t6_1) (a2 := x1.width - 1) (h_a0_drains.ext R0) hr1) ?_)
              rintro _ w6 ⟨A148_0_drains, c148_0_drains, rfl, E3⟩
              refine ⟨_, rfl, fun _ => E3.ext, ModX.ext E3.ext, ?_⟩
              replace H : Hp w w6 [.own A148_0_drains c148_0_drains 52 3 (List.map encDrain r1.drains), .own Al3 cl3 3 1 (List.map encN l3), .blk b1 24 [.int .i64 a0.nodes, .int .i64 a0.from_, .int .i64 a0.to_, .slice A_a0_drains a0.drains.length c_a0_drains]] := H.append E3
              replace R0 := H.ext
              refine DW.soleYB rfl rfl rfl rfl rfl hq4 (OW.call Tc57 rfl (ref02_most_ok (a0 := r1) (H.own 0 rfl).sl hr2) ?_)
              rintro _ w7 ⟨rfl, E4⟩
              refine ⟨_, rfl, fun _ => E4, ModX.ext E4, ?_⟩
              replace H := H.grow E4
              replace R0 := H.ext
              refine DW.soleYB rfl rfl rfl rfl rfl hq4 (OW.call Tc57 rfl (ref02_most_ok (a0 := a0) (h_a0_drains.ext R0) hr3) ?_)
              rintro _ w8 ⟨rfl, E5⟩
              refine ⟨_, rfl, fun _ => E5, ModX.ext E5, ?_⟩
              replace H := H.grow E5
              replace R0 := H.ext
              refine DW.fixYB rfl rfl rfl rfl rfl hq4 (fun _ EQ => RV.lss rfl rfl) ?_
              refine DW.fix rfl rfl rfl (fun _ EQ => RV.pickTB rfl hq4 rfl) ?_
              replace H := H.pick (L' := [.own Al3 cl3 3 1 (List.map encN l3), .blk b1 24 [.int .i64 a0.nodes, .int .i64 a0.from_, .int .i64 a0.to_, .slice A_a0_drains a0.drains.length c_a0_drains]]) [1, 2] (by decide) rfl
              replace R0 := H.ext
              refine DW.nil (jK103 _ _ ⟨_, ?_, ⟨(decide (r2 < r3)), F, rfl, H⟩⟩)
              exact ⟨rfl, rfl, rfl, (look_slice rfl (by first | rfl | (simp; done) | (simp; omega))), rfl, rfl, trivial⟩
            ·
              replace F := ite_n hp4 F
              have hq4 := dec_f hp4
              refine CW.draw [] (fun _ => True) (.cons 0 1 (.cons 1 1 (.cons 2 1 (.cons 3 1 (.cons 4 1 (.cons 5 1 (.cons 6 1 (.cons 9 1 (.cons 7 0 (.cons 8 0 (.cons 10 0 (.cons 11 1 (.cons 12 1 .nil))))))))))))) mixed (by kernel_rfl) fun w9 E6 => ?_
              replace H := H.grow E6
              replace R0 := H.ext
              refine DW.fix rfl rfl rfl (fun _ EQ => RV.move rfl) ?_
              refine DW.fix rfl rfl rfl (fun _ EQ => RV.gtr rfl rfl) ?_
              refine DW.fix rfl rfl rfl (fun _ EQ => RV.move rfl) ?_
              refine DW.fixNB rfl rfl rfl rfl rfl (ne_beq (v := false) hq4 rfl) ?_
              refine DW.fixNB rfl rfl rfl rfl rfl (ne_beq (v := false) hq4 rfl) ?_
              refine DW.fixNB rfl rfl rfl rfl rfl (ne_beq (v := false) hq4 rfl) ?_
              refine DW.fixNB rfl rfl rfl rfl rfl (ne_beq (v := false) hq4 rfl) ?_
              refine DW.fixNB rfl rfl rfl rfl rfl (ne_beq (v := false) hq4 rfl) ?_
              refine DW.soleNB rfl rfl rfl rfl rfl (ne_beq (v := false) hq4 rfl) ?_
              refine DW.soleNB rfl rfl rfl rfl rfl (ne_beq (v := false) hq4 rfl) ?_
              refine DW.soleNB rfl rfl rfl rfl rfl (ne_beq (v := false) hq4 rfl) ?_
              refine DW.fixNB rfl rfl rfl rfl rfl (ne_beq (v := false) hq4 rfl) ?_
              refine DW.fix rfl rfl rfl (fun _ EQ => RV.pickFB rfl hq4 rfl) ?_
              refine DW.nil (jK103 _ _ ⟨_, ?_, ⟨false, F, rfl, H⟩⟩)
              exact ⟨rfl, rfl, rfl, (look_slice rfl (by first | rfl | (simp; done) | (simp; omega))), rfl, rfl, trivial⟩
      ·
        replace F := ite_n hp2 F
        have hq2 := dec_f hp2
        refine CW.condF rfl hq2 ?_
        replace H := H.pick (L' := [.own Al3 cl3 3 1 (List.map encN l3)]) [0] (by decide) rfl
        replace R0 := H.ext
        refine CW.exit (jK81 _ _ ⟨_, ?_, ⟨l3, Al3, cl3, F, rfl, H⟩⟩)
        exact ⟨rfl, rfl, (look_slice rfl (by first | rfl | (simp; done) | (simp; omega))), trivial⟩
  ·
    replace F := ite_n hp1 F
    have hq1 := dec_f hp1
    refine CW.condT rfl (not_t hq1) ?_
    refine CW.seq fun K14 hK14 => ?_
    refine CW.region ?_
    refine LW.pure rfl rfl (RV.move rfl) ?_
    refine LW.pure rfl rfl (RV.assign rfl) ?_
    refine LW.pure rfl rfl (RV.assign rfl) ?_
    refine LW.nil (hK14 _ _ ?_)
    refine CW.ret ?_
    obtain rfl := Option.some.inj F
    refine ⟨_, (ResOK.two rfl rfl), ?_⟩
    replace H := H.nilOwn 3 1
    replace R0 := H.ext
    replace H := H.pick (L' := [.own none 0 3 1 (List.map encN (([] : List Int)))]) [0] (by decide) rfl
    replace R0 := H.ext
    exact ⟨none, 0, (by first | rfl | (simp; done) | (simp; omega)), H⟩
set_option maxRecDepth 20000 in
set_option maxHeartbeats 1000000 in
theorem ref02_Wanted_ok {a0 : Net} {A_a0_drains : Option Addr} {c_a0_drains : Nat} {w : World} {res : (List Int) × Int} (h_a0_drains : Sl w A_a0_drains c_a0_drains 3 (a0.drains.map encDrain)) (F : ref02_Wanted a0 = some res) : Calls Try.prog 47 #[.agg #[.int .i64 a0.nodes, .int .i64 a0.from_, .int .i64 a0.to_, .slice A_a0_drains a0.drains.length c_a0_drains]] w (fun e w' => ∃ (A1 : Option Addr) (c1 : Nat), e = .returned (.tuple #[.slice A1 res.1.length c1, .int .i64 res.2]) ∧ Hp w w' [.own A1 c1 3 1 (List.map encN res.1)]) := by
  refine calls_of_cw (args := [.agg #[.int .i64 a0.nodes, .int .i64 a0.from_, .int .i64 a0.to_, .slice A_a0_drains a0.drains.length c_a0_drains]]) Try.func47 rfl rfl rfl rfl ?_
  have H := Hp.start w
  have R0 := H.ext
  unfold ref02_Wanted at F
  refine CW.seq fun K1 hK1 => ?_
  refine CW.region ?_
  refine LW.go rfl rfl (OW.box rfl fun b1 w1 N1 => ?_)
  replace H := H.new N1 N1.blk
  replace R0 := H.ext
  refine LW.pure rfl rfl (RV.assign rfl) ?_
  refine LW.pure rfl rfl (RV.assign rfl) ?_
  refine LW.nil (hK1 _ _ ?_)
  refine CW.seq fun K2 hK2 => ?_
  refine CW.seq fun K3 hK3 => ?_
  obtain ⟨r4, hr4, F⟩ := bnd_some F
  refine CW.region ?_
  refine LW.pure rfl rfl (RV.loadA [.int .i64 a0.nodes, .int .i64 a0.from_, .int .i64 a0.to_, .slice A_a0_drains a0.drains.length c_a0_drains] Tk24 rfl (H.blk 0 rfl).cells rfl rfl) ?_
  refine LW.go rfl rfl (OW.call Tc27 rfl (ref02_Validate_ok (a0 := a0) (h_a0_drains.ext R0) hr4) ?_)
  rintro _ w2 ⟨rfl, E1⟩
  refine ⟨_, rfl, ?_⟩
  replace H := H.grow E1
  replace R0 := H.ext
  refine LW.pure rfl rfl (RV.assign rfl) ?_
  refine LW.nil (hK3 _ _ ?_)
  refine CW.seq fun K4 hK4 => ?_
  refine CW.region ?_
  refine LW.pure rfl rfl (RV.move rfl) ?_
  refine LW.pure rfl rfl (RV.nei rfl rfl) ?_
  refine LW.nil (hK4 _ _ ?_)
  by_cases hp1 : r4 = 0
  ·
    replace F := ite_y hp1 F
    have hq1 := dec_t hp1
    refine CW.condF rfl (not_f hq1) ?_
    refine CW.skip (hK2 _ _ ?_)
    refine CW.seq fun K5 hK5 => ?_
    refine CW.region ?_
    refine LW.pure rfl rfl (RV.assign rfl) ?_
    refine LW.nil (hK5 _ _ ?_)
    refine CW.seqJ (fun ρ wl1 => (∃ (l1 : List Int) (Al1 : Option Addr) (cl1 : Nat), ref02_Wanted_k1 l1 = some res ∧ ρ = [(2, .slice none 0 0), (3, .int .i64 0), (5, .slice Al1 l1.length cl1)] ∧ Hp w wl1 [.own Al1 cl1 3 1 (List.map encN l1)])) ?_ ?_
    ·
      rintro _ wl1 ⟨l1, Al1, cl1, F, rfl, H⟩
      have R0 := H.ext
      unfold ref02_Wanted_k1 at F
      refine CW.seq fun K6 hK6 => ?_
      refine CW.region ?_
      refine LW.pure rfl rfl (RV.move rfl) ?_
      refine LW.pure rfl rfl (RV.assign rfl) ?_
      refine LW.pure rfl rfl (RV.assign rfl) ?_
      refine LW.nil (hK6 _ _ ?_)
      refine CW.ret ?_
      obtain rfl := Option.some.inj F
      refine ⟨_, (ResOK.two rfl rfl), ?_⟩
      exact ⟨Al1, cl1, (by first | rfl | (simp; done) | (simp; omega)), H⟩
    ·
      intro K7 hK7 jK63
      refine CW.seq fun K8 hK8 => ?_
      refine CW.region ?_
      refine LW.pure rfl rfl (RV.assign rfl) ?_
      refine LW.nil (hK8 _ _ ?_)
      refine CW.block ?_
      replace H := H.nilOwn 3 1
      replace R0 := H.ext
      refine CW.loop (fun meas ρ wl2 => ∃ (t6_1 : Int) (l3 : List Int) (Al3 : Option Addr) (cl3 : Nat), ref02_Wanted_L1 a0 meas t6_1 l3 = some res ∧ ρ = [(1, .pointer (some (⟨b1, 0, none⟩))), (2, .slice none 0 0), (3, .int .i64 0), (5, .slice Al3 l3.length cl3), (6, .int .i64 t6_1)] ∧ Hp w wl2 [.own Al3 cl3 3 1 (List.map encN l3), .blk b1 24 [.int .i64 a0.nodes, .int .i64 a0.from_, .int .i64 a0.to_, .slice A_a0_drains a0.drains.length c_a0_drains]]) FU ⟨_, ?_, ((0 : Int)), (([] : List Int)), none, 0, F, rfl, H⟩ ?_
      · exact ⟨rfl, rfl, rfl, (look_slice rfl (by first | rfl | (simp; done) | (simp; omega))), rfl, trivial⟩
      rintro mk1 _ wl2 ⟨t6_1, l3, Al3, cl3, F, rfl, H⟩
      have R0 := H.ext
      replace F := ref02_Wanted_L1_s F
      obtain ⟨mk1, rfl, F⟩ := F
      generalize hrec1 : ref02_Wanted_L1 a0 mk1 = rec1 at F
      unfold ref02_Wanted_B1 at F
      refine CW.seq fun K9 hK9 => ?_
      refine CW.seq fun K10 hK10 => ?_
      refine CW.region ?_
      refine LW.pure rfl rfl (RV.move rfl) ?_
      refine LW.pure rfl rfl (RV.fieldAddr Tf24_3 rfl) ?_
      refine LW.pure rfl rfl (RV.load1 Tk22 rfl ((H.blk 1 rfl).cells.off 3) rfl) ?_
      refine LW.pure rfl rfl (RV.len Ts22 rfl) ?_
      refine LW.pure rfl rfl (RV.lss rfl rfl) ?_
      refine LW.nil (hK10 _ _ ?_)
      by_cases hp2 : t6_1 < ((a0.drains.length : Int))
      ·
        replace F := ite_y hp2 F
        have hq2 := dec_t hp2
        refine CW.condT rfl hq2 ?_
        refine CW.skip (hK9 _ _ ?_)
        refine CW.seqJ (fun ρ wl3 => (∃ (l2 : List Int) (Al2 : Option Addr) (cl2 : Nat), ref02_Wanted_k2 t6_1 rec1 l2 = some res ∧ ρ = [(1, .pointer (some (⟨b1, 0, none⟩))), (2, .slice none 0 0), (3, .int .i64 0), (5, .slice Al2 l2.length cl2), (6, .int .i64 t6_1)] ∧ Hp w wl3 [.own Al2 cl2 3 1 (List.map encN l2), .blk b1 24 [.int .i64 a0.nodes, .int .i64 a0.from_, .int .i64 a0.to_, .slice A_a0_drains a0.drains.length c_a0_drains]])) ?_ ?_
        ·
          rintro _ wl3 ⟨l2, Al2, cl2, F, rfl, H⟩
          have R0 := H.ext
          unfold ref02_Wanted_k2 at F
          obtain ⟨hg1, F⟩ := gd_some F
          refine CW.region ?_
          refine LW.pure rfl rfl (RV.move rfl) ?_
          refine LW.pure rfl rfl (RV.add rfl rfl hg1) ?_
          refine LW.pure rfl rfl (RV.assign rfl) ?_
          refine LW.nil ?_
          subst hrec1
          refine ⟨mk1, Nat.lt_succ_self _, _, ?_, (t6_1 + 1), l2, Al2, cl2, F, rfl, H⟩
          exact ⟨rfl, rfl, rfl, (look_slice rfl (by first | rfl | (simp; done) | (simp; omega))), rfl, trivial⟩
        ·
          intro K11 hK11 jK78
          refine CW.block ?_
          refine CW.seq fun K12 hK12 => ?_
          obtain ⟨x1, hbx1, hx1, F⟩ := ix_some F
          obtain ⟨hg2, F⟩ := gd_some F
          obtain ⟨r1, hr1, F⟩ := bnd_some F
          obtain ⟨r2, hr2, F⟩ := bnd_some F
          obtain ⟨r3, hr3, F⟩ := bnd_some F
          refine CW.draw [] (fun _ => True) (.cons 0 1 (.cons 1 1 (.cons 2 1 (.cons 3 1 (.cons 4 1 (.cons 5 1 (.cons 6 1 (.cons 7 1 (.cons 8 1 (.cons 11 1 (.cons 9 0 (.cons 10 0 (.cons 12 0 (.cons 13 1 .nil)))))))))))))) mixed (by kernel_rfl) fun w3 E2 => ?_
          replace H := H.grow E2
          replace R0 := H.ext
          refine DW.fix rfl rfl rfl (fun _ EQ => RV.loadA [.int .i64 a0.nodes, .int .i64 a0.from_, .int .i64 a0.to_, .slice A_a0_drains a0.drains.length c_a0_drains] Tk24 rfl ((H.grow EQ).blk 1 rfl).cells rfl rfl) ?_
          refine DW.fix rfl rfl rfl (fun _ EQ => RV.move rfl) ?_
          refine DW.fix rfl rfl rfl (fun _ EQ => RV.fieldAddr Tf24_3 rfl) ?_
          refine DW.fix rfl rfl rfl (fun _ EQ => RV.load1 Tk22 rfl (((H.grow EQ).blk 1 rfl).cells.off 3) rfl) ?_
          refine DW.fix rfl rfl rfl (fun _ EQ => RV.move rfl) ?_
          refine DW.fix rfl rfl rfl (fun _ EQ => RV.indexAddr Ts22 rfl rfl hbx1 (h_a0_drains.addr_ hx1)) ?_
          refine DW.fix rfl rfl rfl (fun _ EQ => RV.fieldAddr Tf52_2 rfl) ?_
          refine DW.fix rfl rfl rfl (fun _ EQ => RV.load1 Tk3 rfl (((h_a0_drains.at_ hx1).ext (R0.trans EQ)).off 2) rfl) ?_
          refine DW.fix rfl rfl rfl (fun _ EQ => RV.add rfl rfl hg2) ?_
          refine DW.fix rfl rfl rfl (fun _ EQ => RV.loadA [.int .i64 a0.nodes, .int .i64 a0.from_, .int .i64 a0.to_, .slice A_a0_drains a0.drains.length c_a0_drains] Tk24 rfl ((H.grow EQ).blk 1 rfl).cells rfl rfl) ?_
          refine DW.sole rfl rfl rfl (OW.call Tc81 rfl (ref02_wide_ok (a0 := a0) (a1 := t6_1) (a2 := x1.width + 1) (h_a0_drains.ext R0) hr1) ?_)
          rintro _ w4 ⟨A76_0_drains, c76_0_drains, rfl, E3⟩
          refine ⟨_, rfl, fun _ => E3.ext, ModX.ext E3.ext, ?_⟩
          replace H : Hp w w4 [.own A76_0_drains c76_0_drains 52 3 (List.map encDrain r1.drains), .own Al3 cl3 3 1 (List.map encN l3), .blk b1 24 [.int .i64 a0.nodes, .int .i64 a0.from_, .int .i64 a0.to_, .slice A_a0_drains a0.drains.length c_a0_drains]] := H.append E3
          replace R0 := H.ext
          refine DW.sole rfl rfl rfl (OW.call Tc57 rfl (ref02_most_ok (a0 := r1) (H.own 0 rfl).sl hr2) ?_)
          rintro _ w5 ⟨rfl, E4⟩
          refine ⟨_, rfl, fun _ => E4, ModX.ext E4, ?_⟩
          replace H := H.grow E4
          replace R0 := H.ext
          refine DW.sole rfl rfl rfl (OW.call Tc57 rfl (ref02_most_ok (a0 := a0) (h_a0_drains.ext R0) hr3) ?_)
          rintro _ w6 ⟨rfl, E5⟩
          refine ⟨_, rfl, fun _ => E5, ModX.ext E5, ?_⟩
          replace H := H.grow E5
          replace R0 := H.ext
          refine DW.fix rfl rfl rfl (fun _ EQ => RV.gtr rfl rfl) ?_
          refine DW.nil (hK12 _ _ ?_)
          by_cases hp3 : r3 < r2
          ·
            replace F := ite_y hp3 F
            have hq3 := dec_t hp3
            refine CW.condT rfl hq3 ?_
            obtain ⟨hg3, F⟩ := gd_some F
            refine CW.region ?_
            refine LW.pure rfl rfl (RV.move rfl) ?_
            refine LW.pure rfl rfl (RV.move rfl) ?_
            refine LW.go rfl rfl (OW.buildSlice (e := 3) (vs := [.int .i64 t6_1]) (cs := [.int .i64 t6_1]) rfl (fun _ => by kernel_rfl) fun b2 w7 N2 => ?_)
            replace H := H.made' (k := 1) (t := 3) (enc := encN) (l := ([t6_1] : List Int)) N2 N2.blk (fun _ => rfl) rfl (by first | decide | omega | (simp; done) | (simp; omega))
            replace R0 := H.ext
            refine LW.go rfl rfl (OW.appendG (enc := encN) (l := l3) (xs := ([t6_1] : List Int)) Ts30 rfl (look_slice rfl (by first | rfl | (simp; done) | (simp; omega))) (H.own 2 rfl) (H.own 0 rfl).sl (fun _ => rfl) rfl rfl hg3 (by decide) fun A2 c2 w8 O1 M1 D1 => ?_)
            replace H : Hp w w8 [.own (some ⟨b2, 0, none⟩) ((([t6_1] : List Int)).length) 3 1 (List.map encN (([t6_1] : List Int))), .own A76_0_drains c76_0_drains 52 3 (List.map encDrain r1.drains), .own A2 c2 3 1 (List.map encN ((l3 ++ ([t6_1] : List Int)))), .blk b1 24 [.int .i64 a0.nodes, .int .i64 a0.from_, .int .i64 a0.to_, .slice A_a0_drains a0.drains.length c_a0_drains]] := H.mod 2 rfl M1 O1 D1
            replace R0 := H.ext
            refine LW.pure rfl rfl (RV.assign rfl) ?_
            replace H := H.pick (L' := [.own A2 c2 3 1 (List.map encN ((l3 ++ ([t6_1] : List Int)))), .blk b1 24 [.int .i64 a0.nodes, .int .i64 a0.from_, .int .i64 a0.to_, .slice A_a0_drains a0.drains.length c_a0_drains]]) [2, 3] (by decide) rfl
            replace R0 := H.ext
            refine LW.nil (jK78 _ _ ⟨_, ?_, ⟨((l3 ++ ([t6_1] : List Int))), A2, c2, F, rfl, H⟩⟩)
            exact ⟨rfl, rfl, rfl, (look_slice rfl (by first | rfl | (simp; done) | (simp; omega))), rfl, trivial⟩
          ·
            replace F := ite_n hp3 F
            have hq3 := dec_f hp3
            refine CW.condF rfl hq3 ?_
            replace H := H.pick (L' := [.own Al3 cl3 3 1 (List.map encN l3), .blk b1 24 [.int .i64 a0.nodes, .int .i64 a0.from_, .int .i64 a0.to_, .slice A_a0_drains a0.drains.length c_a0_drains]]) [1, 2] (by decide) rfl
            replace R0 := H.ext
            refine CW.skip (jK78 _ _ ⟨_, ?_, ⟨l3, Al3, cl3, F, rfl, H⟩⟩)
            exact ⟨rfl, rfl, rfl, (look_slice rfl (by first | rfl | (simp; done) | (simp; omega))), rfl, trivial⟩
      ·
        replace F := ite_n hp2 F
        have hq2 := dec_f hp2
        refine CW.condF rfl hq2 ?_
        replace H := H.pick (L' := [.own Al3 cl3 3 1 (List.map encN l3)]) [0] (by decide) rfl
        replace R0 := H.ext
        refine CW.exit (jK63 _ _ ⟨_, ?_, ⟨l3, Al3, cl3, F, rfl, H⟩⟩)
        exact ⟨rfl, rfl, (look_slice rfl (by first | rfl | (simp; done) | (simp; omega))), trivial⟩
  ·
    replace F := ite_n hp1 F
    have hq1 := dec_f hp1
    refine CW.condT rfl (not_t hq1) ?_
    refine CW.seq fun K13 hK13 => ?_
    refine CW.region ?_
    refine LW.pure rfl rfl (RV.move rfl) ?_
    refine LW.pure rfl rfl (RV.assign rfl) ?_
    refine LW.pure rfl rfl (RV.assign rfl) ?_
    refine LW.nil (hK13 _ _ ?_)
    refine CW.ret ?_
    obtain rfl := Option.some.inj F
    refine ⟨_, (ResOK.two rfl rfl), ?_⟩
    replace H := H.nilOwn 3 1
    replace R0 := H.ext
    replace H := H.pick (L' := [.own none 0 3 1 (List.map encN (([] : List Int)))]) [0] (by decide) rfl
    replace R0 := H.ext
    exact ⟨none, 0, (by first | rfl | (simp; done) | (simp; omega)), H⟩
set_option maxRecDepth 20000 in
set_option maxHeartbeats 1000000 in
theorem drain_Needless_1_ok {cap0 : Net} {cap1 : Int} {a0 : Int} {A_cap0_drains : Option Addr} {c_cap0_drains : Nat} {b_cap0 : Nat} {b_cap1 : Nat} {w : World} {res : Bool} (h_cap0_drains : Sl w A_cap0_drains c_cap0_drains 3 (cap0.drains.map encDrain)) (hc_cap0 : Cells w ⟨b_cap0, 0, none⟩ [.int .i64 cap0.nodes, .int .i64 cap0.from_, .int .i64 cap0.to_, .slice A_cap0_drains cap0.drains.length c_cap0_drains]) (hc_cap1 : Cells w ⟨b_cap1, 0, none⟩ [.int .i64 cap1]) (F : drain_Needless_1 cap0 cap1 a0 = some res) : Calls Try.prog 85 #[.int .i64 a0, .pointer (some (⟨b_cap0, 0, none⟩)), .pointer (some (⟨b_cap1, 0, none⟩))] w (Rt w (.bool res)) := by
  refine calls_of_cw (args := [.int .i64 a0, .pointer (some (⟨b_cap0, 0, none⟩)), .pointer (some (⟨b_cap1, 0, none⟩))]) Try.func85 rfl rfl rfl rfl ?_
  have H := Hp.start w
  have R0 := H.ext
  unfold drain_Needless_1 at F
  refine CW.seq fun K1 hK1 => ?_
  refine CW.region ?_
  refine LW.pure rfl rfl (RV.assign rfl) ?_
  refine LW.nil (hK1 _ _ ?_)
  refine CW.seq fun K2 hK2 => ?_
  obtain ⟨r1, hr1, F⟩ := bnd_some F
  obtain ⟨r2, hr2, F⟩ := bnd_some F
  refine CW.draw [] (fun _ => True) (.cons 0 1 (.cons 1 1 (.cons 4 1 (.cons 2 0 (.cons 3 0 (.cons 5 1 (.cons 6 1 .nil))))))) mixed (by kernel_rfl) fun w1 E1 => ?_
  replace H := H.grow E1
  replace R0 := H.ext
  refine DW.fix rfl rfl rfl (fun _ EQ => RV.loadA [.int .i64 cap0.nodes, .int .i64 cap0.from_, .int .i64 cap0.to_, .slice A_cap0_drains cap0.drains.length c_cap0_drains] Tk24 rfl (hc_cap0.ext (R0.trans EQ)) rfl rfl) ?_
  refine DW.fix rfl rfl rfl (fun _ EQ => RV.move rfl) ?_
  refine DW.fix rfl rfl rfl (fun _ EQ => RV.load1 Tk3 rfl (hc_cap1.ext (R0.trans EQ)) rfl) ?_
  refine DW.sole rfl rfl rfl (OW.call Tc80 rfl (drain_changed_ok (a0 := cap0) (a1 := a0) (a2 := (0 : Int)) (h_cap0_drains.ext R0) hr1) ?_)
  rintro _ w2 ⟨A5_0_drains, c5_0_drains, rfl, E2⟩
  refine ⟨_, rfl, fun _ => E2.ext, ModX.ext E2.ext, ?_⟩
  replace H : Hp w w2 [.own A5_0_drains c5_0_drains 52 3 (List.map encDrain r1.drains)] := H.append E2
  replace R0 := H.ext
  refine DW.sole rfl rfl rfl (OW.call Tc56 rfl (drain_most_ok (a0 := r1) (H.own 0 rfl).sl hr2) ?_)
  rintro _ w3 ⟨rfl, E3⟩
  refine ⟨_, rfl, fun _ => E3, ModX.ext E3, ?_⟩
  replace H := H.grow E3
  replace R0 := H.ext
  refine DW.fix rfl rfl rfl (fun _ EQ => RV.eqi rfl rfl) ?_
  refine DW.fix rfl rfl rfl (fun _ EQ => RV.assign rfl) ?_
  refine DW.nil (hK2 _ _ ?_)
  refine CW.ret ?_
  obtain rfl := Option.some.inj F
  refine ⟨_, (ResOK.one rfl), ?_⟩
  refine ⟨(by first | rfl | simp), R0⟩
set_option maxRecDepth 20000 in
set_option maxHeartbeats 1000000 in
theorem drain_Needless_ok {a0 : Net} {A_a0_drains : Option Addr} {c_a0_drains : Nat} {w : World} {res : (List Int) × Int} (h_a0_drains : Sl w A_a0_drains c_a0_drains 3 (a0.drains.map encDrain)) (F : drain_Needless a0 = some res) : Calls Try.prog 48 #[.agg #[.int .i64 a0.nodes, .int .i64 a0.from_, .int .i64 a0.to_, .slice A_a0_drains a0.drains.length c_a0_drains]] w (fun e w' => ∃ (A0 : Option Addr) (c0 : Nat), e = .returned (.tuple #[.slice A0 res.1.length c0, .int .i64 res.2]) ∧ Hp w w' [.own A0 c0 3 1 (List.map encN res.1)]) := by
  refine calls_of_cw (args := [.agg #[.int .i64 a0.nodes, .int .i64 a0.from_, .int .i64 a0.to_, .slice A_a0_drains a0.drains.length c_a0_drains]]) Try.func48 rfl rfl rfl rfl ?_
  have H := Hp.start w
  have R0 := H.ext
  unfold drain_Needless at F
  refine CW.seq fun K1 hK1 => ?_
  refine CW.region ?_
  refine LW.go rfl rfl (OW.box rfl fun b1 w1 N1 => ?_)
  replace H := H.new N1 N1.blk
  replace R0 := H.ext
  refine LW.pure rfl rfl (RV.assign rfl) ?_
  refine LW.pure rfl rfl (RV.assign rfl) ?_
  refine LW.nil (hK1 _ _ ?_)
  refine CW.seq fun K2 hK2 => ?_
  refine CW.seq fun K3 hK3 => ?_
  obtain ⟨r1, hr1, F⟩ := bnd_some F
  refine CW.region ?_
  refine LW.pure rfl rfl (RV.loadA [.int .i64 a0.nodes, .int .i64 a0.from_, .int .i64 a0.to_, .slice A_a0_drains a0.drains.length c_a0_drains] Tk24 rfl (H.blk 0 rfl).cells rfl rfl) ?_
  refine LW.go rfl rfl (OW.call Tc26 rfl (drain_Validate_ok (a0 := a0) (h_a0_drains.ext R0) hr1) ?_)
  rintro _ w2 ⟨rfl, E1⟩
  refine ⟨_, rfl, ?_⟩
  replace H := H.grow E1
  replace R0 := H.ext
  refine LW.pure rfl rfl (RV.assign rfl) ?_
  refine LW.nil (hK3 _ _ ?_)
  refine CW.seq fun K4 hK4 => ?_
  refine CW.region ?_
  refine LW.pure rfl rfl (RV.move rfl) ?_
  refine LW.pure rfl rfl (RV.nei rfl rfl) ?_
  refine LW.nil (hK4 _ _ ?_)
  by_cases hp1 : r1 = 0
  ·
    replace F := ite_y hp1 F
    have hq1 := dec_t hp1
    refine CW.condF rfl (not_f hq1) ?_
    refine CW.skip (hK2 _ _ ?_)
    refine CW.seq fun K5 hK5 => ?_
    obtain ⟨r2, hr2, F⟩ := bnd_some F
    refine CW.region ?_
    refine LW.pure rfl rfl (RV.loadA [.int .i64 a0.nodes, .int .i64 a0.from_, .int .i64 a0.to_, .slice A_a0_drains a0.drains.length c_a0_drains] Tk24 rfl (H.blk 0 rfl).cells rfl rfl) ?_
    refine LW.go rfl rfl (OW.call Tc56 rfl (drain_most_ok (a0 := a0) (h_a0_drains.ext R0) hr2) ?_)
    rintro _ w3 ⟨rfl, E2⟩
    refine ⟨_, rfl, ?_⟩
    replace H := H.grow E2
    replace R0 := H.ext
    refine LW.go rfl rfl (OW.alloc Tz3 fun b2 w4 N2 => ?_)
    replace H := H.new N2 N2.blk
    replace R0 := H.ext
    refine LW.go rfl rfl (OW.store Tk3 rfl rfl (H.blk 0 rfl) (off := 0) (vs := [.int .i64 r2]) rfl rfl rfl rfl rfl fun w5 S1 => ?_)
    replace H : Hp w w5 [.blk b2 3 [.int .i64 r2], .blk b1 24 [.int .i64 a0.nodes, .int .i64 a0.from_, .int .i64 a0.to_, .slice A_a0_drains a0.drains.length c_a0_drains]] := H.stored 0 rfl S1
    replace R0 := H.ext
    refine LW.nil (hK5 _ _ ?_)
    refine CW.seq fun K6 hK6 => ?_
    obtain ⟨r3, hr3, F⟩ := bnd_some F
    refine CW.region ?_
    refine LW.pure rfl rfl (RV.loadA [.int .i64 a0.nodes, .int .i64 a0.from_, .int .i64 a0.to_, .slice A_a0_drains a0.drains.length c_a0_drains] Tk24 rfl (H.blk 1 rfl).cells rfl rfl) ?_
    refine LW.pure rfl rfl (RV.makeFunc (fs := []) (cs := [.pointer (some (⟨b1, 0, none⟩)), .pointer (some (⟨b2, 0, none⟩))]) rfl rfl) ?_
    refine LW.go rfl rfl (OW.call Tc82 rfl (drain_those_ok (a0 := a0) (a1 := (fun x0 => drain_Needless_1 a0 r2 x0)) (h_a0_drains.ext R0) (fun x0 r hF w6 hE => CallsV.cap Tc85 (by simp) (drain_Needless_1_ok (cap0 := a0) (cap1 := r2) (a0 := x0) ((h_a0_drains.ext R0).ext hE) ((H.blk 1 rfl).cells.ext hE) ((H.blk 0 rfl).cells.ext hE) hF)) hr3) ?_)
    rintro _ w7 ⟨A9_0, c9_0, rfl, E3⟩
    refine ⟨_, rfl, ?_⟩
    replace H : Hp w w7 [.own A9_0 c9_0 3 1 (List.map encN r3), .blk b2 3 [.int .i64 r2], .blk b1 24 [.int .i64 a0.nodes, .int .i64 a0.from_, .int .i64 a0.to_, .slice A_a0_drains a0.drains.length c_a0_drains]] := H.append E3
    replace R0 := H.ext
    refine LW.pure rfl rfl (RV.assign rfl) ?_
    refine LW.pure rfl rfl (RV.assign rfl) ?_
    refine LW.nil (hK6 _ _ ?_)
    refine CW.ret ?_
    obtain rfl := Option.some.inj F
    refine ⟨_, (ResOK.two rfl rfl), ?_⟩
    replace H := H.pick (L' := [.own A9_0 c9_0 3 1 (List.map encN r3)]) [0] (by decide) rfl
    replace R0 := H.ext
    exact ⟨A9_0, c9_0, (by first | rfl | (simp; done) | (simp; omega)), H⟩
  ·
    replace F := ite_n hp1 F
    have hq1 := dec_f hp1
    refine CW.condT rfl (not_t hq1) ?_
    refine CW.seq fun K7 hK7 => ?_
    refine CW.region ?_
    refine LW.pure rfl rfl (RV.move rfl) ?_
    refine LW.pure rfl rfl (RV.assign rfl) ?_
    refine LW.pure rfl rfl (RV.assign rfl) ?_
    refine LW.nil (hK7 _ _ ?_)
    refine CW.ret ?_
    obtain rfl := Option.some.inj F
    refine ⟨_, (ResOK.two rfl rfl), ?_⟩
    replace H := H.nilOwn 3 1
    replace R0 := H.ext
    replace H := H.pick (L' := [.own none 0 3 1 (List.map encN (([] : List Int)))]) [0] (by decide) rfl
    replace R0 := H.ext
    exact ⟨none, 0, (by first | rfl | (simp; done) | (simp; omega)), H⟩
end Go.D2

set_option linter.unusedVariables false
set_option linter.unusedSimpArgs false
namespace Go.D2
open Go.Tb Go.Proofs Go.RowKit
theorem Tc45 : callable Try.prog 45 = true := by kernel_rfl
theorem Tc46 : callable Try.prog 46 = true := by kernel_rfl
theorem Tc47 : callable Try.prog 47 = true := by kernel_rfl
theorem Tc48 : callable Try.prog 48 = true := by kernel_rfl
theorem Tc49 : callable Try.prog 49 = true := by kernel_rfl
set_option maxRecDepth 20000 in
set_option maxHeartbeats 1000000 in
theorem ref02_Needless_ok {a0 : Net} {A_a0_drains : Option Addr} {c_a0_drains : Nat} {w : World} {res : (List Int) × Int} (h_a0_drains : Sl w A_a0_drains c_a0_drains 3 (a0.drains.map encDrain)) (F : ref02_Needless a0 = some res) : Calls Try.prog 49 #[.agg #[.int .i64 a0.nodes, .int .i64 a0.from_, .int .i64 a0.to_, .slice A_a0_drains a0.drains.length c_a0_drains]] w (fun e w' => ∃ (A1 : Option Addr) (c1 : Nat), e = .returned (.tuple #[.slice A1 res.1.length c1, .int .i64 res.2]) ∧ Hp w w' [.own A1 c1 3 1 (List.map encN res.1)]) := by
  refine calls_of_cw (args := [.agg #[.int .i64 a0.nodes, .int .i64 a0.from_, .int .i64 a0.to_, .slice A_a0_drains a0.drains.length c_a0_drains]]) Try.func49 rfl rfl rfl rfl ?_
  have H := Hp.start w
  have R0 := H.ext
  unfold ref02_Needless at F
  refine CW.seq fun K1 hK1 => ?_
  refine CW.region ?_
  refine LW.go rfl rfl (OW.box rfl fun b1 w1 N1 => ?_)
  replace H := H.new N1 N1.blk
  replace R0 := H.ext
  refine LW.pure rfl rfl (RV.assign rfl) ?_
  refine LW.pure rfl rfl (RV.assign rfl) ?_
  refine LW.nil (hK1 _ _ ?_)
  refine CW.seq fun K2 hK2 => ?_
  refine CW.seq fun K3 hK3 => ?_
  obtain ⟨r4, hr4, F⟩ := bnd_some F
  refine CW.region ?_
  refine LW.pure rfl rfl (RV.loadA [.int .i64 a0.nodes, .int .i64 a0.from_, .int .i64 a0.to_, .slice A_a0_drains a0.drains.length c_a0_drains] Tk24 rfl (H.blk 0 rfl).cells rfl rfl) ?_
  refine LW.go rfl rfl (OW.call Tc27 rfl (ref02_Validate_ok (a0 := a0) (h_a0_drains.ext R0) hr4) ?_)
  rintro _ w2 ⟨rfl, E1⟩
  refine ⟨_, rfl, ?_⟩
  replace H := H.grow E1
  replace R0 := H.ext
  refine LW.pure rfl rfl (RV.assign rfl) ?_
  refine LW.nil (hK3 _ _ ?_)
  refine CW.seq fun K4 hK4 => ?_
  refine CW.region ?_
  refine LW.pure rfl rfl (RV.move rfl) ?_
  refine LW.pure rfl rfl (RV.nei rfl rfl) ?_
  refine LW.nil (hK4 _ _ ?_)
  by_cases hp1 : r4 = 0
  ·
    replace F := ite_y hp1 F
    have hq1 := dec_t hp1
    refine CW.condF rfl (not_f hq1) ?_
    refine CW.skip (hK2 _ _ ?_)
    refine CW.seq fun K5 hK5 => ?_
    refine CW.region ?_
    refine LW.pure rfl rfl (RV.assign rfl) ?_
    refine LW.nil (hK5 _ _ ?_)
    refine CW.seqJ (fun ρ wl1 => (∃ (l1 : List Int) (Al1 : Option Addr) (cl1 : Nat), ref02_Needless_k1 l1 = some res ∧ ρ = [(2, .slice none 0 0), (3, .int .i64 0), (5, .slice Al1 l1.length cl1)] ∧ Hp w wl1 [.own Al1 cl1 3 1 (List.map encN l1)])) ?_ ?_
    ·
      rintro _ wl1 ⟨l1, Al1, cl1, F, rfl, H⟩
      have R0 := H.ext
      unfold ref02_Needless_k1 at F
      refine CW.seq fun K6 hK6 => ?_
      refine CW.region ?_
      refine LW.pure rfl rfl (RV.move rfl) ?_
      refine LW.pure rfl rfl (RV.assign rfl) ?_
      refine LW.pure rfl rfl (RV.assign rfl) ?_
      refine LW.nil (hK6 _ _ ?_)
      refine CW.ret ?_
      obtain rfl := Option.some.inj F
      refine ⟨_, (ResOK.two rfl rfl), ?_⟩
      exact ⟨Al1, cl1, (by first | rfl | (simp; done) | (simp; omega)), H⟩
    ·
      intro K7 hK7 jK63
      refine CW.seq fun K8 hK8 => ?_
      refine CW.region ?_
      refine LW.pure rfl rfl (RV.assign rfl) ?_
      refine LW.nil (hK8 _ _ ?_)
      refine CW.block ?_
      replace H := H.nilOwn 3 1
      replace R0 := H.ext
      refine CW.loop (fun meas ρ wl2 => ∃ (t6_1 : Int) (l3 : List Int) (Al3 : Option Addr) (cl3 : Nat), ref02_Needless_L1 a0 meas t6_1 l3 = some res ∧ ρ = [(1, .pointer (some (⟨b1, 0, none⟩))), (2, .slice none 0 0), (3, .int .i64 0), (5, .slice Al3 l3.length cl3), (6, .int .i64 t6_1)] ∧ Hp w wl2 [.own Al3 cl3 3 1 (List.map encN l3), .blk b1 24 [.int .i64 a0.nodes, .int .i64 a0.from_, .int .i64 a0.to_, .slice A_a0_drains a0.drains.length c_a0_drains]]) FU ⟨_, ?_, ((0 : Int)), (([] : List Int)), none, 0, F, rfl, H⟩ ?_
      · exact ⟨rfl, rfl, rfl, (look_slice rfl (by first | rfl | (simp; done) | (simp; omega))), rfl, trivial⟩
      rintro mk1 _ wl2 ⟨t6_1, l3, Al3, cl3, F, rfl, H⟩
      have R0 := H.ext
      replace F := ref02_Needless_L1_s F
      obtain ⟨mk1, rfl, F⟩ := F
      generalize hrec1 : ref02_Needless_L1 a0 mk1 = rec1 at F
      unfold ref02_Needless_B1 at F
      refine CW.seq fun K9 hK9 => ?_
      refine CW.seq fun K10 hK10 => ?_
      refine CW.region ?_
      refine LW.pure rfl rfl (RV.move rfl) ?_
      refine LW.pure rfl rfl (RV.fieldAddr Tf24_3 rfl) ?_
      refine LW.pure rfl rfl (RV.load1 Tk22 rfl ((H.blk 1 rfl).cells.off 3) rfl) ?_
      refine LW.pure rfl rfl (RV.len Ts22 rfl) ?_
      refine LW.pure rfl rfl (RV.lss rfl rfl) ?_
      refine LW.nil (hK10 _ _ ?_)
      by_cases hp2 : t6_1 < ((a0.drains.length : Int))
      ·
        replace F := ite_y hp2 F
        have hq2 := dec_t hp2
        refine CW.condT rfl hq2 ?_
        refine CW.skip (hK9 _ _ ?_)
        refine CW.seqJ (fun ρ wl3 => (∃ (l2 : List Int) (Al2 : Option Addr) (cl2 : Nat), ref02_Needless_k2 t6_1 rec1 l2 = some res ∧ ρ = [(1, .pointer (some (⟨b1, 0, none⟩))), (2, .slice none 0 0), (3, .int .i64 0), (5, .slice Al2 l2.length cl2), (6, .int .i64 t6_1)] ∧ Hp w wl3 [.own Al2 cl2 3 1 (List.map encN l2), .blk b1 24 [.int .i64 a0.nodes, .int .i64 a0.from_, .int .i64 a0.to_, .slice A_a0_drains a0.drains.length c_a0_drains]])) ?_ ?_
        ·
          rintro _ wl3 ⟨l2, Al2, cl2, F, rfl, H⟩
          have R0 := H.ext
          unfold ref02_Needless_k2 at F
          obtain ⟨hg1, F⟩ := gd_some F
          refine CW.region ?_
          refine LW.pure rfl rfl (RV.move rfl) ?_
          refine LW.pure rfl rfl (RV.add rfl rfl hg1) ?_
          refine LW.pure rfl rfl (RV.assign rfl) ?_
          refine LW.nil ?_
          subst hrec1
          refine ⟨mk1, Nat.lt_succ_self _, _, ?_, (t6_1 + 1), l2, Al2, cl2, F, rfl, H⟩
          exact ⟨rfl, rfl, rfl, (look_slice rfl (by first | rfl | (simp; done) | (simp; omega))), rfl, trivial⟩
        ·
          intro K11 hK11 jK78
          refine CW.block ?_
          refine CW.seq fun K12 hK12 => ?_
          obtain ⟨r1, hr1, F⟩ := bnd_some F
          obtain ⟨r2, hr2, F⟩ := bnd_some F
          obtain ⟨r3, hr3, F⟩ := bnd_some F
          refine CW.draw [] (fun _ => True) (.cons 0 1 (.cons 1 1 (.cons 4 1 (.cons 2 0 (.cons 3 0 (.cons 5 0 (.cons 6 1 .nil))))))) mixed (by kernel_rfl) fun w3 E2 => ?_
          replace H := H.grow E2
          replace R0 := H.ext
          refine DW.fix rfl rfl rfl (fun _ EQ => RV.loadA [.int .i64 a0.nodes, .int .i64 a0.from_, .int .i64 a0.to_, .slice A_a0_drains a0.drains.length c_a0_drains] Tk24 rfl ((H.grow EQ).blk 1 rfl).cells rfl rfl) ?_
          refine DW.fix rfl rfl rfl (fun _ EQ => RV.move rfl) ?_
          refine DW.fix rfl rfl rfl (fun _ EQ => RV.loadA [.int .i64 a0.nodes, .int .i64 a0.from_, .int .i64 a0.to_, .slice A_a0_drains a0.drains.length c_a0_drains] Tk24 rfl ((H.grow EQ).blk 1 rfl).cells rfl rfl) ?_
          refine DW.sole rfl rfl rfl (OW.call Tc81 rfl (ref02_wide_ok (a0 := a0) (a1 := t6_1) (a2 := (0 : Int)) (h_a0_drains.ext R0) hr1) ?_)
          rintro _ w4 ⟨A76_0_drains, c76_0_drains, rfl, E3⟩
          refine ⟨_, rfl, fun _ => E3.ext, ModX.ext E3.ext, ?_⟩
          replace H : Hp w w4 [.own A76_0_drains c76_0_drains 52 3 (List.map encDrain r1.drains), .own Al3 cl3 3 1 (List.map encN l3), .blk b1 24 [.int .i64 a0.nodes, .int .i64 a0.from_, .int .i64 a0.to_, .slice A_a0_drains a0.drains.length c_a0_drains]] := H.append E3
          replace R0 := H.ext
          refine DW.sole rfl rfl rfl (OW.call Tc57 rfl (ref02_most_ok (a0 := r1) (H.own 0 rfl).sl hr2) ?_)
          rintro _ w5 ⟨rfl, E4⟩
          refine ⟨_, rfl, fun _ => E4, ModX.ext E4, ?_⟩
          replace H := H.grow E4
          replace R0 := H.ext
          refine DW.sole rfl rfl rfl (OW.call Tc57 rfl (ref02_most_ok (a0 := a0) (h_a0_drains.ext R0) hr3) ?_)
          rintro _ w6 ⟨rfl, E5⟩
          refine ⟨_, rfl, fun _ => E5, ModX.ext E5, ?_⟩
          replace H := H.grow E5
          replace R0 := H.ext
          refine DW.fix rfl rfl rfl (fun _ EQ => RV.eqi rfl rfl) ?_
          refine DW.nil (hK12 _ _ ?_)
          by_cases hp3 : r2 = r3
          ·
            replace F := ite_y hp3 F
            have hq3 := dec_t hp3
            refine CW.condT rfl hq3 ?_
            obtain ⟨hg2, F⟩ := gd_some F
            refine CW.region ?_
            refine LW.pure rfl rfl (RV.move rfl) ?_
            refine LW.pure rfl rfl (RV.move rfl) ?_
            refine LW.go rfl rfl (OW.buildSlice (e := 3) (vs := [.int .i64 t6_1]) (cs := [.int .i64 t6_1]) rfl (fun _ => by kernel_rfl) fun b2 w7 N2 => ?_)
            replace H := H.made' (k := 1) (t := 3) (enc := encN) (l := ([t6_1] : List Int)) N2 N2.blk (fun _ => rfl) rfl (by first | decide | omega | (simp; done) | (simp; omega))
            replace R0 := H.ext
            refine LW.go rfl rfl (OW.appendG (enc := encN) (l := l3) (xs := ([t6_1] : List Int)) Ts30 rfl (look_slice rfl (by first | rfl | (simp; done) | (simp; omega))) (H.own 2 rfl) (H.own 0 rfl).sl (fun _ => rfl) rfl rfl hg2 (by decide) fun A2 c2 w8 O1 M1 D1 => ?_)
            replace H : Hp w w8 [.own (some ⟨b2, 0, none⟩) ((([t6_1] : List Int)).length) 3 1 (List.map encN (([t6_1] : List Int))), .own A76_0_drains c76_0_drains 52 3 (List.map encDrain r1.drains), .own A2 c2 3 1 (List.map encN ((l3 ++ ([t6_1] : List Int)))), .blk b1 24 [.int .i64 a0.nodes, .int .i64 a0.from_, .int .i64 a0.to_, .slice A_a0_drains a0.drains.length c_a0_drains]] := H.mod 2 rfl M1 O1 D1
            replace R0 := H.ext
            refine LW.pure rfl rfl (RV.assign rfl) ?_
            replace H := H.pick (L' := [.own A2 c2 3 1 (List.map encN ((l3 ++ ([t6_1] : List Int)))), .blk b1 24 [.int .i64 a0.nodes, .int .i64 a0.from_, .int .i64 a0.to_, .slice A_a0_drains a0.drains.length c_a0_drains]]) [2, 3] (by decide) rfl
            replace R0 := H.ext
            refine LW.nil (jK78 _ _ ⟨_, ?_, ⟨((l3 ++ ([t6_1] : List Int))), A2, c2, F, rfl, H⟩⟩)
            exact ⟨rfl, rfl, rfl, (look_slice rfl (by first | rfl | (simp; done) | (simp; omega))), rfl, trivial⟩
          ·
            replace F := ite_n hp3 F
            have hq3 := dec_f hp3
            refine CW.condF rfl hq3 ?_
            replace H := H.pick (L' := [.own Al3 cl3 3 1 (List.map encN l3), .blk b1 24 [.int .i64 a0.nodes, .int .i64 a0.from_, .int .i64 a0.to_, .slice A_a0_drains a0.drains.length c_a0_drains]]) [1, 2] (by decide) rfl
            replace R0 := H.ext
            refine CW.skip (jK78 _ _ ⟨_, ?_, ⟨l3, Al3, cl3, F, rfl, H⟩⟩)
            exact ⟨rfl, rfl, rfl, (look_slice rfl (by first | rfl | (simp; done) | (simp; omega))), rfl, trivial⟩
      ·
        replace F := ite_n hp2 F
        have hq2 := dec_f hp2
        refine CW.condF rfl hq2 ?_
        replace H := H.pick (L' := [.own Al3 cl3 3 1 (List.map encN l3)]) [0] (by decide) rfl
        replace R0 := H.ext
        refine CW.exit (jK63 _ _ ⟨_, ?_, ⟨l3, Al3, cl3, F, rfl, H⟩⟩)
        exact ⟨rfl, rfl, (look_slice rfl (by first | rfl | (simp; done) | (simp; omega))), trivial⟩
  ·
    replace F := ite_n hp1 F
    have hq1 := dec_f hp1
    refine CW.condT rfl (not_t hq1) ?_
    refine CW.seq fun K13 hK13 => ?_
    refine CW.region ?_
    refine LW.pure rfl rfl (RV.move rfl) ?_
    refine LW.pure rfl rfl (RV.assign rfl) ?_
    refine LW.pure rfl rfl (RV.assign rfl) ?_
    refine LW.nil (hK13 _ _ ?_)
    refine CW.ret ?_
    obtain rfl := Option.some.inj F
    refine ⟨_, (ResOK.two rfl rfl), ?_⟩
    replace H := H.nilOwn 3 1
    replace R0 := H.ext
    replace H := H.pick (L' := [.own none 0 3 1 (List.map encN (([] : List Int)))]) [0] (by decide) rfl
    replace R0 := H.ext
    exact ⟨none, 0, (by first | rfl | (simp; done) | (simp; omega)), H⟩
set_option maxRecDepth 20000 in
set_option maxHeartbeats 1000000 in
theorem law02_DrainCritical_ok {a0 : Net} {A_a0_drains : Option Addr} {c_a0_drains : Nat} {w : World} {res : Bool} (h_a0_drains : Sl w A_a0_drains c_a0_drains 3 (a0.drains.map encDrain)) (F : law02_DrainCritical a0 = some res) : Calls Try.prog 11 #[.agg #[.int .i64 a0.nodes, .int .i64 a0.from_, .int .i64 a0.to_, .slice A_a0_drains a0.drains.length c_a0_drains]] w (Rt w (.bool res)) := by
  refine calls_of_cw (args := [.agg #[.int .i64 a0.nodes, .int .i64 a0.from_, .int .i64 a0.to_, .slice A_a0_drains a0.drains.length c_a0_drains]]) Try.func11 rfl rfl rfl rfl ?_
  have H := Hp.start w
  have R0 := H.ext
  unfold law02_DrainCritical at F
  refine CW.seq fun K1 hK1 => ?_
  refine CW.region ?_
  refine LW.go rfl rfl (OW.box rfl fun b1 w1 N1 => ?_)
  replace H := H.new N1 N1.blk
  replace R0 := H.ext
  refine LW.pure rfl rfl (RV.assign rfl) ?_
  refine LW.nil (hK1 _ _ ?_)
  refine CW.seq fun K2 hK2 => ?_
  refine CW.seq fun K3 hK3 => ?_
  obtain ⟨r1, hr1, F⟩ := bnd_some F
  refine CW.region ?_
  refine LW.pure rfl rfl (RV.loadA [.int .i64 a0.nodes, .int .i64 a0.from_, .int .i64 a0.to_, .slice A_a0_drains a0.drains.length c_a0_drains] Tk24 rfl (H.blk 0 rfl).cells rfl rfl) ?_
  refine LW.go rfl rfl (OW.call Tc16 rfl (law02_Long_ok (a0 := a0) (h_a0_drains.ext R0) hr1) ?_)
  rintro _ w2 ⟨rfl, E1⟩
  refine ⟨_, rfl, ?_⟩
  replace H := H.grow E1
  replace R0 := H.ext
  refine LW.nil (hK3 _ _ ?_)
  by_cases hp1 : r1 = true
  ·
    replace F := ite_y hp1 F
    have hq1 : r1 = true := hp1
    refine CW.condT rfl hq1 ?_
    refine CW.seq fun K4 hK4 => ?_
    obtain ⟨r2, hr2, F⟩ := bnd_some F
    refine CW.region ?_
    refine LW.go rfl rfl (OW.call Tc17 rfl (law02_known_ok hr2) ?_)
    rintro _ w3 ⟨rfl, E2⟩
    refine ⟨_, rfl, ?_⟩
    replace H := H.grow E2
    replace R0 := H.ext
    refine LW.pure rfl rfl (RV.assign rfl) ?_
    refine LW.nil (hK4 _ _ ?_)
    refine CW.ret ?_
    obtain rfl := Option.some.inj F
    refine ⟨_, (ResOK.one rfl), ?_⟩
    refine ⟨(by first | rfl | simp), R0⟩
  ·
    replace F := ite_n hp1 F
    have hq1 : r1 = false := raw_f hp1
    refine CW.condF rfl hq1 ?_
    refine CW.skip (hK2 _ _ ?_)
    refine CW.seq fun K5 hK5 => ?_
    obtain ⟨r3, hr3, F⟩ := bnd_some F
    refine CW.region ?_
    refine LW.pure rfl rfl (RV.loadA [.int .i64 a0.nodes, .int .i64 a0.from_, .int .i64 a0.to_, .slice A_a0_drains a0.drains.length c_a0_drains] Tk24 rfl (H.blk 0 rfl).cells rfl rfl) ?_
    refine LW.go rfl rfl (OW.call Tc45 rfl (drain_Critical_ok (a0 := a0) (h_a0_drains.ext R0) hr3) ?_)
    rintro _ w4 ⟨A18_0, c18_0, rfl, E3⟩
    refine ⟨_, rfl, ?_⟩
    replace H : Hp w w4 [.own A18_0 c18_0 3 1 (List.map encN r3.1), .blk b1 24 [.int .i64 a0.nodes, .int .i64 a0.from_, .int .i64 a0.to_, .slice A_a0_drains a0.drains.length c_a0_drains]] := H.append E3
    replace R0 := H.ext
    refine LW.pure rfl rfl (RV.move rfl) ?_
    refine LW.pure rfl rfl (RV.extract rfl rfl) ?_
    refine LW.pure rfl rfl (RV.extract rfl rfl) ?_
    refine LW.pure rfl rfl (RV.assign rfl) ?_
    refine LW.pure rfl rfl (RV.assign rfl) ?_
    refine LW.nil (hK5 _ _ ?_)
    refine CW.seq fun K6 hK6 => ?_
    obtain ⟨r4, hr4, F⟩ := bnd_some F
    refine CW.region ?_
    refine LW.pure rfl rfl (RV.loadA [.int .i64 a0.nodes, .int .i64 a0.from_, .int .i64 a0.to_, .slice A_a0_drains a0.drains.length c_a0_drains] Tk24 rfl (H.blk 1 rfl).cells rfl rfl) ?_
    refine LW.go rfl rfl (OW.call Tc46 rfl (ref02_Critical_ok (a0 := a0) (h_a0_drains.ext R0) hr4) ?_)
    rintro _ w5 ⟨A20_0, c20_0, rfl, E4⟩
    refine ⟨_, rfl, ?_⟩
    replace H : Hp w w5 [.own A20_0 c20_0 3 1 (List.map encN r4.1), .own A18_0 c18_0 3 1 (List.map encN r3.1), .blk b1 24 [.int .i64 a0.nodes, .int .i64 a0.from_, .int .i64 a0.to_, .slice A_a0_drains a0.drains.length c_a0_drains]] := H.append E4
    replace R0 := H.ext
    refine LW.pure rfl rfl (RV.move rfl) ?_
    refine LW.pure rfl rfl (RV.extract rfl rfl) ?_
    refine LW.pure rfl rfl (RV.extract rfl rfl) ?_
    refine LW.pure rfl rfl (RV.assign rfl) ?_
    refine LW.pure rfl rfl (RV.assign rfl) ?_
    refine LW.nil (hK6 _ _ ?_)
    refine CW.seq fun K7 hK7 => ?_
    obtain ⟨r5, hr5, F⟩ := bnd_some F
    refine CW.region ?_
    refine LW.pure rfl rfl (RV.loadA [.int .i64 a0.nodes, .int .i64 a0.from_, .int .i64 a0.to_, .slice A_a0_drains a0.drains.length c_a0_drains] Tk24 rfl (H.blk 2 rfl).cells rfl rfl) ?_
    refine LW.go rfl rfl (OW.call Tc43 rfl (drain_Wanted_ok (a0 := a0) (h_a0_drains.ext R0) hr5) ?_)
    rintro _ w6 ⟨A22_0, c22_0, rfl, E5⟩
    refine ⟨_, rfl, ?_⟩
    replace H : Hp w w6 [.own A22_0 c22_0 3 1 (List.map encN r5.1), .own A20_0 c20_0 3 1 (List.map encN r4.1), .own A18_0 c18_0 3 1 (List.map encN r3.1), .blk b1 24 [.int .i64 a0.nodes, .int .i64 a0.from_, .int .i64 a0.to_, .slice A_a0_drains a0.drains.length c_a0_drains]] := H.append E5
    replace R0 := H.ext
    refine LW.pure rfl rfl (RV.move rfl) ?_
    refine LW.pure rfl rfl (RV.extract rfl rfl) ?_
    refine LW.pure rfl rfl (RV.extract rfl rfl) ?_
    refine LW.pure rfl rfl (RV.assign rfl) ?_
    refine LW.pure rfl rfl (RV.assign rfl) ?_
    refine LW.nil (hK7 _ _ ?_)
    refine CW.seq fun K8 hK8 => ?_
    obtain ⟨r6, hr6, F⟩ := bnd_some F
    refine CW.region ?_
    refine LW.pure rfl rfl (RV.loadA [.int .i64 a0.nodes, .int .i64 a0.from_, .int .i64 a0.to_, .slice A_a0_drains a0.drains.length c_a0_drains] Tk24 rfl (H.blk 3 rfl).cells rfl rfl) ?_
    refine LW.go rfl rfl (OW.call Tc47 rfl (ref02_Wanted_ok (a0 := a0) (h_a0_drains.ext R0) hr6) ?_)
    rintro _ w7 ⟨A24_0, c24_0, rfl, E6⟩
    refine ⟨_, rfl, ?_⟩
    replace H : Hp w w7 [.own A24_0 c24_0 3 1 (List.map encN r6.1), .own A22_0 c22_0 3 1 (List.map encN r5.1), .own A20_0 c20_0 3 1 (List.map encN r4.1), .own A18_0 c18_0 3 1 (List.map encN r3.1), .blk b1 24 [.int .i64 a0.nodes, .int .i64 a0.from_, .int .i64 a0.to_, .slice A_a0_drains a0.drains.length c_a0_drains]] := H.append E6
    replace R0 := H.ext
    refine LW.pure rfl rfl (RV.move rfl) ?_
    refine LW.pure rfl rfl (RV.extract rfl rfl) ?_
    refine LW.pure rfl rfl (RV.extract rfl rfl) ?_
    refine LW.pure rfl rfl (RV.assign rfl) ?_
    refine LW.pure rfl rfl (RV.assign rfl) ?_
    refine LW.nil (hK8 _ _ ?_)
    refine CW.seq fun K9 hK9 => ?_
    obtain ⟨r7, hr7, F⟩ := bnd_some F
    refine CW.region ?_
    refine LW.pure rfl rfl (RV.loadA [.int .i64 a0.nodes, .int .i64 a0.from_, .int .i64 a0.to_, .slice A_a0_drains a0.drains.length c_a0_drains] Tk24 rfl (H.blk 4 rfl).cells rfl rfl) ?_
    refine LW.go rfl rfl (OW.call Tc48 rfl (drain_Needless_ok (a0 := a0) (h_a0_drains.ext R0) hr7) ?_)
    rintro _ w8 ⟨A26_0, c26_0, rfl, E7⟩
    refine ⟨_, rfl, ?_⟩
    replace H : Hp w w8 [.own A26_0 c26_0 3 1 (List.map encN r7.1), .own A24_0 c24_0 3 1 (List.map encN r6.1), .own A22_0 c22_0 3 1 (List.map encN r5.1), .own A20_0 c20_0 3 1 (List.map encN r4.1), .own A18_0 c18_0 3 1 (List.map encN r3.1), .blk b1 24 [.int .i64 a0.nodes, .int .i64 a0.from_, .int .i64 a0.to_, .slice A_a0_drains a0.drains.length c_a0_drains]] := H.append E7
    replace R0 := H.ext
    refine LW.pure rfl rfl (RV.move rfl) ?_
    refine LW.pure rfl rfl (RV.extract rfl rfl) ?_
    refine LW.pure rfl rfl (RV.extract rfl rfl) ?_
    refine LW.pure rfl rfl (RV.assign rfl) ?_
    refine LW.pure rfl rfl (RV.assign rfl) ?_
    refine LW.nil (hK9 _ _ ?_)
    refine CW.seq fun K10 hK10 => ?_
    obtain ⟨r8, hr8, F⟩ := bnd_some F
    refine CW.region ?_
    refine LW.pure rfl rfl (RV.loadA [.int .i64 a0.nodes, .int .i64 a0.from_, .int .i64 a0.to_, .slice A_a0_drains a0.drains.length c_a0_drains] Tk24 rfl (H.blk 5 rfl).cells rfl rfl) ?_
    refine LW.go rfl rfl (OW.call Tc49 rfl (ref02_Needless_ok (a0 := a0) (h_a0_drains.ext R0) hr8) ?_)
    rintro _ w9 ⟨A28_0, c28_0, rfl, E8⟩
    refine ⟨_, rfl, ?_⟩
    replace H : Hp w w9 [.own A28_0 c28_0 3 1 (List.map encN r8.1), .own A26_0 c26_0 3 1 (List.map encN r7.1), .own A24_0 c24_0 3 1 (List.map encN r6.1), .own A22_0 c22_0 3 1 (List.map encN r5.1), .own A20_0 c20_0 3 1 (List.map encN r4.1), .own A18_0 c18_0 3 1 (List.map encN r3.1), .blk b1 24 [.int .i64 a0.nodes, .int .i64 a0.from_, .int .i64 a0.to_, .slice A_a0_drains a0.drains.length c_a0_drains]] := H.append E8
    replace R0 := H.ext
    refine LW.pure rfl rfl (RV.move rfl) ?_
    refine LW.pure rfl rfl (RV.extract rfl rfl) ?_
    refine LW.pure rfl rfl (RV.extract rfl rfl) ?_
    refine LW.pure rfl rfl (RV.assign rfl) ?_
    refine LW.pure rfl rfl (RV.assign rfl) ?_
    refine LW.nil (hK10 _ _ ?_)
    refine CW.seq fun K11 hK11 => ?_
    obtain ⟨r9, hr9, F⟩ := bnd_some F
    by_cases hp2 : r9 = true
    ·
      replace F := ite_y hp2 F
      have hq2 : r9 = true := hp2
      by_cases hp3 : r3.2 = r4.2
      ·
        replace F := ite_y hp3 F
        have hq3 := dec_t hp3
        obtain ⟨r10, hr10, F⟩ := bnd_some F
        by_cases hp4 : r10 = true
        ·
          replace F := ite_y hp4 F
          have hq4 : r10 = true := hp4
          by_cases hp5 : r5.2 = r6.2
          ·
            replace F := ite_y hp5 F
            have hq5 := dec_t hp5
            obtain ⟨r11, hr11, F⟩ := bnd_some F
            by_cases hp6 : r11 = true
            ·
              replace F := ite_y hp6 F
              have hq6 : r11 = true := hp6
              by_cases hp7 : r7.2 = r8.2
              ·
                replace F := ite_y hp7 F
                have hq7 := dec_t hp7
                obtain ⟨r12, hr12, F⟩ := bnd_some F
                refine CW.region ?_
                refine LW.pure rfl rfl (RV.move rfl) ?_
                refine LW.pure rfl rfl (RV.move rfl) ?_
                refine LW.go rfl rfl (OW.call Tc34 rfl (ref01_SameInts_ok (a0 := r3.1) (a1 := r4.1) (H.own 5 rfl).sl (H.own 4 rfl).sl hr9) ?_)
                rintro _ w10 ⟨rfl, E9⟩
                refine ⟨_, rfl, ?_⟩
                replace H := H.grow E9
                replace R0 := H.ext
                refine LW.pure rfl rfl (RV.move rfl) ?_
                refine LW.pureYB rfl rfl rfl rfl hq2 (RV.move rfl) ?_
                refine LW.pureYB rfl rfl rfl rfl hq2 (RV.move rfl) ?_
                refine LW.pureYB rfl rfl rfl rfl hq2 (RV.eqi rfl rfl) ?_
                refine LW.pure rfl rfl (RV.pickTB rfl hq2 rfl) ?_
                refine LW.pure rfl rfl (RV.move rfl) ?_
                refine LW.pureYB rfl rfl rfl rfl hq3 (RV.move rfl) ?_
                refine LW.pureYB rfl rfl rfl rfl hq3 (RV.move rfl) ?_
                refine LW.yesB rfl rfl rfl rfl hq3 (OW.call Tc34 rfl (ref01_SameInts_ok (a0 := r5.1) (a1 := r6.1) (H.own 3 rfl).sl (H.own 2 rfl).sl hr10) ?_)
                rintro _ w11 ⟨rfl, E10⟩
                refine ⟨_, rfl, ?_⟩
                replace H := H.grow E10
                replace R0 := H.ext
                refine LW.pure rfl rfl (RV.pickTB rfl hq3 rfl) ?_
                refine LW.pure rfl rfl (RV.move rfl) ?_
                refine LW.pureYB rfl rfl rfl rfl hq4 (RV.move rfl) ?_
                refine LW.pureYB rfl rfl rfl rfl hq4 (RV.move rfl) ?_
                refine LW.pureYB rfl rfl rfl rfl hq4 (RV.eqi rfl rfl) ?_
                refine LW.pure rfl rfl (RV.pickTB rfl hq4 rfl) ?_
                refine LW.pure rfl rfl (RV.move rfl) ?_
                refine LW.pureYB rfl rfl rfl rfl hq5 (RV.move rfl) ?_
                refine LW.pureYB rfl rfl rfl rfl hq5 (RV.move rfl) ?_
                refine LW.yesB rfl rfl rfl rfl hq5 (OW.call Tc34 rfl (ref01_SameInts_ok (a0 := r7.1) (a1 := r8.1) (H.own 1 rfl).sl (H.own 0 rfl).sl hr11) ?_)
                rintro _ w12 ⟨rfl, E11⟩
                refine ⟨_, rfl, ?_⟩
                replace H := H.grow E11
                replace R0 := H.ext
                refine LW.pure rfl rfl (RV.pickTB rfl hq5 rfl) ?_
                refine LW.pure rfl rfl (RV.move rfl) ?_
                refine LW.pureYB rfl rfl rfl rfl hq6 (RV.move rfl) ?_
                refine LW.pureYB rfl rfl rfl rfl hq6 (RV.move rfl) ?_
                refine LW.pureYB rfl rfl rfl rfl hq6 (RV.eqi rfl rfl) ?_
                refine LW.pure rfl rfl (RV.pickTB rfl hq6 rfl) ?_
                refine LW.pure rfl rfl (RV.move rfl) ?_
                refine LW.yesB rfl rfl rfl rfl hq7 (OW.call Tc17 rfl (law02_known_ok hr12) ?_)
                rintro _ w13 ⟨rfl, E12⟩
                refine ⟨_, rfl, ?_⟩
                replace H := H.grow E12
                replace R0 := H.ext
                refine LW.pure rfl rfl (RV.pickTB rfl hq7 rfl) ?_
                refine LW.pure rfl rfl (RV.assign rfl) ?_
                refine LW.nil (hK11 _ _ ?_)
                refine CW.ret ?_
                obtain rfl := Option.some.inj F
                refine ⟨_, (ResOK.one rfl), ?_⟩
                refine ⟨(by first | rfl | simp), R0⟩
              ·
                replace F := ite_n hp7 F
                have hq7 := dec_f hp7
                refine CW.region ?_
                refine LW.pure rfl rfl (RV.move rfl) ?_
                refine LW.pure rfl rfl (RV.move rfl) ?_
                refine LW.go rfl rfl (OW.call Tc34 rfl (ref01_SameInts_ok (a0 := r3.1) (a1 := r4.1) (H.own 5 rfl).sl (H.own 4 rfl).sl hr9) ?_)
                rintro _ w14 ⟨rfl, E13⟩
                refine ⟨_, rfl, ?_⟩
                replace H := H.grow E13
                replace R0 := H.ext
                refine LW.pure rfl rfl (RV.move rfl) ?_
                refine LW.pureYB rfl rfl rfl rfl hq2 (RV.move rfl) ?_
                refine LW.pureYB rfl rfl rfl rfl hq2 (RV.move rfl) ?_
                refine LW.pureYB rfl rfl rfl rfl hq2 (RV.eqi rfl rfl) ?_
                refine LW.pure rfl rfl (RV.pickTB rfl hq2 rfl) ?_
                refine LW.pure rfl rfl (RV.move rfl) ?_
                refine LW.pureYB rfl rfl rfl rfl hq3 (RV.move rfl) ?_
                refine LW.pureYB rfl rfl rfl rfl hq3 (RV.move rfl) ?_
                refine LW.yesB rfl rfl rfl rfl hq3 (OW.call Tc34 rfl (ref01_SameInts_ok (a0 := r5.1) (a1 := r6.1) (H.own 3 rfl).sl (H.own 2 rfl).sl hr10) ?_)
                rintro _ w15 ⟨rfl, E14⟩
                refine ⟨_, rfl, ?_⟩
                replace H := H.grow E14
                replace R0 := H.ext
                refine LW.pure rfl rfl (RV.pickTB rfl hq3 rfl) ?_
                refine LW.pure rfl rfl (RV.move rfl) ?_
                refine LW.pureYB rfl rfl rfl rfl hq4 (RV.move rfl) ?_
                refine LW.pureYB rfl rfl rfl rfl hq4 (RV.move rfl) ?_
                refine LW.pureYB rfl rfl rfl rfl hq4 (RV.eqi rfl rfl) ?_
                refine LW.pure rfl rfl (RV.pickTB rfl hq4 rfl) ?_
                refine LW.pure rfl rfl (RV.move rfl) ?_
                refine LW.pureYB rfl rfl rfl rfl hq5 (RV.move rfl) ?_
                refine LW.pureYB rfl rfl rfl rfl hq5 (RV.move rfl) ?_
                refine LW.yesB rfl rfl rfl rfl hq5 (OW.call Tc34 rfl (ref01_SameInts_ok (a0 := r7.1) (a1 := r8.1) (H.own 1 rfl).sl (H.own 0 rfl).sl hr11) ?_)
                rintro _ w16 ⟨rfl, E15⟩
                refine ⟨_, rfl, ?_⟩
                replace H := H.grow E15
                replace R0 := H.ext
                refine LW.pure rfl rfl (RV.pickTB rfl hq5 rfl) ?_
                refine LW.pure rfl rfl (RV.move rfl) ?_
                refine LW.pureYB rfl rfl rfl rfl hq6 (RV.move rfl) ?_
                refine LW.pureYB rfl rfl rfl rfl hq6 (RV.move rfl) ?_
                refine LW.pureYB rfl rfl rfl rfl hq6 (RV.eqi rfl rfl) ?_
                refine LW.pure rfl rfl (RV.pickTB rfl hq6 rfl) ?_
                refine LW.pure rfl rfl (RV.move rfl) ?_
                refine LW.noB rfl rfl rfl rfl (ne_beq (v := false) hq7 rfl) ?_
                refine LW.pure rfl rfl (RV.pickFB rfl hq7 rfl) ?_
                refine LW.pure rfl rfl (RV.assign rfl) ?_
                refine LW.nil (hK11 _ _ ?_)
                refine CW.ret ?_
                obtain rfl := Option.some.inj F
                refine ⟨_, (ResOK.one rfl), ?_⟩
                refine ⟨(by first | rfl | simp), R0⟩
            ·
              replace F := ite_n hp6 F
              have hq6 : r11 = false := raw_f hp6
              refine CW.region ?_
              refine LW.pure rfl rfl (RV.move rfl) ?_
              refine LW.pure rfl rfl (RV.move rfl) ?_
              refine LW.go rfl rfl (OW.call Tc34 rfl (ref01_SameInts_ok (a0 := r3.1) (a1 := r4.1) (H.own 5 rfl).sl (H.own 4 rfl).sl hr9) ?_)
              rintro _ w17 ⟨rfl, E16⟩
              refine ⟨_, rfl, ?_⟩
              replace H := H.grow E16
              replace R0 := H.ext
              refine LW.pure rfl rfl (RV.move rfl) ?_
              refine LW.pureYB rfl rfl rfl rfl hq2 (RV.move rfl) ?_
              refine LW.pureYB rfl rfl rfl rfl hq2 (RV.move rfl) ?_
              refine LW.pureYB rfl rfl rfl rfl hq2 (RV.eqi rfl rfl) ?_
              refine LW.pure rfl rfl (RV.pickTB rfl hq2 rfl) ?_
              refine LW.pure rfl rfl (RV.move rfl) ?_
              refine LW.pureYB rfl rfl rfl rfl hq3 (RV.move rfl) ?_
              refine LW.pureYB rfl rfl rfl rfl hq3 (RV.move rfl) ?_
              refine LW.yesB rfl rfl rfl rfl hq3 (OW.call Tc34 rfl (ref01_SameInts_ok (a0 := r5.1) (a1 := r6.1) (H.own 3 rfl).sl (H.own 2 rfl).sl hr10) ?_)
              rintro _ w18 ⟨rfl, E17⟩
              refine ⟨_, rfl, ?_⟩
              replace H := H.grow E17
              replace R0 := H.ext
              refine LW.pure rfl rfl (RV.pickTB rfl hq3 rfl) ?_
              refine LW.pure rfl rfl (RV.move rfl) ?_
              refine LW.pureYB rfl rfl rfl rfl hq4 (RV.move rfl) ?_
              refine LW.pureYB rfl rfl rfl rfl hq4 (RV.move rfl) ?_
              refine LW.pureYB rfl rfl rfl rfl hq4 (RV.eqi rfl rfl) ?_
              refine LW.pure rfl rfl (RV.pickTB rfl hq4 rfl) ?_
              refine LW.pure rfl rfl (RV.move rfl) ?_
              refine LW.pureYB rfl rfl rfl rfl hq5 (RV.move rfl) ?_
              refine LW.pureYB rfl rfl rfl rfl hq5 (RV.move rfl) ?_
              refine LW.yesB rfl rfl rfl rfl hq5 (OW.call Tc34 rfl (ref01_SameInts_ok (a0 := r7.1) (a1 := r8.1) (H.own 1 rfl).sl (H.own 0 rfl).sl hr11) ?_)
              rintro _ w19 ⟨rfl, E18⟩
              refine ⟨_, rfl, ?_⟩
              replace H := H.grow E18
              replace R0 := H.ext
              refine LW.pure rfl rfl (RV.pickTB rfl hq5 rfl) ?_
              refine LW.pure rfl rfl (RV.move rfl) ?_
              refine LW.noB rfl rfl rfl rfl (ne_beq (v := false) hq6 rfl) ?_
              refine LW.noB rfl rfl rfl rfl (ne_beq (v := false) hq6 rfl) ?_
              refine LW.noB rfl rfl rfl rfl (ne_beq (v := false) hq6 rfl) ?_
              refine LW.pure rfl rfl (RV.pickFB rfl hq6 rfl) ?_
              refine LW.pure rfl rfl (RV.move rfl) ?_
              refine LW.noB rfl rfl rfl rfl (ne_beq (v := false) rfl rfl) ?_
              refine LW.pure rfl rfl (RV.pickFB rfl rfl rfl) ?_
              refine LW.pure rfl rfl (RV.assign rfl) ?_
              refine LW.nil (hK11 _ _ ?_)
              refine CW.ret ?_
              obtain rfl := Option.some.inj F
              refine ⟨_, (ResOK.one rfl), ?_⟩
              refine ⟨(by first | rfl | simp), R0⟩
          ·
            replace F := ite_n hp5 F
            have hq5 := dec_f hp5
            refine CW.region ?_
            refine LW.pure rfl rfl (RV.move rfl) ?_
            refine LW.pure rfl rfl (RV.move rfl) ?_
            refine LW.go rfl rfl (OW.call Tc34 rfl (ref01_SameInts_ok (a0 := r3.1) (a1 := r4.1) (H.own 5 rfl).sl (H.own 4 rfl).sl hr9) ?_)
            rintro _ w20 ⟨rfl, E19⟩
            refine ⟨_, rfl, ?_⟩
            replace H := H.grow E19
            replace R0 := H.ext
            refine LW.pure rfl rfl (RV.move rfl) ?_
            refine LW.pureYB rfl rfl rfl rfl hq2 (RV.move rfl) ?_
            refine LW.pureYB rfl rfl rfl rfl hq2 (RV.move rfl) ?_
            refine LW.pureYB rfl rfl rfl rfl hq2 (RV.eqi rfl rfl) ?_
            refine LW.pure rfl rfl (RV.pickTB rfl hq2 rfl) ?_
            refine LW.pure rfl rfl (RV.move rfl) ?_
            refine LW.pureYB rfl rfl rfl rfl hq3 (RV.move rfl) ?_
            refine LW.pureYB rfl rfl rfl rfl hq3 (RV.move rfl) ?_
            refine LW.yesB rfl rfl rfl rfl hq3 (OW.call Tc34 rfl (ref01_SameInts_ok (a0 := r5.1) (a1 := r6.1) (H.own 3 rfl).sl (H.own 2 rfl).sl hr10) ?_)
            rintro _ w21 ⟨rfl, E20⟩
            refine ⟨_, rfl, ?_⟩
            replace H := H.grow E20
            replace R0 := H.ext
            refine LW.pure rfl rfl (RV.pickTB rfl hq3 rfl) ?_
            refine LW.pure rfl rfl (RV.move rfl) ?_
            refine LW.pureYB rfl rfl rfl rfl hq4 (RV.move rfl) ?_
            refine LW.pureYB rfl rfl rfl rfl hq4 (RV.move rfl) ?_
            refine LW.pureYB rfl rfl rfl rfl hq4 (RV.eqi rfl rfl) ?_
            refine LW.pure rfl rfl (RV.pickTB rfl hq4 rfl) ?_
            refine LW.pure rfl rfl (RV.move rfl) ?_
            refine LW.noB rfl rfl rfl rfl (ne_beq (v := false) hq5 rfl) ?_
            refine LW.noB rfl rfl rfl rfl (ne_beq (v := false) hq5 rfl) ?_
            refine LW.noB rfl rfl rfl rfl (ne_beq (v := false) hq5 rfl) ?_
            refine LW.pure rfl rfl (RV.pickFB rfl hq5 rfl) ?_
            refine LW.pure rfl rfl (RV.move rfl) ?_
            refine LW.noB rfl rfl rfl rfl (ne_beq (v := false) rfl rfl) ?_
            refine LW.noB rfl rfl rfl rfl (ne_beq (v := false) rfl rfl) ?_
            refine LW.noB rfl rfl rfl rfl (ne_beq (v := false) rfl rfl) ?_
            refine LW.pure rfl rfl (RV.pickFB rfl rfl rfl) ?_
            refine LW.pure rfl rfl (RV.move rfl) ?_
            refine LW.noB rfl rfl rfl rfl (ne_beq (v := false) rfl rfl) ?_
            refine LW.pure rfl rfl (RV.pickFB rfl rfl rfl) ?_
            refine LW.pure rfl rfl (RV.assign rfl) ?_
            refine LW.nil (hK11 _ _ ?_)
            refine CW.ret ?_
            obtain rfl := Option.some.inj F
            refine ⟨_, (ResOK.one rfl), ?_⟩
            refine ⟨(by first | rfl | simp), R0⟩
        ·
          replace F := ite_n hp4 F
          have hq4 : r10 = false := raw_f hp4
          refine CW.region ?_
          refine LW.pure rfl rfl (RV.move rfl) ?_
          refine LW.pure rfl rfl (RV.move rfl) ?_
          refine LW.go rfl rfl (OW.call Tc34 rfl (ref01_SameInts_ok (a0 := r3.1) (a1 := r4.1) (H.own 5 rfl).sl (H.own 4 rfl).sl hr9) ?_)
          rintro _ w22 ⟨rfl, E21⟩
          refine ⟨_, rfl, ?_⟩
          replace H := H.grow E21
          replace R0 := H.ext
          refine LW.pure rfl rfl (RV.move rfl) ?_
          refine LW.pureYB rfl rfl rfl rfl hq2 (RV.move rfl) ?_
          refine LW.pureYB rfl rfl rfl rfl hq2 (RV.move rfl) ?_
          refine LW.pureYB rfl rfl rfl rfl hq2 (RV.eqi rfl rfl) ?_
          refine LW.pure rfl rfl (RV.pickTB rfl hq2 rfl) ?_
          refine LW.pure rfl rfl (RV.move rfl) ?_
          refine LW.pureYB rfl rfl rfl rfl hq3 (RV.move rfl) ?_
          refine LW.pureYB rfl rfl rfl rfl hq3 (RV.move rfl) ?_
          refine LW.yesB rfl rfl rfl rfl hq3 (OW.call Tc34 rfl (ref01_SameInts_ok (a0 := r5.1) (a1 := r6.1) (H.own 3 rfl).sl (H.own 2 rfl).sl hr10) ?_)
          rintro _ w23 ⟨rfl, E22⟩
          refine ⟨_, rfl, ?_⟩
          replace H := H.grow E22
          replace R0 := H.ext
          refine LW.pure rfl rfl (RV.pickTB rfl hq3 rfl) ?_
          refine LW.pure rfl rfl (RV.move rfl) ?_
          refine LW.noB rfl rfl rfl rfl (ne_beq (v := false) hq4 rfl) ?_
          refine LW.noB rfl rfl rfl rfl (ne_beq (v := false) hq4 rfl) ?_
          refine LW.noB rfl rfl rfl rfl (ne_beq (v := false) hq4 rfl) ?_
          refine LW.pure rfl rfl (RV.pickFB rfl hq4 rfl) ?_
          refine LW.pure rfl rfl (RV.move rfl) ?_
          refine LW.noB rfl rfl rfl rfl (ne_beq (v := false) rfl rfl) ?_
          refine LW.noB rfl rfl rfl rfl (ne_beq (v := false) rfl rfl) ?_
          refine LW.noB rfl rfl rfl rfl (ne_beq (v := false) rfl rfl) ?_
          refine LW.pure rfl rfl (RV.pickFB rfl rfl rfl) ?_
          refine LW.pure rfl rfl (RV.move rfl) ?_
          refine LW.noB rfl rfl rfl rfl (ne_beq (v := false) rfl rfl) ?_
          refine LW.noB rfl rfl rfl rfl (ne_beq (v := false) rfl rfl) ?_
          refine LW.noB rfl rfl rfl rfl (ne_beq (v := false) rfl rfl) ?_
          refine LW.pure rfl rfl (RV.pickFB rfl rfl rfl) ?_
          refine LW.pure rfl rfl (RV.move rfl) ?_
          refine LW.noB rfl rfl rfl rfl (ne_beq (v := false) rfl rfl) ?_
          refine LW.pure rfl rfl (RV.pickFB rfl rfl rfl) ?_
          refine LW.pure rfl rfl (RV.assign rfl) ?_
          refine LW.nil (hK11 _ _ ?_)
          refine CW.ret ?_
          obtain rfl := Option.some.inj F
          refine ⟨_, (ResOK.one rfl), ?_⟩
          refine ⟨(by first | rfl | simp), R0⟩
      ·
        replace F := ite_n hp3 F
        have hq3 := dec_f hp3
        refine CW.region ?_
        refine LW.pure rfl rfl (RV.move rfl) ?_
        refine LW.pure rfl rfl (RV.move rfl) ?_
        refine LW.go rfl rfl (OW.call Tc34 rfl (ref01_SameInts_ok (a0 := r3.1) (a1 := r4.1) (H.own 5 rfl).sl (H.own 4 rfl).sl hr9) ?_)
        rintro _ w24 ⟨rfl, E23⟩
        refine ⟨_, rfl, ?_⟩
        replace H := H.grow E23
        replace R0 := H.ext
        refine LW.pure rfl rfl (RV.move rfl) ?_
        refine LW.pureYB rfl rfl rfl rfl hq2 (RV.move rfl) ?_
        refine LW.pureYB rfl rfl rfl rfl hq2 (RV.move rfl) ?_
        refine LW.pureYB rfl rfl rfl rfl hq2 (RV.eqi rfl rfl) ?_
        refine LW.pure rfl rfl (RV.pickTB rfl hq2 rfl) ?_
        refine LW.pure rfl rfl (RV.move rfl) ?_
        refine LW.noB rfl rfl rfl rfl (ne_beq (v := false) hq3 rfl) ?_
        refine LW.noB rfl rfl rfl rfl (ne_beq (v := false) hq3 rfl) ?_
        refine LW.noB rfl rfl rfl rfl (ne_beq (v := false) hq3 rfl) ?_
        refine LW.pure rfl rfl (RV.pickFB rfl hq3 rfl) ?_
        refine LW.pure rfl rfl (RV.move rfl) ?_
        refine LW.noB rfl rfl rfl rfl (ne_beq (v := false) rfl rfl) ?_
        refine LW.noB rfl rfl rfl rfl (ne_beq (v := false) rfl rfl) ?_
        refine LW.noB rfl rfl rfl rfl (ne_beq (v := false) rfl rfl) ?_
        refine LW.pure rfl rfl (RV.pickFB rfl rfl rfl) ?_
        refine LW.pure rfl rfl (RV.move rfl) ?_
        refine LW.noB rfl rfl rfl rfl (ne_beq (v := false) rfl rfl) ?_
        refine LW.noB rfl rfl rfl rfl (ne_beq (v := false) rfl rfl) ?_
        refine LW.noB rfl rfl rfl rfl (ne_beq (v := false) rfl rfl) ?_
        refine LW.pure rfl rfl (RV.pickFB rfl rfl rfl) ?_
        refine LW.pure rfl rfl (RV.move rfl) ?_
        refine LW.noB rfl rfl rfl rfl (ne_beq (v := false) rfl rfl) ?_
        refine LW.noB rfl rfl rfl rfl (ne_beq (v := false) rfl rfl) ?_
        refine LW.noB rfl rfl rfl rfl (ne_beq (v := false) rfl rfl) ?_
        refine LW.pure rfl rfl (RV.pickFB rfl rfl rfl) ?_
        refine LW.pure rfl rfl (RV.move rfl) ?_
        refine LW.noB rfl rfl rfl rfl (ne_beq (v := false) rfl rfl) ?_
        refine LW.pure rfl rfl (RV.pickFB rfl rfl rfl) ?_
        refine LW.pure rfl rfl (RV.assign rfl) ?_
        refine LW.nil (hK11 _ _ ?_)
        refine CW.ret ?_
        obtain rfl := Option.some.inj F
        refine ⟨_, (ResOK.one rfl), ?_⟩
        refine ⟨(by first | rfl | simp), R0⟩
    ·
      replace F := ite_n hp2 F
      have hq2 : r9 = false := raw_f hp2
      refine CW.region ?_
      refine LW.pure rfl rfl (RV.move rfl) ?_
      refine LW.pure rfl rfl (RV.move rfl) ?_
      refine LW.go rfl rfl (OW.call Tc34 rfl (ref01_SameInts_ok (a0 := r3.1) (a1 := r4.1) (H.own 5 rfl).sl (H.own 4 rfl).sl hr9) ?_)
      rintro _ w25 ⟨rfl, E24⟩
      refine ⟨_, rfl, ?_⟩
      replace H := H.grow E24
      replace R0 := H.ext
      refine LW.pure rfl rfl (RV.move rfl) ?_
      refine LW.noB rfl rfl rfl rfl (ne_beq (v := false) hq2 rfl) ?_
      refine LW.noB rfl rfl rfl rfl (ne_beq (v := false) hq2 rfl) ?_
      refine LW.noB rfl rfl rfl rfl (ne_beq (v := false) hq2 rfl) ?_
      refine LW.pure rfl rfl (RV.pickFB rfl hq2 rfl) ?_
      refine LW.pure rfl rfl (RV.move rfl) ?_
      refine LW.noB rfl rfl rfl rfl (ne_beq (v := false) rfl rfl) ?_
      refine LW.noB rfl rfl rfl rfl (ne_beq (v := false) rfl rfl) ?_
      refine LW.noB rfl rfl rfl rfl (ne_beq (v := false) rfl rfl) ?_
      refine LW.pure rfl rfl (RV.pickFB rfl rfl rfl) ?_
      refine LW.pure rfl rfl (RV.move rfl) ?_
      refine LW.noB rfl rfl rfl rfl (ne_beq (v := false) rfl rfl) ?_
      refine LW.noB rfl rfl rfl rfl (ne_beq (v := false) rfl rfl) ?_
      refine LW.noB rfl rfl rfl rfl (ne_beq (v := false) rfl rfl) ?_
      refine LW.pure rfl rfl (RV.pickFB rfl rfl rfl) ?_
      refine LW.pure rfl rfl (RV.move rfl) ?_
      refine LW.noB rfl rfl rfl rfl (ne_beq (v := false) rfl rfl) ?_
      refine LW.noB rfl rfl rfl rfl (ne_beq (v := false) rfl rfl) ?_
      refine LW.noB rfl rfl rfl rfl (ne_beq (v := false) rfl rfl) ?_
      refine LW.pure rfl rfl (RV.pickFB rfl rfl rfl) ?_
      refine LW.pure rfl rfl (RV.move rfl) ?_
      refine LW.noB rfl rfl rfl rfl (ne_beq (v := false) rfl rfl) ?_
      refine LW.noB rfl rfl rfl rfl (ne_beq (v := false) rfl rfl) ?_
      refine LW.noB rfl rfl rfl rfl (ne_beq (v := false) rfl rfl) ?_
      refine LW.pure rfl rfl (RV.pickFB rfl rfl rfl) ?_
      refine LW.pure rfl rfl (RV.move rfl) ?_
      refine LW.noB rfl rfl rfl rfl (ne_beq (v := false) rfl rfl) ?_
      refine LW.pure rfl rfl (RV.pickFB rfl rfl rfl) ?_
      refine LW.pure rfl rfl (RV.assign rfl) ?_
      refine LW.nil (hK11 _ _ ?_)
      refine CW.ret ?_
      obtain rfl := Option.some.inj F
      refine ⟨_, (ResOK.one rfl), ?_⟩
      refine ⟨(by first | rfl | simp), R0⟩
end Go.D2

namespace Go.Tb
/-- A loop over 0 .. N - 1 with a state, that is left at the first i for which p does not hold. -/
theorem scan_loop {S R : Type} (N : Nat) (p : Nat → Bool) (g : Nat → S) (L : Nat → S → Int → Option R) (yes : Option R) (no : Nat → Option R)
    (step : ∀ n i : Nat, i < N → L (n + 1) (g i) (i : Int) = if p i = true then L n (g (i + 1)) ((i + 1 : Nat) : Int) else no i)
    (stop : ∀ n : Nat, L (n + 1) (g N) (N : Int) = yes) : ∀ (d n i : Nat), N = i + d → d < n → L n (g i) (i : Int) = match (List.range' i d).find? (fun j => !p j) with | none => yes | some j => no j
  | 0, n + 1, i, hd, hn => by
    have hi : i = N := by omega
    subst hi
    rw [stop n]; rfl
  | d + 1, n + 1, i, hd, hn => by
    rw [step n i (by omega), List.range'_succ, List.find?_cons]
    cases hp : p i
    · simp
    · simp only [if_true, Bool.not_true]
      exact scan_loop N p g L yes no step stop d n (i + 1) (by omega) (by omega)
theorem find_all {p : Nat → Bool} {i d : Nat} : (List.range' i d).find? (fun j => !p j) = none ↔ ∀ j, i ≤ j → j < i + d → p j = true := by
  rw [List.find?_eq_none]
  constructor
  · intro h j h1 h2
    have := h j (by rw [List.mem_range'_1]; omega)
    simpa using this
  · intro h x hx
    rw [List.mem_range'_1] at hx
    simp [h x hx.1 hx.2]
/-- A loop over 0 .. N - 1 with a state and no way out. -/
theorem for_loop {S R : Type} (N : Nat) (g : Nat → S) (L : Nat → S → Int → Option R) (yes : Option R)
    (step : ∀ n i : Nat, i < N → L (n + 1) (g i) (i : Int) = L n (g (i + 1)) ((i + 1 : Nat) : Int))
    (stop : ∀ n : Nat, L (n + 1) (g N) (N : Int) = yes) : ∀ (d n i : Nat), N = i + d → d < n → L n (g i) (i : Int) = yes
  | 0, n + 1, i, hd, hn => by
    have hi : i = N := by omega
    subst hi
    exact stop n
  | d + 1, n + 1, i, hd, hn => by
    rw [step n i (by omega)]
    exact for_loop N g L yes step stop d n (i + 1) (by omega) (by omega)
theorem for_loop0 {S R : Type} (N : Nat) (g : Nat → S) (L : Nat → S → Int → Option R) (yes : Option R)
    (step : ∀ n i : Nat, i < N → L (n + 1) (g i) (i : Int) = L n (g (i + 1)) ((i + 1 : Nat) : Int))
    (stop : ∀ n : Nat, L (n + 1) (g N) (N : Int) = yes) (hN : N ≤ 9223372036854775807) : L FU (g 0) 0 = yes :=
  for_loop N g L yes step stop N FU 0 (by omega) (by have := FU_pos; omega)
theorem scan_loop0 {S R : Type} (N : Nat) (p : Nat → Bool) (g : Nat → S) (L : Nat → S → Int → Option R) (yes no : Option R)
    (step : ∀ n i : Nat, i < N → L (n + 1) (g i) (i : Int) = if p i = true then L n (g (i + 1)) ((i + 1 : Nat) : Int) else no)
    (stop : ∀ n : Nat, L (n + 1) (g N) (N : Int) = yes) (hN : N ≤ 9223372036854775807) : L FU (g 0) 0 = if (∀ j, j < N → p j = true) then yes else no := by
  have h := scan_loop N p g L yes (fun _ => no) step stop N FU 0 (by omega) (by have := FU_pos; omega)
  refine Eq.trans h ?_
  cases hf : (List.range' 0 N).find? (fun j => !p j) with
  | none => rw [if_pos (fun j hj => find_all.1 hf j (by omega) (by omega))]
  | some j =>
    have h1 := List.find?_some hf
    have h2 := List.mem_of_find?_eq_some hf
    rw [List.mem_range'_1] at h2
    rw [if_neg]
    intro hall
    have := hall j (by omega)
    simp [this] at h1
/-- The same over the elements of a list. -/
theorem list_loop0 {α R : Type} (l : List α) (p : α → Bool) (L : Nat → Int → Option R) (yes no : Option R)
    (step : ∀ (n i : Nat) (x : α), l[i]? = some x → L (n + 1) (i : Int) = if p x = true then L n ((i + 1 : Nat) : Int) else no)
    (stop : ∀ n : Nat, L (n + 1) (l.length : Int) = yes) (hl : l.length ≤ 9223372036854775807) : L FU 0 = if l.all p = true then yes else no := by
  have h := scan_loop0 l.length (fun i => (l[i]?.map p).getD true) (fun _ => ()) (fun n _ i => L n i) yes no (fun n i hi => by
    have hx : l[i]? = some l[i] := by simp [hi]
    rw [step n i _ hx]; simp [hx]) stop hl
  refine Eq.trans h ?_
  by_cases ha : l.all p = true
  · rw [if_pos ha, if_pos]
    intro j hj
    have := List.all_eq_true.1 ha l[j] (List.getElem_mem hj)
    simp [hj, this]
  · rw [if_neg ha, if_neg]
    intro hc
    refine ha (List.all_eq_true.2 fun x hx => ?_)
    obtain ⟨j, hj⟩ := List.getElem?_of_mem hx
    have := hc j (lt_of_at hj)
    simpa [hj] using this
end Go.Tb

set_option linter.unusedVariables false
set_option linter.unusedSimpArgs false
namespace Go.D2
open Go.Tb
theorem known_eq : law02_known = some true := by decide +kernel
theorem for0 {S R : Type} (N : Nat) (g : Nat → S) (L : Nat → S → Int → Option R) (yes : Option R) {s0 : S} (h0 : g 0 = s0)
    (step : ∀ n i : Nat, i < N → L (n + 1) (g i) (i : Int) = L n (g (i + 1)) ((i + 1 : Nat) : Int))
    (stop : ∀ n : Nat, L (n + 1) (g N) (N : Int) = yes) (hN : N ≤ 9223372036854775807) : L FU s0 0 = yes := by
  rw [← h0]; exact for_loop0 N g L yes step stop hN
def within (n lo hi : Int) : Bool := decide (lo ≤ n) && decide (n ≤ hi)
theorem within_iff {n lo hi : Int} : within n lo hi = true ↔ lo ≤ n ∧ n ≤ hi := by unfold within; simp
theorem from_eq (n lo hi : Int) : drain_from n lo hi = some (within n lo hi) := by
  unfold drain_from within
  by_cases h : lo ≤ n <;> simp [h]
theorem within_eq (n lo hi : Int) : ref02_within n lo hi = some (within n lo hi) := by
  unfold ref02_within within
  by_cases h : lo ≤ n <;> simp [h]
def isNode (n : Net) (i : Int) : Bool := within i 0 (n.nodes - 1)
theorem isNode_eq {n : Net} (h : InR (n.nodes - 1)) (i : Int) : drain_isNode n i = some (isNode n i) := by
  unfold drain_isNode isNode
  rw [gd_pos h, bnd_eq (from_eq _ _ _)]
def okD (n : Net) (d : Drain) : Bool := isNode n d.from_ && isNode n d.to_ && !decide (d.from_ = d.to_) && within d.width 0 20
def okH (n : Net) : Bool := within n.nodes 2 8 && isNode n n.from_ && isNode n n.to_ && !decide (n.from_ = n.to_)
def validate (n : Net) : Int := if okH n = true then (if 16 < n.drains.length then 3 else if n.drains.all (okD n) = true then 0 else 1) else 1
theorem Validate_eq {n : Net} (hl : n.drains.length ≤ 1000) : drain_Validate n = some (validate n) := by
  unfold drain_Validate validate okH
  rw [bnd_eq (from_eq _ _ _)]
  cases h1 : within n.nodes 2 8
  · rw [if_neg (by simp)]; unfold drain_Validate_k3; rw [if_pos rfl, if_neg (by simp)]
  · have hn := within_iff.1 h1
    have hr : InR (n.nodes - 1) := by omega
    rw [if_pos rfl, bnd_eq (isNode_eq hr _)]
    cases h2 : isNode n n.from_
    · rw [if_neg (by simp)]; unfold drain_Validate_k3; rw [if_pos rfl, if_neg (by simp)]
    · rw [if_pos rfl, bnd_eq (isNode_eq hr _)]
      cases h3 : isNode n n.to_
      · rw [if_neg (by simp)]; unfold drain_Validate_k3; rw [if_pos rfl, if_neg (by simp)]
      · rw [if_pos rfl]
        unfold drain_Validate_k3
        by_cases h4 : n.from_ = n.to_
        · rw [if_pos (by simp [h4]), if_neg (show ¬ (true && true && true && !decide (n.from_ = n.to_)) = true by simp [h4])]
        · rw [if_neg (by simp [h4]), if_pos (show (true && true && true && !decide (n.from_ = n.to_)) = true by simp [h4])]
          by_cases h5 : 16 < n.drains.length
          · rw [if_pos (by omega), if_pos h5]
          · rw [if_neg (by omega), if_neg h5, list_loop0 n.drains (okD n) (drain_Validate_L1 n) (some 0) (some 1) (fun m i x hx => ?_) (fun m => ?_) (by omega)]
            · split <;> rfl
            · have := lt_of_at hx
              show drain_Validate_B1 n (drain_Validate_L1 n m) _ = _
              unfold drain_Validate_B1 okD
              rw [if_pos (by omega), ix_nat hx, bnd_eq (isNode_eq hr _)]
              unfold drain_Validate_k2
              cases isNode n x.from_
              · rw [if_neg (by simp), if_pos rfl, if_neg (by simp)]
              · rw [if_pos rfl, bnd_eq (isNode_eq hr _)]
                cases isNode n x.to_
                · rw [if_neg (by simp), if_pos rfl, if_neg (by simp)]
                · rw [if_pos rfl]
                  by_cases h6 : x.from_ = x.to_
                  · rw [if_pos h6, if_pos rfl, if_neg (by simp [h6])]
                  · rw [if_neg h6, bnd_eq (from_eq _ _ _)]
                    cases within x.width 0 20
                    · rw [if_pos (by rfl), if_neg (by simp)]
                    · rw [if_neg (by simp), gd_pos (by omega), if_pos (by simp [h6])]; rfl
            · show drain_Validate_B1 n (drain_Validate_L1 n m) _ = _
              unfold drain_Validate_B1
              rw [if_neg (by omega)]; rfl
theorem rValidate_eq {n : Net} (hl : n.drains.length ≤ 1000) : ref02_Validate n = some (validate n) := by
  unfold ref02_Validate validate okH isNode
  rw [bnd_eq (within_eq _ _ _)]
  cases h1 : within n.nodes 2 8
  · rw [if_neg (by simp)]; unfold ref02_Validate_k3; rw [if_pos rfl, if_neg (by simp)]
  · have hn := within_iff.1 h1
    have hr : InR (n.nodes - 1) := by omega
    rw [if_pos rfl, gd_pos hr, bnd_eq (within_eq _ _ _)]
    cases h2 : within n.from_ 0 (n.nodes - 1)
    · rw [if_neg (by simp)]; unfold ref02_Validate_k3; rw [if_pos rfl, if_neg (by simp)]
    · rw [if_pos rfl, gd_pos hr, bnd_eq (within_eq _ _ _)]
      cases h3 : within n.to_ 0 (n.nodes - 1)
      · rw [if_neg (by simp)]; unfold ref02_Validate_k3; rw [if_pos rfl, if_neg (by simp)]
      · rw [if_pos rfl]
        unfold ref02_Validate_k3
        by_cases h4 : n.from_ = n.to_
        · rw [if_pos (by simp [h4]), if_neg (show ¬ (true && true && true && !decide (n.from_ = n.to_)) = true by simp [h4])]
        · rw [if_neg (by simp [h4]), if_pos (show (true && true && true && !decide (n.from_ = n.to_)) = true by simp [h4])]
          by_cases h5 : 16 < n.drains.length
          · rw [if_pos (by omega), if_pos h5]
          · rw [if_neg (by omega), if_neg h5, list_loop0 n.drains (okD n) (ref02_Validate_L1 n) (some 0) (some 1) (fun m i x hx => ?_) (fun m => ?_) (by omega)]
            · split <;> rfl
            · have := lt_of_at hx
              show ref02_Validate_B1 n (ref02_Validate_L1 n m) _ = _
              unfold ref02_Validate_B1 okD isNode
              rw [if_pos (by omega), ix_nat hx, gd_pos hr, bnd_eq (within_eq _ _ _)]
              unfold ref02_Validate_k2
              cases within x.from_ 0 (n.nodes - 1)
              · rw [if_neg (by simp), if_pos rfl, if_neg (by simp)]
              · rw [if_pos rfl, gd_pos hr, bnd_eq (within_eq _ _ _)]
                cases within x.to_ 0 (n.nodes - 1)
                · rw [if_neg (by simp), if_pos rfl, if_neg (by simp)]
                · rw [if_pos rfl]
                  by_cases h6 : x.from_ = x.to_
                  · rw [if_pos h6, if_pos rfl, if_neg (by simp [h6])]
                  · rw [if_neg h6, bnd_eq (within_eq _ _ _)]
                    cases within x.width 0 20
                    · rw [if_pos (by rfl), if_neg (by simp)]
                    · rw [if_neg (by simp), gd_pos (by omega), if_pos (by simp [h6])]; rfl
            · show ref02_Validate_B1 n (ref02_Validate_L1 n m) _ = _
              unfold ref02_Validate_B1
              rw [if_neg (by omega)]; rfl
/-- A net that is right, but for how wide its drains are. -/
structure Net0 (n : Net) : Prop where
  n2 : 2 ≤ n.nodes
  n8 : n.nodes ≤ 8
  s0 : 0 ≤ n.from_ ∧ n.from_ < n.nodes
  t0 : 0 ≤ n.to_ ∧ n.to_ < n.nodes
  ne : n.from_ ≠ n.to_
  len : n.drains.length ≤ 16
  dr : ∀ d ∈ n.drains, (0 ≤ d.from_ ∧ d.from_ < n.nodes) ∧ (0 ≤ d.to_ ∧ d.to_ < n.nodes) ∧ d.from_ ≠ d.to_ ∧ 0 ≤ d.width ∧ d.width ≤ 1000
structure NetOk (n : Net) : Prop extends Net0 n where
  w20 : ∀ d ∈ n.drains, d.width ≤ 20
theorem val0 {n : Net} : validate n = 0 ↔ NetOk n := by
  unfold validate
  constructor
  · intro h
    split at h
    · rename_i hh
      split at h
      · cases h
      · split at h
        · rename_i hl ha
          unfold okH isNode at hh
          simp only [Bool.and_eq_true, within_iff, Bool.not_eq_true', decide_eq_false_iff_not] at hh
          obtain ⟨⟨⟨h1, h2⟩, h3⟩, h4⟩ := hh
          have hd : ∀ d ∈ n.drains, (0 ≤ d.from_ ∧ d.from_ ≤ n.nodes - 1) ∧ (0 ≤ d.to_ ∧ d.to_ ≤ n.nodes - 1) ∧ d.from_ ≠ d.to_ ∧ 0 ≤ d.width ∧ d.width ≤ 20 := fun d hd => by
            have := List.all_eq_true.1 ha d hd
            unfold okD isNode at this
            simp only [Bool.and_eq_true, within_iff, Bool.not_eq_true', decide_eq_false_iff_not] at this
            obtain ⟨⟨⟨a1, a2⟩, a3⟩, a4⟩ := this
            exact ⟨a1, a2, a3, a4.1, a4.2⟩
          exact ⟨⟨h1.1, h1.2, by omega, by omega, h4, by omega, fun d hd' => by have := hd d hd'; exact ⟨by omega, by omega, this.2.2.1, by omega, by omega⟩⟩, fun d hd' => (hd d hd').2.2.2.2⟩
        · cases h
    · cases h
  · intro h
    rw [if_pos, if_neg (by have := h.len; omega), if_pos]
    · rw [List.all_eq_true]
      intro d hd
      have := h.dr d hd
      have h20 := h.w20 d hd
      unfold okD isNode
      simp only [Bool.and_eq_true, within_iff, Bool.not_eq_true', decide_eq_false_iff_not]
      exact ⟨⟨⟨by omega, by omega⟩, this.2.2.1⟩, by omega⟩
    · have h1 := h.n2; have h2 := h.n8; have h3 := h.s0; have h4 := h.t0
      unfold okH isNode
      simp only [Bool.and_eq_true, within_iff, Bool.not_eq_true', decide_eq_false_iff_not]
      exact ⟨⟨⟨by omega, by omega⟩, by omega⟩, h.ne⟩
end Go.D2
