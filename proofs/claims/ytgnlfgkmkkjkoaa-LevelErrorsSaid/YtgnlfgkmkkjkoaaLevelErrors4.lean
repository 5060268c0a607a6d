/- Lemmas and walks that the proof of this claim uses: D1m9, D1m10, D1m11, Tb22, D1p1. -/
import Derived.Test.YtgnlfgkmkkjkoaaLevelErrors3
set_option linter.unusedVariables false
set_option linter.unusedSimpArgs false
namespace Go.D1
open Go.Tb Go.Proofs Go.RowKit
set_option maxRecDepth 20000 in
set_option maxHeartbeats 1000000 in
theorem ref01_pair_ok {a0 : Survey} {a1 : Int} {a2 : Int} {A_a0_readings : Option Addr} {c_a0_readings : Nat} {w : World} {res : Int} (h_a0_readings : Sl w A_a0_readings c_a0_readings 4 (a0.readings.map encReading)) (F : ref01_pair a0 a1 a2 = some res) : Calls Try.prog 64 #[.agg #[.int .i64 a0.points, .slice A_a0_readings a0.readings.length c_a0_readings], .int .i64 a1, .int .i64 a2] w (Rt w (.int .i64 res)) := by
  refine calls_of_cw (args := [.agg #[.int .i64 a0.points, .slice A_a0_readings a0.readings.length c_a0_readings], .int .i64 a1, .int .i64 a2]) Try.func64 rfl rfl rfl rfl ?_
  have H := Hp.start w
  have R0 := H.ext
  unfold ref01_pair at F
  refine CW.seq fun K1 hK1 => ?_
  refine CW.region ?_
  refine LW.go rfl rfl (OW.box rfl fun b1 w1 N1 => ?_)
  replace H := H.new N1 N1.blk
  replace R0 := H.ext
  refine LW.pure rfl rfl (RV.assign rfl) ?_
  refine LW.nil (hK1 _ _ ?_)
  refine CW.seq fun K2 hK2 => ?_
  refine CW.seq fun K3 hK3 => ?_
  obtain ⟨r2, hr2, F⟩ := bnd_some F
  refine CW.region ?_
  refine LW.pure rfl rfl (RV.loadA [.int .i64 a0.points, .slice A_a0_readings a0.readings.length c_a0_readings] Tk24 rfl (H.blk 0 rfl).cells rfl rfl) ?_
  refine LW.go rfl rfl (OW.call Tc26 rfl (ref01_Validate_ok (a0 := a0) (h_a0_readings.ext R0) hr2) ?_)
  rintro _ w2 ⟨rfl, E1⟩
  refine ⟨_, rfl, ?_⟩
  replace H := H.grow E1
  replace R0 := H.ext
  refine LW.pure rfl rfl (RV.assign rfl) ?_
  refine LW.nil (hK3 _ _ ?_)
  refine CW.seq fun K4 hK4 => ?_
  refine CW.region ?_
  refine LW.pure rfl rfl (RV.move rfl) ?_
  refine LW.pure rfl rfl (RV.nei rfl rfl) ?_
  refine LW.nil (hK4 _ _ ?_)
  by_cases hp1 : r2 = 0
  ·
    replace F := ite_y hp1 F
    have hq1 := dec_t hp1
    refine CW.condF rfl (not_f hq1) ?_
    refine CW.skip (hK2 _ _ ?_)
    refine CW.seq fun K5 hK5 => ?_
    refine CW.seqJ (fun ρ wl1 => (∃ (t27_1 : Bool), ref01_pair_k1 a0 a1 a2 t27_1 = some res ∧ ρ = [(1, .int .i64 a1), (2, .int .i64 a2), (3, .pointer (some (⟨b1, 0, none⟩))), (6, .int .i64 0), (27, .bool t27_1)] ∧ Hp w wl1 [.blk b1 24 [.int .i64 a0.points, .slice A_a0_readings a0.readings.length c_a0_readings]])) ?_ ?_
    ·
      rintro _ wl1 ⟨t27_1, F, rfl, H⟩
      have R0 := H.ext
      unfold ref01_pair_k1 at F
      by_cases hp2 : t27_1 = true
      ·
        replace F := ite_y hp2 F
        have hq2 : t27_1 = true := hp2
        refine CW.condT rfl hq2 ?_
        refine CW.seq fun K6 hK6 => ?_
        refine CW.region ?_
        refine LW.pure rfl rfl (RV.assign rfl) ?_
        refine LW.nil (hK6 _ _ ?_)
        refine CW.ret ?_
        obtain rfl := Option.some.inj F
        refine ⟨_, (ResOK.one rfl), ?_⟩
        refine ⟨(by first | rfl | simp), R0⟩
      ·
        replace F := ite_n hp2 F
        have hq2 : t27_1 = false := raw_f hp2
        refine CW.condF rfl hq2 ?_
        refine CW.skip (hK5 _ _ ?_)
        refine CW.seq fun K7 hK7 => ?_
        refine CW.seq fun K8 hK8 => ?_
        obtain ⟨r1, hr1, F⟩ := bnd_some F
        refine CW.region ?_
        refine LW.pure rfl rfl (RV.loadA [.int .i64 a0.points, .slice A_a0_readings a0.readings.length c_a0_readings] Tk24 rfl (H.blk 0 rfl).cells rfl rfl) ?_
        refine LW.go rfl rfl (OW.call Tc67 rfl (ref01_whole_ok (a0 := a0) (h_a0_readings.ext R0) hr1) ?_)
        rintro _ w3 ⟨A12_0, c12_0, rfl, E2⟩
        refine ⟨_, rfl, ?_⟩
        replace H : Hp w w3 [.own A12_0 c12_0 3 1 (List.map encN r1), .blk b1 24 [.int .i64 a0.points, .slice A_a0_readings a0.readings.length c_a0_readings]] := H.append E2
        replace R0 := H.ext
        refine LW.pure rfl rfl (RV.assign rfl) ?_
        refine LW.nil (hK8 _ _ ?_)
        refine CW.seq fun K9 hK9 => ?_
        obtain ⟨x1, hbx1, hx1, F⟩ := ix_some F
        obtain ⟨x2, hbx2, hx2, F⟩ := ix_some F
        refine CW.draw [] (fun _ => True) (.cons 0 1 (.cons 1 1 (.cons 2 1 (.cons 3 1 (.cons 4 1 (.cons 5 1 (.cons 6 1 (.cons 7 1 (.cons 8 1 .nil))))))))) mixed (by kernel_rfl) fun w4 E3 => ?_
        replace H := H.grow E3
        replace R0 := H.ext
        refine DW.fix rfl rfl rfl (fun _ EQ => RV.move rfl) ?_
        refine DW.fix rfl rfl rfl (fun _ EQ => RV.move rfl) ?_
        refine DW.fix rfl rfl rfl (fun _ EQ => RV.indexAddr Ts39 rfl rfl hbx1 ((H.own 0 rfl).sl.addr_ hx1)) ?_
        refine DW.fix rfl rfl rfl (fun _ EQ => RV.load1 Tk3 rfl (((H.grow EQ).own 0 rfl).sl.at_ hx1) rfl) ?_
        refine DW.fix rfl rfl rfl (fun _ EQ => RV.move rfl) ?_
        refine DW.fix rfl rfl rfl (fun _ EQ => RV.move rfl) ?_
        refine DW.fix rfl rfl rfl (fun _ EQ => RV.indexAddr Ts39 rfl rfl hbx2 ((H.own 0 rfl).sl.addr_ hx2)) ?_
        refine DW.fix rfl rfl rfl (fun _ EQ => RV.load1 Tk3 rfl (((H.grow EQ).own 0 rfl).sl.at_ hx2) rfl) ?_
        refine DW.fix rfl rfl rfl (fun _ EQ => RV.nei rfl rfl) ?_
        refine DW.nil (hK9 _ _ ?_)
        by_cases hp3 : x1 = x2
        ·
          replace F := ite_y hp3 F
          have hq3 := dec_t hp3
          refine CW.condF rfl (not_f hq3) ?_
          refine CW.skip (hK7 _ _ ?_)
          refine CW.seq fun K10 hK10 => ?_
          refine CW.region ?_
          refine LW.pure rfl rfl (RV.assign rfl) ?_
          refine LW.nil (hK10 _ _ ?_)
          refine CW.ret ?_
          obtain rfl := Option.some.inj F
          refine ⟨_, (ResOK.one rfl), ?_⟩
          refine ⟨(by first | rfl | simp), R0⟩
        ·
          replace F := ite_n hp3 F
          have hq3 := dec_f hp3
          refine CW.condT rfl (not_t hq3) ?_
          refine CW.seq fun K11 hK11 => ?_
          refine CW.region ?_
          refine LW.pure rfl rfl (RV.assign rfl) ?_
          refine LW.nil (hK11 _ _ ?_)
          refine CW.ret ?_
          obtain rfl := Option.some.inj F
          refine ⟨_, (ResOK.one rfl), ?_⟩
          refine ⟨(by first | rfl | simp), R0⟩
    ·
      intro K12 hK12 jK25
      obtain ⟨hg1, F⟩ := gd_some F
      obtain ⟨r3, hr3, F⟩ := bnd_some F
      by_cases hp4 : r3 = true
      ·
        replace F := ite_y hp4 F
        have hq4 : r3 = true := hp4
        obtain ⟨hg2, F⟩ := gd_some F
        obtain ⟨r4, hr4, F⟩ := bnd_some F
        refine CW.region ?_
        refine LW.pure rfl rfl (RV.move rfl) ?_
        refine LW.pure rfl rfl (RV.fieldAddr Tf24_0 rfl) ?_
        refine LW.pure rfl rfl (RV.load1 Tk3 rfl ((H.blk 0 rfl).cells.off 0) rfl) ?_
        refine LW.pure rfl rfl (RV.sub rfl rfl hg1) ?_
        refine LW.go rfl rfl (OW.call Tc69 rfl (ref01_within_ok (a0 := a1) (a1 := (0 : Int)) (a2 := a0.points - 1) hr3) ?_)
        rintro _ w5 ⟨rfl, E4⟩
        refine ⟨_, rfl, ?_⟩
        replace H := H.grow E4
        replace R0 := H.ext
        refine LW.pure rfl rfl (RV.not rfl) ?_
        refine LW.pure rfl rfl (RV.move rfl) ?_
        refine LW.pureYB rfl rfl rfl rfl (not_f hq4) (RV.move rfl) ?_
        refine LW.pureYB rfl rfl rfl rfl (not_f hq4) (RV.fieldAddr Tf24_0 rfl) ?_
        refine LW.pureYB rfl rfl rfl rfl (not_f hq4) (RV.load1 Tk3 rfl ((H.blk 0 rfl).cells.off 0) rfl) ?_
        refine LW.pureYB rfl rfl rfl rfl (not_f hq4) (RV.sub rfl rfl hg2) ?_
        refine LW.yesB rfl rfl rfl rfl (not_f hq4) (OW.call Tc69 rfl (ref01_within_ok (a0 := a2) (a1 := (0 : Int)) (a2 := a0.points - 1) hr4) ?_)
        rintro _ w6 ⟨rfl, E5⟩
        refine ⟨_, rfl, ?_⟩
        replace H := H.grow E5
        replace R0 := H.ext
        refine LW.pureYB rfl rfl rfl rfl (not_f hq4) (RV.not rfl) ?_
        refine LW.pure rfl rfl (RV.pickFB rfl (not_f hq4) rfl) ?_
        refine LW.nil (jK25 _ _ ⟨_, ?_, ⟨(!r4), F, rfl, H⟩⟩)
        exact ⟨rfl, rfl, rfl, rfl, rfl, trivial⟩
      ·
        replace F := ite_n hp4 F
        have hq4 : r3 = false := raw_f hp4
        refine CW.region ?_
        refine LW.pure rfl rfl (RV.move rfl) ?_
        refine LW.pure rfl rfl (RV.fieldAddr Tf24_0 rfl) ?_
        refine LW.pure rfl rfl (RV.load1 Tk3 rfl ((H.blk 0 rfl).cells.off 0) rfl) ?_
        refine LW.pure rfl rfl (RV.sub rfl rfl hg1) ?_
        refine LW.go rfl rfl (OW.call Tc69 rfl (ref01_within_ok (a0 := a1) (a1 := (0 : Int)) (a2 := a0.points - 1) hr3) ?_)
        rintro _ w7 ⟨rfl, E6⟩
        refine ⟨_, rfl, ?_⟩
        replace H := H.grow E6
        replace R0 := H.ext
        refine LW.pure rfl rfl (RV.not rfl) ?_
        refine LW.pure rfl rfl (RV.move rfl) ?_
        refine LW.noB rfl rfl rfl rfl (ne_beq (v := true) (not_t hq4) rfl) ?_
        refine LW.noB rfl rfl rfl rfl (ne_beq (v := true) (not_t hq4) rfl) ?_
        refine LW.noB rfl rfl rfl rfl (ne_beq (v := true) (not_t hq4) rfl) ?_
        refine LW.noB rfl rfl rfl rfl (ne_beq (v := true) (not_t hq4) rfl) ?_
        refine LW.noB rfl rfl rfl rfl (ne_beq (v := true) (not_t hq4) rfl) ?_
        refine LW.noB rfl rfl rfl rfl (ne_beq (v := true) (not_t hq4) rfl) ?_
        refine LW.pure rfl rfl (RV.pickTB rfl (not_t hq4) rfl) ?_
        refine LW.nil (jK25 _ _ ⟨_, ?_, ⟨true, F, rfl, H⟩⟩)
        exact ⟨rfl, rfl, rfl, rfl, rfl, trivial⟩
  ·
    replace F := ite_n hp1 F
    have hq1 := dec_f hp1
    refine CW.condT rfl (not_t hq1) ?_
    refine CW.seq fun K13 hK13 => ?_
    refine CW.region ?_
    refine LW.pure rfl rfl (RV.move rfl) ?_
    refine LW.pure rfl rfl (RV.assign rfl) ?_
    refine LW.nil (hK13 _ _ ?_)
    refine CW.ret ?_
    obtain rfl := Option.some.inj F
    refine ⟨_, (ResOK.one rfl), ?_⟩
    refine ⟨(by first | rfl | simp), R0⟩
set_option maxRecDepth 20000 in
set_option maxHeartbeats 1000000 in
theorem ref01_laplace_ok {a0 : Survey} {a1 : List Int} {A_a0_readings : Option Addr} {c_a0_readings : Nat} {A_a1 : Option Addr} {c_a1 : Nat} {w : World} {res : (List (List Int))} (h_a0_readings : Sl w A_a0_readings c_a0_readings 4 (a0.readings.map encReading)) (h_a1 : Sl w A_a1 c_a1 1 (a1.map encN)) (F : ref01_laplace a0 a1 = some res) : Calls Try.prog 100 #[.agg #[.int .i64 a0.points, .slice A_a0_readings a0.readings.length c_a0_readings], .slice A_a1 a1.length c_a1] w (fun e w' => ∃ (A1 : Option Addr) (c1 : Nat) (hs0 : List (Option Addr × Nat)), e = .returned (.slice A1 res.length c1) ∧ Hp w w' [.tab A1 c1 39 hs0 3 1 (encM encN res)]) := by
  refine calls_of_cw (args := [.agg #[.int .i64 a0.points, .slice A_a0_readings a0.readings.length c_a0_readings], .slice A_a1 a1.length c_a1]) Try.func100 rfl rfl rfl rfl ?_
  have H := Hp.start w
  have R0 := H.ext
  unfold ref01_laplace at F
  refine CW.seq fun K1 hK1 => ?_
  refine CW.region ?_
  refine LW.go rfl rfl (OW.box rfl fun b1 w1 N1 => ?_)
  replace H := H.new N1 N1.blk
  replace R0 := H.ext
  refine LW.pure rfl rfl (RV.assign rfl) ?_
  refine LW.nil (hK1 _ _ ?_)
  refine CW.seq fun K2 hK2 => ?_
  refine CW.region ?_
  refine LW.pure rfl rfl (RV.assign rfl) ?_
  refine LW.nil (hK2 _ _ ?_)
  refine CW.seqJ (fun ρ wl1 => (∃ (m1 : List (List Int)) (hsm1 : List (Option Addr × Nat)) (Am1 : Option Addr) (cm1 : Nat), ref01_laplace_k1 m1 = some res ∧ ρ = [(4, .slice none 0 0), (5, .slice Am1 m1.length cm1)] ∧ Hp w wl1 [.tab Am1 cm1 39 hsm1 3 1 (encM encN m1)])) ?_ ?_
  ·
    rintro _ wl1 ⟨m1, hsm1, Am1, cm1, F, rfl, H⟩
    have R0 := H.ext
    unfold ref01_laplace_k1 at F
    refine CW.seq fun K3 hK3 => ?_
    refine CW.region ?_
    refine LW.pure rfl rfl (RV.move rfl) ?_
    refine LW.pure rfl rfl (RV.assign rfl) ?_
    refine LW.nil (hK3 _ _ ?_)
    refine CW.ret ?_
    obtain rfl := Option.some.inj F
    refine ⟨_, (ResOK.one rfl), ?_⟩
    exact ⟨Am1, cm1, hsm1, (by first | rfl | (simp; done) | (simp; omega)), H⟩
  ·
    intro K4 hK4 jK9074
    refine CW.seq fun K5 hK5 => ?_
    refine CW.region ?_
    refine LW.pure rfl rfl (RV.assign rfl) ?_
    refine LW.nil (hK5 _ _ ?_)
    refine CW.block ?_
    replace H := H.nilTab encN 39 3 1
    replace R0 := H.ext
    refine CW.loop (fun meas ρ wl2 => ∃ (t6_1 : Int) (m3 : List (List Int)) (hsm3 : List (Option Addr × Nat)) (Am3 : Option Addr) (cm3 : Nat), ref01_laplace_L3 a0 a1 meas t6_1 m3 = some res ∧ ρ = [(1, .slice A_a1 a1.length c_a1), (2, .pointer (some (⟨b1, 0, none⟩))), (4, .slice none 0 0), (5, .slice Am3 m3.length cm3), (6, .int .i64 t6_1)] ∧ Hp w wl2 [.tab Am3 cm3 39 hsm3 3 1 (encM encN m3), .blk b1 24 [.int .i64 a0.points, .slice A_a0_readings a0.readings.length c_a0_readings]]) FU ⟨_, ?_, ((0 : Int)), (([] : List (List Int))), ([]), none, 0, F, rfl, H⟩ ?_
    · exact ⟨rfl, rfl, rfl, (look_slice rfl (by first | rfl | (simp; done) | omega | (simp; omega))), rfl, trivial⟩
    rintro mk1 _ wl2 ⟨t6_1, m3, hsm3, Am3, cm3, F, rfl, H⟩
    have R0 := H.ext
    replace F := ref01_laplace_L3_s F
    obtain ⟨mk1, rfl, F⟩ := F
    generalize hrec1 : ref01_laplace_L3 a0 a1 mk1 = rec1 at F
    unfold ref01_laplace_B3 at F
    refine CW.seq fun K6 hK6 => ?_
    refine CW.seq fun K7 hK7 => ?_
    refine CW.region ?_
    refine LW.pure rfl rfl (RV.move rfl) ?_
    refine LW.pure rfl rfl (RV.move rfl) ?_
    refine LW.pure rfl rfl (RV.len Ts39 rfl) ?_
    refine LW.pure rfl rfl (RV.lss rfl rfl) ?_
    refine LW.nil (hK7 _ _ ?_)
    by_cases hp1 : t6_1 < ((a1.length : Int))
    ·
      replace F := ite_y hp1 F
      have hq1 := dec_t hp1
      refine CW.condT rfl hq1 ?_
      refine CW.skip (hK6 _ _ ?_)
      refine CW.seqJ (fun ρ wl3 => (∃ (m2 : List (List Int)) (hsm2 : List (Option Addr × Nat)) (Am2 : Option Addr) (cm2 : Nat), ref01_laplace_k2 t6_1 rec1 m2 = some res ∧ ρ = [(1, .slice A_a1 a1.length c_a1), (2, .pointer (some (⟨b1, 0, none⟩))), (4, .slice none 0 0), (5, .slice Am2 m2.length cm2), (6, .int .i64 t6_1)] ∧ Hp w wl3 [.tab Am2 cm2 39 hsm2 3 1 (encM encN m2), .blk b1 24 [.int .i64 a0.points, .slice A_a0_readings a0.readings.length c_a0_readings]])) ?_ ?_
      ·
        rintro _ wl3 ⟨m2, hsm2, Am2, cm2, F, rfl, H⟩
        have R0 := H.ext
        unfold ref01_laplace_k2 at F
        obtain ⟨hg1, F⟩ := gd_some F
        refine CW.region ?_
        refine LW.pure rfl rfl (RV.move rfl) ?_
        refine LW.pure rfl rfl (RV.add rfl rfl hg1) ?_
        refine LW.pure rfl rfl (RV.assign rfl) ?_
        refine LW.nil ?_
        subst hrec1
        refine ⟨mk1, Nat.lt_succ_self _, _, ?_, (t6_1 + 1), m2, hsm2, Am2, cm2, F, rfl, H⟩
        exact ⟨rfl, rfl, rfl, (look_slice rfl (by first | rfl | (simp; done) | omega | (simp; omega))), rfl, trivial⟩
      ·
        intro K8 hK8 jK11594
        refine CW.block ?_
        refine CW.seq fun K9 hK9 => ?_
        obtain ⟨hg2, F⟩ := gd_some F
        refine CW.region ?_
        refine LW.pure rfl rfl (RV.move rfl) ?_
        refine LW.pure rfl rfl (RV.len Ts39 rfl) ?_
        refine LW.go rfl rfl (OW.makeR (enc := encN) (0 : Int) Ts39 rfl rfl rfl rfl rfl hg2 (by decide) fun b2 w2 N2 => ?_)
        replace H := H.made' (k := 1) (t := 3) (enc := encN) (l := (List.replicate (Int.toNat ((a1.length : Int))) (0 : Int))) N2 N2.blk (fun _ => rfl) rfl (by first | decide | omega | (simp; done) | (simp; omega))
        replace R0 := H.ext
        refine LW.pure rfl rfl (RV.assign rfl) ?_
        refine LW.nil (hK9 _ _ ?_)
        refine CW.seqJ (fun ρ wl4 => (∃ (l1 : List Int), ref01_laplace_k3 t6_1 m3 rec1 l1 = some res ∧ ρ = [(1, .slice A_a1 a1.length c_a1), (2, .pointer (some (⟨b1, 0, none⟩))), (4, .slice none 0 0), (5, .slice Am3 m3.length cm3), (6, .int .i64 t6_1), (7, .slice (some ⟨b2, 0, none⟩) l1.length (((List.replicate (Int.toNat ((a1.length : Int))) (0 : Int))).length))] ∧ Hp w wl4 [.tab Am3 cm3 39 hsm3 3 1 (encM encN m3), .own (some ⟨b2, 0, none⟩) (((List.replicate (Int.toNat ((a1.length : Int))) (0 : Int))).length) 3 1 (List.map encN l1), .blk b1 24 [.int .i64 a0.points, .slice A_a0_readings a0.readings.length c_a0_readings]])) ?_ ?_
        ·
          rintro _ wl4 ⟨l1, F, rfl, H⟩
          have R0 := H.ext
          unfold ref01_laplace_k3 at F
          obtain ⟨hg3, F⟩ := gd_some F
          refine CW.region ?_
          refine LW.pure rfl rfl (RV.move rfl) ?_
          refine LW.pure rfl rfl (RV.move rfl) ?_
          refine LW.go rfl rfl (OW.buildSlice (e := 39) (vs := [.slice (some ⟨b2, 0, none⟩) l1.length (((List.replicate (Int.toNat ((a1.length : Int))) (0 : Int))).length)]) (cs := [.slice (some ⟨b2, 0, none⟩) l1.length (((List.replicate (Int.toNat ((a1.length : Int))) (0 : Int))).length)]) rfl (fun _ => by kernel_rfl) fun b3 w3 N3 => ?_)
          replace H := H.made' (k := 1) (t := 39) (enc := encH) (l := ([((some ⟨b2, 0, none⟩, ((List.replicate (Int.toNat ((a1.length : Int))) (0 : Int))).length), List.map encN l1)] : List ((Option Addr × Nat) × List (List Value)))) N3 (by have q := N3.blk; simp only [List.flatMap_cons, List.flatMap_nil, encH, List.length_map, List.append_nil, List.cons_append, List.nil_append]; first | done | exact q) (fun _ => rfl) rfl (by first | decide | omega | (simp; done) | (simp; omega))
          replace R0 := H.ext
          refine LW.go rfl rfl (OW.appendT (enc := encN) (m := m3) (l := l1) Ts36 rfl rfl (H.tab 1 rfl) (H.own 0 rfl).sl rfl hg3 (by decide) fun A2 c2 w4 O1 M1 D1 => ?_)
          replace H : Hp w w4 [.own (some ⟨b3, 0, none⟩) ((([((some ⟨b2, 0, none⟩, ((List.replicate (Int.toNat ((a1.length : Int))) (0 : Int))).length), List.map encN l1)] : List ((Option Addr × Nat) × List (List Value)))).length) 39 1 (List.map encH (([((some ⟨b2, 0, none⟩, ((List.replicate (Int.toNat ((a1.length : Int))) (0 : Int))).length), List.map encN l1)] : List ((Option Addr × Nat) × List (List Value))))), .tab A2 c2 39 ((hsm3 ++ [(some ⟨b2, 0, none⟩, ((List.replicate (Int.toNat ((a1.length : Int))) (0 : Int))).length)])) 3 1 (encM encN ((m3 ++ [l1]))), .blk b1 24 [.int .i64 a0.points, .slice A_a0_readings a0.readings.length c_a0_readings]] := H.tabPush 1 2 (by decide) rfl rfl M1 D1 O1
          replace R0 := H.ext
          refine LW.pure rfl rfl (RV.assign rfl) ?_
          replace H := H.pick (L' := [.tab A2 c2 39 ((hsm3 ++ [(some ⟨b2, 0, none⟩, ((List.replicate (Int.toNat ((a1.length : Int))) (0 : Int))).length)])) 3 1 (encM encN ((m3 ++ [l1]))), .blk b1 24 [.int .i64 a0.points, .slice A_a0_readings a0.readings.length c_a0_readings]]) [1, 2] (by decide) rfl
          replace R0 := H.ext
          refine LW.nil (jK11594 _ _ ⟨_, ?_, ⟨((m3 ++ [l1])), ((hsm3 ++ [(some ⟨b2, 0, none⟩, ((List.replicate (Int.toNat ((a1.length : Int))) (0 : Int))).length)])), A2, c2, F, rfl, H⟩⟩)
          exact ⟨rfl, rfl, rfl, (look_slice rfl (by first | rfl | (simp; done) | omega | (simp; omega))), rfl, trivial⟩
        ·
          intro K10 hK10 jK11846
          refine CW.seq fun K11 hK11 => ?_
          refine CW.region ?_
          refine LW.pure rfl rfl (RV.assign rfl) ?_
          refine LW.nil (hK11 _ _ ?_)
          refine CW.block ?_
          replace H := H.pick (L' := [.tab Am3 cm3 39 hsm3 3 1 (encM encN m3), .own (some ⟨b2, 0, none⟩) (((List.replicate (Int.toNat ((a1.length : Int))) (0 : Int))).length) 3 1 (List.map encN ((List.replicate (Int.toNat ((a1.length : Int))) (0 : Int)))), .blk b1 24 [.int .i64 a0.points, .slice A_a0_readings a0.readings.length c_a0_readings]]) [1, 0, 2] (by decide) rfl
          replace R0 := H.ext
          refine CW.loop (fun meas ρ wl5 => ∃ (t8_1 : Int) (l6 : List Int), ref01_laplace_L2 a0 a1 t6_1 m3 rec1 meas t8_1 l6 = some res ∧ ρ = [(1, .slice A_a1 a1.length c_a1), (2, .pointer (some (⟨b1, 0, none⟩))), (4, .slice none 0 0), (5, .slice Am3 m3.length cm3), (6, .int .i64 t6_1), (7, .slice (some ⟨b2, 0, none⟩) l6.length (((List.replicate (Int.toNat ((a1.length : Int))) (0 : Int))).length)), (8, .int .i64 t8_1)] ∧ Hp w wl5 [.tab Am3 cm3 39 hsm3 3 1 (encM encN m3), .own (some ⟨b2, 0, none⟩) (((List.replicate (Int.toNat ((a1.length : Int))) (0 : Int))).length) 3 1 (List.map encN l6), .blk b1 24 [.int .i64 a0.points, .slice A_a0_readings a0.readings.length c_a0_readings]]) FU ⟨_, ?_, ((0 : Int)), ((List.replicate (Int.toNat ((a1.length : Int))) (0 : Int))), F, rfl, H⟩ ?_
          · exact ⟨rfl, rfl, rfl, (look_slice rfl (by first | rfl | (simp; done) | omega | (simp; omega))), rfl, (look_slice rfl (by first | rfl | (simp; done) | omega | (simp; omega))), rfl, trivial⟩
          rintro mk2 _ wl5 ⟨t8_1, l6, F, rfl, H⟩
          have R0 := H.ext
          replace F := ref01_laplace_L2_s F
          obtain ⟨mk2, rfl, F⟩ := F
          generalize hrec2 : ref01_laplace_L2 a0 a1 t6_1 m3 rec1 mk2 = rec2 at F
          unfold ref01_laplace_B2 at F
          refine CW.seq fun K12 hK12 => ?_
          refine CW.seq fun K13 hK13 => ?_
          refine CW.region ?_
          refine LW.pure rfl rfl (RV.move rfl) ?_
          refine LW.pure rfl rfl (RV.move rfl) ?_
          refine LW.pure rfl rfl (RV.len Ts39 rfl) ?_
          refine LW.pure rfl rfl (RV.lss rfl rfl) ?_
          refine LW.nil (hK13 _ _ ?_)
          by_cases hp2 : t8_1 < ((a1.length : Int))
          ·
            replace F := ite_y hp2 F
            have hq2 := dec_t hp2
            refine CW.condT rfl hq2 ?_
            refine CW.skip (hK12 _ _ ?_)
            refine CW.seqJ (fun ρ wl6 => (∃ (l2 : List Int), ref01_laplace_k4 t8_1 rec2 l2 = some res ∧ ρ = [(1, .slice A_a1 a1.length c_a1), (2, .pointer (some (⟨b1, 0, none⟩))), (4, .slice none 0 0), (5, .slice Am3 m3.length cm3), (6, .int .i64 t6_1), (7, .slice (some ⟨b2, 0, none⟩) l2.length (((List.replicate (Int.toNat ((a1.length : Int))) (0 : Int))).length)), (8, .int .i64 t8_1)] ∧ Hp w wl6 [.tab Am3 cm3 39 hsm3 3 1 (encM encN m3), .own (some ⟨b2, 0, none⟩) (((List.replicate (Int.toNat ((a1.length : Int))) (0 : Int))).length) 3 1 (List.map encN l2), .blk b1 24 [.int .i64 a0.points, .slice A_a0_readings a0.readings.length c_a0_readings]])) ?_ ?_
            ·
              rintro _ wl6 ⟨l2, F, rfl, H⟩
              have R0 := H.ext
              unfold ref01_laplace_k4 at F
              obtain ⟨hg4, F⟩ := gd_some F
              refine CW.region ?_
              refine LW.pure rfl rfl (RV.move rfl) ?_
              refine LW.pure rfl rfl (RV.add rfl rfl hg4) ?_
              refine LW.pure rfl rfl (RV.assign rfl) ?_
              refine LW.nil ?_
              subst hrec2
              refine ⟨mk2, Nat.lt_succ_self _, _, ?_, (t8_1 + 1), l2, F, rfl, H⟩
              exact ⟨rfl, rfl, rfl, (look_slice rfl (by first | rfl | (simp; done) | omega | (simp; omega))), rfl, (look_slice rfl (by first | rfl | (simp; done) | omega | (simp; omega))), rfl, trivial⟩
            ·
              intro K14 hK14 jK12056
              refine CW.block ?_
              refine CW.seq fun K15 hK15 => ?_
              refine CW.region ?_
              refine LW.pure rfl rfl (RV.assign rfl) ?_
              refine LW.nil (hK15 _ _ ?_)
              refine CW.block ?_
              refine CW.loop (fun meas ρ wl7 => ∃ (t9_1 : Int) (l5 : List Int), ref01_laplace_L1 a0 a1 t6_1 t8_1 rec2 meas t9_1 l5 = some res ∧ ρ = [(1, .slice A_a1 a1.length c_a1), (2, .pointer (some (⟨b1, 0, none⟩))), (4, .slice none 0 0), (5, .slice Am3 m3.length cm3), (6, .int .i64 t6_1), (7, .slice (some ⟨b2, 0, none⟩) l5.length (((List.replicate (Int.toNat ((a1.length : Int))) (0 : Int))).length)), (8, .int .i64 t8_1), (9, .int .i64 t9_1)] ∧ Hp w wl7 [.tab Am3 cm3 39 hsm3 3 1 (encM encN m3), .own (some ⟨b2, 0, none⟩) (((List.replicate (Int.toNat ((a1.length : Int))) (0 : Int))).length) 3 1 (List.map encN l5), .blk b1 24 [.int .i64 a0.points, .slice A_a0_readings a0.readings.length c_a0_readings]]) FU ⟨_, ?_, ((0 : Int)), l6, F, rfl, H⟩ ?_
              · exact ⟨rfl, rfl, rfl, (look_slice rfl (by first | rfl | (simp; done) | omega | (simp; omega))), rfl, (look_slice rfl (by first | rfl | (simp; done) | omega | (simp; omega))), rfl, rfl, trivial⟩
              rintro mk3 _ wl7 ⟨t9_1, l5, F, rfl, H⟩
              have R0 := H.ext
              replace F := ref01_laplace_L1_s F
              obtain ⟨mk3, rfl, F⟩ := F
              generalize hrec3 : ref01_laplace_L1 a0 a1 t6_1 t8_1 rec2 mk3 = rec3 at F
              unfold ref01_laplace_B1 at F
              refine CW.seq fun K16 hK16 => ?_
              refine CW.seq fun K17 hK17 => ?_
              refine CW.region ?_
              refine LW.pure rfl rfl (RV.move rfl) ?_
              refine LW.pure rfl rfl (RV.fieldAddr Tf24_1 rfl) ?_
              refine LW.pure rfl rfl (RV.load1 Tk22 rfl ((H.blk 2 rfl).cells.off 1) rfl) ?_
              refine LW.pure rfl rfl (RV.len Ts22 rfl) ?_
              refine LW.pure rfl rfl (RV.lss rfl rfl) ?_
              refine LW.nil (hK17 _ _ ?_)
              by_cases hp3 : t9_1 < ((a0.readings.length : Int))
              ·
                replace F := ite_y hp3 F
                have hq3 := dec_t hp3
                refine CW.condT rfl hq3 ?_
                refine CW.skip (hK16 _ _ ?_)
                refine CW.seqJ (fun ρ wl8 => (∃ (l3 : List Int), ref01_laplace_k5 t9_1 rec3 l3 = some res ∧ ρ = [(1, .slice A_a1 a1.length c_a1), (2, .pointer (some (⟨b1, 0, none⟩))), (4, .slice none 0 0), (5, .slice Am3 m3.length cm3), (6, .int .i64 t6_1), (7, .slice (some ⟨b2, 0, none⟩) l3.length (((List.replicate (Int.toNat ((a1.length : Int))) (0 : Int))).length)), (8, .int .i64 t8_1), (9, .int .i64 t9_1)] ∧ Hp w wl8 [.tab Am3 cm3 39 hsm3 3 1 (encM encN m3), .own (some ⟨b2, 0, none⟩) (((List.replicate (Int.toNat ((a1.length : Int))) (0 : Int))).length) 3 1 (List.map encN l3), .blk b1 24 [.int .i64 a0.points, .slice A_a0_readings a0.readings.length c_a0_readings]])) ?_ ?_
                ·
                  rintro _ wl8 ⟨l3, F, rfl, H⟩
                  have R0 := H.ext
                  unfold ref01_laplace_k5 at F
                  obtain ⟨hg5, F⟩ := gd_some F
                  refine CW.region ?_
                  refine LW.pure rfl rfl (RV.move rfl) ?_
                  refine LW.pure rfl rfl (RV.add rfl rfl hg5) ?_
                  refine LW.pure rfl rfl (RV.assign rfl) ?_
                  refine LW.nil ?_
                  subst hrec3
                  refine ⟨mk3, Nat.lt_succ_self _, _, ?_, (t9_1 + 1), l3, F, rfl, H⟩
                  exact ⟨rfl, rfl, rfl, (look_slice rfl (by first | rfl | (simp; done) | omega | (simp; omega))), rfl, (look_slice rfl (by first | rfl | (simp; done) | omega | (simp; omega))), rfl, rfl, trivial⟩
                ·
                  intro K18 hK18 jK12091
                  refine CW.block ?_
                  refine CW.seq fun K19 hK19 => ?_
                  obtain ⟨x1, hbx1, hx1, F⟩ := ix_some F
                  refine CW.region ?_
                  refine LW.pure rfl rfl (RV.fieldAddr Tf24_1 rfl) ?_
                  refine LW.pure rfl rfl (RV.load1 Tk22 rfl ((H.blk 2 rfl).cells.off 1) rfl) ?_
                  refine LW.pure rfl rfl (RV.move rfl) ?_
                  refine LW.pure rfl rfl (RV.indexAddr Ts22 rfl rfl hbx1 (h_a0_readings.addr_ hx1)) ?_
                  refine LW.pure rfl rfl (RV.loadA [.int .i64 x1.from_, .int .i64 x1.to_, .int .i64 x1.rise, .int .i64 x1.weight] Tk46 rfl ((h_a0_readings.at_ hx1).ext R0) rfl rfl) ?_
                  refine LW.go rfl rfl (OW.alloc Tz46 fun b4 w5 N4 => ?_)
                  replace H := H.new N4 N4.blk
                  replace R0 := H.ext
                  refine LW.go rfl rfl (OW.store Tk46 rfl rfl (H.blk 0 rfl) (off := 0) (vs := [.int .i64 x1.from_, .int .i64 x1.to_, .int .i64 x1.rise, .int .i64 x1.weight]) rfl rfl rfl rfl rfl fun w6 S1 => ?_)
                  replace H : Hp w w6 [.blk b4 46 [.int .i64 x1.from_, .int .i64 x1.to_, .int .i64 x1.rise, .int .i64 x1.weight], .tab Am3 cm3 39 hsm3 3 1 (encM encN m3), .own (some ⟨b2, 0, none⟩) (((List.replicate (Int.toNat ((a1.length : Int))) (0 : Int))).length) 3 1 (List.map encN l5), .blk b1 24 [.int .i64 a0.points, .slice A_a0_readings a0.readings.length c_a0_readings]] := H.stored 0 rfl S1
                  replace R0 := H.ext
                  refine LW.nil (hK19 _ _ ?_)
                  refine CW.seqJ (fun ρ wl9 => (∃ (l4 : List Int), ref01_laplace_k7 a1 t6_1 t8_1 t9_1 rec3 x1 l4 = some res ∧ ρ = [(1, .slice A_a1 a1.length c_a1), (2, .pointer (some (⟨b1, 0, none⟩))), (4, .slice none 0 0), (5, .slice Am3 m3.length cm3), (6, .int .i64 t6_1), (7, .slice (some ⟨b2, 0, none⟩) l4.length (((List.replicate (Int.toNat ((a1.length : Int))) (0 : Int))).length)), (8, .int .i64 t8_1), (9, .int .i64 t9_1), (10, .pointer (some (⟨b4, 0, none⟩)))] ∧ Hp w wl9 [.tab Am3 cm3 39 hsm3 3 1 (encM encN m3), .own (some ⟨b2, 0, none⟩) (((List.replicate (Int.toNat ((a1.length : Int))) (0 : Int))).length) 3 1 (List.map encN l4), .blk b1 24 [.int .i64 a0.points, .slice A_a0_readings a0.readings.length c_a0_readings], .blk b4 46 [.int .i64 x1.from_, .int .i64 x1.to_, .int .i64 x1.rise, .int .i64 x1.weight]])) ?_ ?_
                  ·
                    rintro _ wl9 ⟨l4, F, rfl, H⟩
                    have R0 := H.ext
                    unfold ref01_laplace_k7 at F
                    refine CW.seqJ (fun ρ wl10 => (∃ (t105_1 : Bool), ref01_laplace_k6 t8_1 t9_1 rec3 x1 l4 t105_1 = some res ∧ ρ = [(1, .slice A_a1 a1.length c_a1), (2, .pointer (some (⟨b1, 0, none⟩))), (4, .slice none 0 0), (5, .slice Am3 m3.length cm3), (6, .int .i64 t6_1), (7, .slice (some ⟨b2, 0, none⟩) l4.length (((List.replicate (Int.toNat ((a1.length : Int))) (0 : Int))).length)), (8, .int .i64 t8_1), (9, .int .i64 t9_1), (10, .pointer (some (⟨b4, 0, none⟩))), (105, .bool t105_1)] ∧ Hp w wl10 [.tab Am3 cm3 39 hsm3 3 1 (encM encN m3), .own (some ⟨b2, 0, none⟩) (((List.replicate (Int.toNat ((a1.length : Int))) (0 : Int))).length) 3 1 (List.map encN l4), .blk b1 24 [.int .i64 a0.points, .slice A_a0_readings a0.readings.length c_a0_readings], .blk b4 46 [.int .i64 x1.from_, .int .i64 x1.to_, .int .i64 x1.rise, .int .i64 x1.weight]])) ?_ ?_
                    ·
                      rintro _ wl10 ⟨t105_1, F, rfl, H⟩
                      have R0 := H.ext
                      unfold ref01_laplace_k6 at F
                      by_cases hp4 : t105_1 = true
                      ·
                        replace F := ite_y hp4 F
                        have hq4 : t105_1 = true := hp4
                        refine CW.condT rfl hq4 ?_
                        obtain ⟨x2, hbx2, hx2, F⟩ := ix_some F
                        obtain ⟨hg6, F⟩ := gd_some F
                        obtain ⟨x3, hbx3, hx3, F⟩ := ix_some F
                        refine CW.draw [8] (fun _ => True) (.cons 0 1 (.cons 1 1 (.cons 2 1 (.cons 3 1 (.cons 4 1 (.cons 5 1 (.cons 6 1 (.cons 7 1 (.cons 8 0 .nil))))))))) mixed (by kernel_rfl) fun w7 E1 => ?_
                        replace H := H.grow E1
                        replace R0 := H.ext
                        refine DW.fix rfl rfl rfl (fun _ EQ => RV.move rfl) ?_
                        refine DW.fix rfl rfl rfl (fun _ EQ => RV.move rfl) ?_
                        refine DW.fix rfl rfl rfl (fun _ EQ => RV.indexAddr Ts39 rfl rfl hbx2 ⟨_, rfl⟩) ?_
                        refine DW.fix rfl rfl rfl (fun _ EQ => RV.load1 Tk3 rfl (((H.grow EQ).own 1 rfl).sl.at_ hx2) rfl) ?_
                        refine DW.fix rfl rfl rfl (fun _ EQ => RV.fieldAddr Tf46_3 rfl) ?_
                        refine DW.fix rfl rfl rfl (fun _ EQ => RV.load1 Tk3 rfl (((H.grow EQ).blk 3 rfl).cells.off 3) rfl) ?_
                        refine DW.fix rfl rfl rfl (fun _ EQ => RV.sub rfl rfl hg6) ?_
                        refine DW.fix rfl rfl rfl (fun _ EQ => RV.indexAddr Ts39 rfl rfl hbx3 ⟨_, rfl⟩) ?_
                        refine DW.sole rfl rfl rfl (OW.storeO (enc := encN) (vs := [.int .i64 (x2 - x1.weight)]) 0 (x2 - x1.weight) Tk3 rfl rfl (H.own 1 rfl) (fun _ => rfl) rfl hx3 rfl rfl (by decide) rfl rfl fun w8 M2 O2 => ?_)
                        refine ⟨fun h => absurd h (by decide), M2.modx (fun _ _ => trivial), ?_⟩
                        replace H : Hp w w8 [.tab Am3 cm3 39 hsm3 3 1 (encM encN m3), .own (some ⟨b2, 0, none⟩) (((List.replicate (Int.toNat ((a1.length : Int))) (0 : Int))).length) 3 1 (List.map encN ((l4.set (Int.toNat t8_1) (x2 - x1.weight)))), .blk b1 24 [.int .i64 a0.points, .slice A_a0_readings a0.readings.length c_a0_readings], .blk b4 46 [.int .i64 x1.from_, .int .i64 x1.to_, .int .i64 x1.rise, .int .i64 x1.weight]] := H.mod 1 rfl M2 O2 (.inl rfl)
                        replace R0 := H.ext
                        replace H := H.pick (L' := [.tab Am3 cm3 39 hsm3 3 1 (encM encN m3), .own (some ⟨b2, 0, none⟩) (((List.replicate (Int.toNat ((a1.length : Int))) (0 : Int))).length) 3 1 (List.map encN ((l4.set (Int.toNat t8_1) (x2 - x1.weight)))), .blk b1 24 [.int .i64 a0.points, .slice A_a0_readings a0.readings.length c_a0_readings]]) [0, 1, 2] (by decide) rfl
                        replace R0 := H.ext
                        refine DW.nil (jK12091 _ _ ⟨_, ?_, ⟨((l4.set (Int.toNat t8_1) (x2 - x1.weight))), F, rfl, H⟩⟩)
                        exact ⟨rfl, rfl, rfl, (look_slice rfl (by first | rfl | (simp; done) | omega | (simp; omega))), rfl, (look_slice rfl (by first | rfl | (simp; done) | omega | (simp; omega))), rfl, rfl, trivial⟩
                      ·
                        replace F := ite_n hp4 F
                        have hq4 : t105_1 = false := raw_f hp4
                        refine CW.condF rfl hq4 ?_
                        replace H := H.pick (L' := [.tab Am3 cm3 39 hsm3 3 1 (encM encN m3), .own (some ⟨b2, 0, none⟩) (((List.replicate (Int.toNat ((a1.length : Int))) (0 : Int))).length) 3 1 (List.map encN l4), .blk b1 24 [.int .i64 a0.points, .slice A_a0_readings a0.readings.length c_a0_readings]]) [0, 1, 2] (by decide) rfl
                        replace R0 := H.ext
                        refine CW.skip (jK12091 _ _ ⟨_, ?_, ⟨l4, F, rfl, H⟩⟩)
                        exact ⟨rfl, rfl, rfl, (look_slice rfl (by first | rfl | (simp; done) | omega | (simp; omega))), rfl, (look_slice rfl (by first | rfl | (simp; done) | omega | (simp; omega))), rfl, rfl, trivial⟩
                    ·
                      intro K20 hK20 jK12094
                      by_cases hp5 : t6_1 = t8_1
                      ·
                        replace F := ite_y hp5 F
                        have hq5 := dec_t hp5
                        refine CW.draw [] (fun _ => True) (.cons 0 1 (.cons 1 1 (.cons 2 1 (.cons 3 1 (.cons 4 1 (.cons 5 1 (.cons 6 1 (.cons 7 1 (.cons 8 1 (.cons 9 1 (.cons 10 1 (.cons 11 1 (.cons 12 1 (.cons 13 1 (.cons 14 1 (.cons 15 1 (.cons 16 1 (.cons 17 1 (.cons 18 1 (.cons 19 1 (.cons 20 1 (.cons 21 1 (.cons 22 1 (.cons 23 1 (.cons 24 1 (.cons 25 1 (.cons 26 1 (.cons 27 1 (.cons 28 1 (.cons 29 1 (.cons 30 1 (.cons 31 1 (.cons 32 1 (.cons 33 1 (.cons 34 1 (.cons 35 1 (.cons 36 1 (.cons 37 1 (.cons 38 1 .nil))))))))))))))))))))))))))))))))))))))) mixed (by kernel_rfl) fun w9 E2 => ?_
                        replace H := H.grow E2
                        replace R0 := H.ext
                        refine DW.fix rfl rfl rfl (fun _ EQ => RV.move rfl) ?_
                        refine DW.fix rfl rfl rfl (fun _ EQ => RV.move rfl) ?_
                        refine DW.fix rfl rfl rfl (fun _ EQ => RV.nei rfl rfl) ?_
                        refine DW.fix rfl rfl rfl (fun _ EQ => RV.move rfl) ?_
                        refine DW.fixNB rfl rfl rfl rfl rfl (ne_beq (v := false) (not_f hq5) rfl) ?_
                        refine DW.fixNB rfl rfl rfl rfl rfl (ne_beq (v := false) (not_f hq5) rfl) ?_
                        refine DW.fixNB rfl rfl rfl rfl rfl (ne_beq (v := false) (not_f hq5) rfl) ?_
                        refine DW.fixNB rfl rfl rfl rfl rfl (ne_beq (v := false) (not_f hq5) rfl) ?_
                        refine DW.fixNB rfl rfl rfl rfl rfl (ne_beq (v := false) (not_f hq5) rfl) ?_
                        refine DW.fixNB rfl rfl rfl rfl rfl (ne_beq (v := false) (not_f hq5) rfl) ?_
                        refine DW.fixNB rfl rfl rfl rfl rfl (ne_beq (v := false) (not_f hq5) rfl) ?_
                        refine DW.fixNB rfl rfl rfl rfl rfl (ne_beq (v := false) (not_f hq5) rfl) ?_
                        refine DW.fixNU rfl rfl rfl rfl rfl ?_
                        refine DW.fixNU rfl rfl rfl rfl rfl ?_
                        refine DW.fixNU rfl rfl rfl rfl rfl ?_
                        refine DW.fixNU rfl rfl rfl rfl rfl ?_
                        refine DW.fixNU rfl rfl rfl rfl rfl ?_
                        refine DW.fixNU rfl rfl rfl rfl rfl ?_
                        refine DW.fixNU rfl rfl rfl rfl rfl ?_
                        refine DW.fixNB rfl rfl rfl rfl rfl (ne_beq (v := false) (not_f hq5) rfl) ?_
                        refine DW.fixNB rfl rfl rfl rfl rfl (ne_beq (v := false) (not_f hq5) rfl) ?_
                        refine DW.fixNU rfl rfl rfl rfl rfl ?_
                        refine DW.fixNU rfl rfl rfl rfl rfl ?_
                        refine DW.fixNU rfl rfl rfl rfl rfl ?_
                        refine DW.fixNU rfl rfl rfl rfl rfl ?_
                        refine DW.fixNU rfl rfl rfl rfl rfl ?_
                        refine DW.fixNU rfl rfl rfl rfl rfl ?_
                        refine DW.fixNU rfl rfl rfl rfl rfl ?_
                        refine DW.fixNU rfl rfl rfl rfl rfl ?_
                        refine DW.fixNU rfl rfl rfl rfl rfl ?_
                        refine DW.fixNU rfl rfl rfl rfl rfl ?_
                        refine DW.fixNU rfl rfl rfl rfl rfl ?_
                        refine DW.fixNU rfl rfl rfl rfl rfl ?_
                        refine DW.fixNU rfl rfl rfl rfl rfl ?_
                        refine DW.fixNU rfl rfl rfl rfl rfl ?_
                        refine DW.fixNU rfl rfl rfl rfl rfl ?_
                        refine DW.fixNU rfl rfl rfl rfl rfl ?_
                        refine DW.fixNB rfl rfl rfl rfl rfl (ne_beq (v := false) (not_f hq5) rfl) ?_
                        refine DW.fix rfl rfl rfl (fun _ EQ => RV.pickFB rfl (not_f hq5) rfl) ?_
                        refine DW.nil (jK12094 _ _ ⟨_, ?_, ⟨false, F, rfl, H⟩⟩)
                        exact ⟨rfl, rfl, rfl, (look_slice rfl (by first | rfl | (simp; done) | omega | (simp; omega))), rfl, (look_slice rfl (by first | rfl | (simp; done) | omega | (simp; omega))), rfl, rfl, rfl, rfl, trivial⟩
                      ·
                        replace F := ite_n hp5 F
                        have hq5 := dec_f hp5
                        obtain ⟨x4, hbx4, hx4, F⟩ := ix_some F
                        by_cases hp6 : x1.from_ = x4
                        ·
                          replace F := ite_y hp6 F
                          have hq6 := dec_t hp6
                          obtain ⟨x5, hbx5, hx5, F⟩ := ix_some F
                          by_cases hp7 : x1.to_ = x5
                          ·
                            replace F := ite_y hp7 F
                            have hq7 := dec_t hp7
                            refine CW.draw [] (fun _ => True) (.cons 0 1 (.cons 1 1 (.cons 2 1 (.cons 3 1 (.cons 4 1 (.cons 5 1 (.cons 6 1 (.cons 7 1 (.cons 8 1 (.cons 9 1 (.cons 10 1 (.cons 11 1 (.cons 12 1 (.cons 13 1 (.cons 14 1 (.cons 15 1 (.cons 16 1 (.cons 17 1 (.cons 18 1 (.cons 19 1 (.cons 20 1 (.cons 21 1 (.cons 22 1 (.cons 23 1 (.cons 24 1 (.cons 25 1 (.cons 26 1 (.cons 27 1 (.cons 28 1 (.cons 29 1 (.cons 30 1 (.cons 31 1 (.cons 32 1 (.cons 33 1 (.cons 34 1 (.cons 35 1 (.cons 36 1 (.cons 37 1 (.cons 38 1 .nil))))))))))))))))))))))))))))))))))))))) mixed (by kernel_rfl) fun w10 E3 => ?_
                            replace H := H.grow E3
                            replace R0 := H.ext
                            refine DW.fix rfl rfl rfl (fun _ EQ => RV.move rfl) ?_
                            refine DW.fix rfl rfl rfl (fun _ EQ => RV.move rfl) ?_
                            refine DW.fix rfl rfl rfl (fun _ EQ => RV.nei rfl rfl) ?_
                            refine DW.fix rfl rfl rfl (fun _ EQ => RV.move rfl) ?_
                            refine DW.fixYB rfl rfl rfl rfl rfl (not_t hq5) (fun _ EQ => RV.fieldAddr Tf46_0 rfl) ?_
                            refine DW.fixYB rfl rfl rfl rfl rfl (not_t hq5) (fun _ EQ => RV.load1 Tk3 rfl (((H.grow EQ).blk 3 rfl).cells.off 0) rfl) ?_
                            refine DW.fixYB rfl rfl rfl rfl rfl (not_t hq5) (fun _ EQ => RV.move rfl) ?_
                            refine DW.fixYB rfl rfl rfl rfl rfl (not_t hq5) (fun _ EQ => RV.move rfl) ?_
                            refine DW.fixYB rfl rfl rfl rfl rfl (not_t hq5) (fun _ EQ => RV.indexAddr Ts39 rfl rfl hbx4 (h_a1.addr_ hx4)) ?_
                            refine DW.fixYB rfl rfl rfl rfl rfl (not_t hq5) (fun _ EQ => RV.load1 Tk3 rfl ((h_a1.at_ hx4).ext (R0.trans EQ)) rfl) ?_
                            refine DW.fixYB rfl rfl rfl rfl rfl (not_t hq5) (fun _ EQ => RV.eqi rfl rfl) ?_
                            refine DW.fixYB rfl rfl rfl rfl rfl (not_t hq5) (fun _ EQ => RV.move rfl) ?_
                            refine DW.fixYB rfl rfl rfl rfl rfl hq6 (fun _ EQ => RV.fieldAddr Tf46_1 rfl) ?_
                            refine DW.fixYB rfl rfl rfl rfl rfl hq6 (fun _ EQ => RV.load1 Tk3 rfl (((H.grow EQ).blk 3 rfl).cells.off 1) rfl) ?_
                            refine DW.fixYB rfl rfl rfl rfl rfl hq6 (fun _ EQ => RV.move rfl) ?_
                            refine DW.fixYB rfl rfl rfl rfl rfl hq6 (fun _ EQ => RV.move rfl) ?_
                            refine DW.fixYB rfl rfl rfl rfl rfl hq6 (fun _ EQ => RV.indexAddr Ts39 rfl rfl hbx5 (h_a1.addr_ hx5)) ?_
                            refine DW.fixYB rfl rfl rfl rfl rfl hq6 (fun _ EQ => RV.load1 Tk3 rfl ((h_a1.at_ hx5).ext (R0.trans EQ)) rfl) ?_
                            refine DW.fixYB rfl rfl rfl rfl rfl hq6 (fun _ EQ => RV.eqi rfl rfl) ?_
                            refine DW.fixYB rfl rfl rfl rfl rfl (not_t hq5) (fun _ EQ => RV.pickTB rfl hq6 rfl) ?_
                            refine DW.fixYB rfl rfl rfl rfl rfl (not_t hq5) (fun _ EQ => RV.move rfl) ?_
                            refine DW.fixNB rfl rfl rfl rfl rfl (ne_beq (v := true) hq7 rfl) ?_
                            refine DW.fixNB rfl rfl rfl rfl rfl (ne_beq (v := true) hq7 rfl) ?_
                            refine DW.fixNB rfl rfl rfl rfl rfl (ne_beq (v := true) hq7 rfl) ?_
                            refine DW.fixNB rfl rfl rfl rfl rfl (ne_beq (v := true) hq7 rfl) ?_
                            refine DW.fixNB rfl rfl rfl rfl rfl (ne_beq (v := true) hq7 rfl) ?_
                            refine DW.fixNB rfl rfl rfl rfl rfl (ne_beq (v := true) hq7 rfl) ?_
                            refine DW.fixNB rfl rfl rfl rfl rfl (ne_beq (v := true) hq7 rfl) ?_
                            refine DW.fixNB rfl rfl rfl rfl rfl (ne_beq (v := true) hq7 rfl) ?_
                            refine DW.fixNU rfl rfl rfl rfl rfl ?_
                            refine DW.fixNU rfl rfl rfl rfl rfl ?_
                            refine DW.fixNU rfl rfl rfl rfl rfl ?_
                            refine DW.fixNU rfl rfl rfl rfl rfl ?_
                            refine DW.fixNU rfl rfl rfl rfl rfl ?_
                            refine DW.fixNU rfl rfl rfl rfl rfl ?_
                            refine DW.fixNU rfl rfl rfl rfl rfl ?_
                            refine DW.fixNB rfl rfl rfl rfl rfl (ne_beq (v := true) hq7 rfl) ?_
                            refine DW.fixYB rfl rfl rfl rfl rfl (not_t hq5) (fun _ EQ => RV.pickTB rfl hq7 rfl) ?_
                            refine DW.fix rfl rfl rfl (fun _ EQ => RV.pickTB rfl (not_t hq5) rfl) ?_
                            refine DW.nil (jK12094 _ _ ⟨_, ?_, ⟨true, F, rfl, H⟩⟩)
                            exact ⟨rfl, rfl, rfl, (look_slice rfl (by first | rfl | (simp; done) | omega | (simp; omega))), rfl, (look_slice rfl (by first | rfl | (simp; done) | omega | (simp; omega))), rfl, rfl, rfl, rfl, trivial⟩
                          ·
                            replace F := ite_n hp7 F
                            have hq7 := dec_f hp7
                            obtain ⟨x6, hbx6, hx6, F⟩ := ix_some F
                            by_cases hp8 : x1.to_ = x6
                            ·
                              replace F := ite_y hp8 F
                              have hq8 := dec_t hp8
                              obtain ⟨x7, hbx7, hx7, F⟩ := ix_some F
                              refine CW.draw [] (fun _ => True) (.cons 0 1 (.cons 1 1 (.cons 2 1 (.cons 3 1 (.cons 4 1 (.cons 5 1 (.cons 6 1 (.cons 7 1 (.cons 8 1 (.cons 9 1 (.cons 10 1 (.cons 11 1 (.cons 12 1 (.cons 13 1 (.cons 14 1 (.cons 15 1 (.cons 16 1 (.cons 17 1 (.cons 18 1 (.cons 19 1 (.cons 20 1 (.cons 21 1 (.cons 22 1 (.cons 23 1 (.cons 24 1 (.cons 25 1 (.cons 26 1 (.cons 27 1 (.cons 28 1 (.cons 29 1 (.cons 30 1 (.cons 31 1 (.cons 32 1 (.cons 33 1 (.cons 34 1 (.cons 35 1 (.cons 36 1 (.cons 37 1 (.cons 38 1 .nil))))))))))))))))))))))))))))))))))))))) mixed (by kernel_rfl) fun w11 E4 => ?_
                              replace H := H.grow E4
                              replace R0 := H.ext
                              refine DW.fix rfl rfl rfl (fun _ EQ => RV.move rfl) ?_
                              refine DW.fix rfl rfl rfl (fun _ EQ => RV.move rfl) ?_
                              refine DW.fix rfl rfl rfl (fun _ EQ => RV.nei rfl rfl) ?_
                              refine DW.fix rfl rfl rfl (fun _ EQ => RV.move rfl) ?_
                              refine DW.fixYB rfl rfl rfl rfl rfl (not_t hq5) (fun _ EQ => RV.fieldAddr Tf46_0 rfl) ?_
                              refine DW.fixYB rfl rfl rfl rfl rfl (not_t hq5) (fun _ EQ => RV.load1 Tk3 rfl (((H.grow EQ).blk 3 rfl).cells.off 0) rfl) ?_
                              refine DW.fixYB rfl rfl rfl rfl rfl (not_t hq5) (fun _ EQ => RV.move rfl) ?_
                              refine DW.fixYB rfl rfl rfl rfl rfl (not_t hq5) (fun _ EQ => RV.move rfl) ?_
                              refine DW.fixYB rfl rfl rfl rfl rfl (not_t hq5) (fun _ EQ => RV.indexAddr Ts39 rfl rfl hbx4 (h_a1.addr_ hx4)) ?_
                              refine DW.fixYB rfl rfl rfl rfl rfl (not_t hq5) (fun _ EQ => RV.load1 Tk3 rfl ((h_a1.at_ hx4).ext (R0.trans EQ)) rfl) ?_
                              refine DW.fixYB rfl rfl rfl rfl rfl (not_t hq5) (fun _ EQ => RV.eqi rfl rfl) ?_
                              refine DW.fixYB rfl rfl rfl rfl rfl (not_t hq5) (fun _ EQ => RV.move rfl) ?_
                              refine DW.fixYB rfl rfl rfl rfl rfl hq6 (fun _ EQ => RV.fieldAddr Tf46_1 rfl) ?_
                              refine DW.fixYB rfl rfl rfl rfl rfl hq6 (fun _ EQ => RV.load1 Tk3 rfl (((H.grow EQ).blk 3 rfl).cells.off 1) rfl) ?_
                              refine DW.fixYB rfl rfl rfl rfl rfl hq6 (fun _ EQ => RV.move rfl) ?_
                              refine DW.fixYB rfl rfl rfl rfl rfl hq6 (fun _ EQ => RV.move rfl) ?_
                              refine DW.fixYB rfl rfl rfl rfl rfl hq6 (fun _ EQ => RV.indexAddr Ts39 rfl rfl hbx5 (h_a1.addr_ hx5)) ?_
                              refine DW.fixYB rfl rfl rfl rfl rfl hq6 (fun _ EQ => RV.load1 Tk3 rfl ((h_a1.at_ hx5).ext (R0.trans EQ)) rfl) ?_
                              refine DW.fixYB rfl rfl rfl rfl rfl hq6 (fun _ EQ => RV.eqi rfl rfl) ?_
                              refine DW.fixYB rfl rfl rfl rfl rfl (not_t hq5) (fun _ EQ => RV.pickTB rfl hq6 rfl) ?_
                              refine DW.fixYB rfl rfl rfl rfl rfl (not_t hq5) (fun _ EQ => RV.move rfl) ?_
                              refine DW.fixYB rfl rfl rfl rfl rfl hq7 (fun _ EQ => RV.fieldAddr Tf46_1 rfl) ?_
                              refine DW.fixYB rfl rfl rfl rfl rfl hq7 (fun _ EQ => RV.load1 Tk3 rfl (((H.grow EQ).blk 3 rfl).cells.off 1) rfl) ?_
                              refine DW.fixYB rfl rfl rfl rfl rfl hq7 (fun _ EQ => RV.move rfl) ?_
                              refine DW.fixYB rfl rfl rfl rfl rfl hq7 (fun _ EQ => RV.move rfl) ?_
                              refine DW.fixYB rfl rfl rfl rfl rfl hq7 (fun _ EQ => RV.indexAddr Ts39 rfl rfl hbx6 (h_a1.addr_ hx6)) ?_
                              refine DW.fixYB rfl rfl rfl rfl rfl hq7 (fun _ EQ => RV.load1 Tk3 rfl ((h_a1.at_ hx6).ext (R0.trans EQ)) rfl) ?_
                              refine DW.fixYB rfl rfl rfl rfl rfl hq7 (fun _ EQ => RV.eqi rfl rfl) ?_
                              refine DW.fixYB rfl rfl rfl rfl rfl hq7 (fun _ EQ => RV.move rfl) ?_
                              refine DW.fixYB rfl rfl rfl rfl rfl hq8 (fun _ EQ => RV.fieldAddr Tf46_0 rfl) ?_
                              refine DW.fixYB rfl rfl rfl rfl rfl hq8 (fun _ EQ => RV.load1 Tk3 rfl (((H.grow EQ).blk 3 rfl).cells.off 0) rfl) ?_
                              refine DW.fixYB rfl rfl rfl rfl rfl hq8 (fun _ EQ => RV.move rfl) ?_
                              refine DW.fixYB rfl rfl rfl rfl rfl hq8 (fun _ EQ => RV.move rfl) ?_
                              refine DW.fixYB rfl rfl rfl rfl rfl hq8 (fun _ EQ => RV.indexAddr Ts39 rfl rfl hbx7 (h_a1.addr_ hx7)) ?_
                              refine DW.fixYB rfl rfl rfl rfl rfl hq8 (fun _ EQ => RV.load1 Tk3 rfl ((h_a1.at_ hx7).ext (R0.trans EQ)) rfl) ?_
                              refine DW.fixYB rfl rfl rfl rfl rfl hq8 (fun _ EQ => RV.eqi rfl rfl) ?_
                              refine DW.fixYB rfl rfl rfl rfl rfl hq7 (fun _ EQ => RV.pickTB rfl hq8 rfl) ?_
                              refine DW.fixYB rfl rfl rfl rfl rfl (not_t hq5) (fun _ EQ => RV.pickFB rfl hq7 rfl) ?_
                              refine DW.fix rfl rfl rfl (fun _ EQ => RV.pickTB rfl (not_t hq5) rfl) ?_
                              refine DW.nil (jK12094 _ _ ⟨_, ?_, ⟨(decide (x1.from_ = x7)), F, rfl, H⟩⟩)
                              exact ⟨rfl, rfl, rfl, (look_slice rfl (by first | rfl | (simp; done) | omega | (simp; omega))), rfl, (look_slice rfl (by first | rfl | (simp; done) | omega | (simp; omega))), rfl, rfl, rfl, rfl, trivial⟩
                            ·
                              replace F := ite_n hp8 F
                              have hq8 := dec_f hp8
                              refine CW.draw [] (fun _ => True) (.cons 0 1 (.cons 1 1 (.cons 2 1 (.cons 3 1 (.cons 4 1 (.cons 5 1 (.cons 6 1 (.cons 7 1 (.cons 8 1 (.cons 9 1 (.cons 10 1 (.cons 11 1 (.cons 12 1 (.cons 13 1 (.cons 14 1 (.cons 15 1 (.cons 16 1 (.cons 17 1 (.cons 18 1 (.cons 19 1 (.cons 20 1 (.cons 21 1 (.cons 22 1 (.cons 23 1 (.cons 24 1 (.cons 25 1 (.cons 26 1 (.cons 27 1 (.cons 28 1 (.cons 29 1 (.cons 30 1 (.cons 31 1 (.cons 32 1 (.cons 33 1 (.cons 34 1 (.cons 35 1 (.cons 36 1 (.cons 37 1 (.cons 38 1 .nil))))))))))))))))))))))))))))))))))))))) mixed (by kernel_rfl) fun w12 E5 => ?_
                              replace H := H.grow E5
                              replace R0 := H.ext
                              refine DW.fix rfl rfl rfl (fun _ EQ => RV.move rfl) ?_
                              refine DW.fix rfl rfl rfl (fun _ EQ => RV.move rfl) ?_
                              refine DW.fix rfl rfl rfl (fun _ EQ => RV.nei rfl rfl) ?_
                              refine DW.fix rfl rfl rfl (fun _ EQ => RV.move rfl) ?_
                              refine DW.fixYB rfl rfl rfl rfl rfl (not_t hq5) (fun _ EQ => RV.fieldAddr Tf46_0 rfl) ?_
                              refine DW.fixYB rfl rfl rfl rfl rfl (not_t hq5) (fun _ EQ => RV.load1 Tk3 rfl (((H.grow EQ).blk 3 rfl).cells.off 0) rfl) ?_
                              refine DW.fixYB rfl rfl rfl rfl rfl (not_t hq5) (fun _ EQ => RV.move rfl) ?_
                              refine DW.fixYB rfl rfl rfl rfl rfl (not_t hq5) (fun _ EQ => RV.move rfl) ?_
                              refine DW.fixYB rfl rfl rfl rfl rfl (not_t hq5) (fun _ EQ => RV.indexAddr Ts39 rfl rfl hbx4 (h_a1.addr_ hx4)) ?_
                              refine DW.fixYB rfl rfl rfl rfl rfl (not_t hq5) (fun _ EQ => RV.load1 Tk3 rfl ((h_a1.at_ hx4).ext (R0.trans EQ)) rfl) ?_
                              refine DW.fixYB rfl rfl rfl rfl rfl (not_t hq5) (fun _ EQ => RV.eqi rfl rfl) ?_
                              refine DW.fixYB rfl rfl rfl rfl rfl (not_t hq5) (fun _ EQ => RV.move rfl) ?_
                              refine DW.fixYB rfl rfl rfl rfl rfl hq6 (fun _ EQ => RV.fieldAddr Tf46_1 rfl) ?_
                              refine DW.fixYB rfl rfl rfl rfl rfl hq6 (fun _ EQ => RV.load1 Tk3 rfl (((H.grow EQ).blk 3 rfl).cells.off 1) rfl) ?_
                              refine DW.fixYB rfl rfl rfl rfl rfl hq6 (fun _ EQ => RV.move rfl) ?_
                              refine DW.fixYB rfl rfl rfl rfl rfl hq6 (fun _ EQ => RV.move rfl) ?_
                              refine DW.fixYB rfl rfl rfl rfl rfl hq6 (fun _ EQ => RV.indexAddr Ts39 rfl rfl hbx5 (h_a1.addr_ hx5)) ?_
                              refine DW.fixYB rfl rfl rfl rfl rfl hq6 (fun _ EQ => RV.load1 Tk3 rfl ((h_a1.at_ hx5).ext (R0.trans EQ)) rfl) ?_
                              refine DW.fixYB rfl rfl rfl rfl rfl hq6 (fun _ EQ => RV.eqi rfl rfl) ?_
                              refine DW.fixYB rfl rfl rfl rfl rfl (not_t hq5) (fun _ EQ => RV.pickTB rfl hq6 rfl) ?_
                              refine DW.fixYB rfl rfl rfl rfl rfl (not_t hq5) (fun _ EQ => RV.move rfl) ?_
                              refine DW.fixYB rfl rfl rfl rfl rfl hq7 (fun _ EQ => RV.fieldAddr Tf46_1 rfl) ?_
                              refine DW.fixYB rfl rfl rfl rfl rfl hq7 (fun _ EQ => RV.load1 Tk3 rfl (((H.grow EQ).blk 3 rfl).cells.off 1) rfl) ?_
                              refine DW.fixYB rfl rfl rfl rfl rfl hq7 (fun _ EQ => RV.move rfl) ?_
                              refine DW.fixYB rfl rfl rfl rfl rfl hq7 (fun _ EQ => RV.move rfl) ?_
                              refine DW.fixYB rfl rfl rfl rfl rfl hq7 (fun _ EQ => RV.indexAddr Ts39 rfl rfl hbx6 (h_a1.addr_ hx6)) ?_
                              refine DW.fixYB rfl rfl rfl rfl rfl hq7 (fun _ EQ => RV.load1 Tk3 rfl ((h_a1.at_ hx6).ext (R0.trans EQ)) rfl) ?_
                              refine DW.fixYB rfl rfl rfl rfl rfl hq7 (fun _ EQ => RV.eqi rfl rfl) ?_
                              refine DW.fixYB rfl rfl rfl rfl rfl hq7 (fun _ EQ => RV.move rfl) ?_
                              refine DW.fixNB rfl rfl rfl rfl rfl (ne_beq (v := false) hq8 rfl) ?_
                              refine DW.fixNB rfl rfl rfl rfl rfl (ne_beq (v := false) hq8 rfl) ?_
                              refine DW.fixNB rfl rfl rfl rfl rfl (ne_beq (v := false) hq8 rfl) ?_
                              refine DW.fixNB rfl rfl rfl rfl rfl (ne_beq (v := false) hq8 rfl) ?_
                              refine DW.fixNB rfl rfl rfl rfl rfl (ne_beq (v := false) hq8 rfl) ?_
                              refine DW.fixNB rfl rfl rfl rfl rfl (ne_beq (v := false) hq8 rfl) ?_
                              refine DW.fixNB rfl rfl rfl rfl rfl (ne_beq (v := false) hq8 rfl) ?_
                              refine DW.fixYB rfl rfl rfl rfl rfl hq7 (fun _ EQ => RV.pickFB rfl hq8 rfl) ?_
                              refine DW.fixYB rfl rfl rfl rfl rfl (not_t hq5) (fun _ EQ => RV.pickFB rfl hq7 rfl) ?_
                              refine DW.fix rfl rfl rfl (fun _ EQ => RV.pickTB rfl (not_t hq5) rfl) ?_
                              refine DW.nil (jK12094 _ _ ⟨_, ?_, ⟨false, F, rfl, H⟩⟩)
                              exact ⟨rfl, rfl, rfl, (look_slice rfl (by first | rfl | (simp; done) | omega | (simp; omega))), rfl, (look_slice rfl (by first | rfl | (simp; done) | omega | (simp; omega))), rfl, rfl, rfl, rfl, trivial⟩
                        ·
                          replace F := ite_n hp6 F
                          have hq6 := dec_f hp6
                          obtain ⟨x8, hbx8, hx8, F⟩ := ix_some F
                          by_cases hp9 : x1.to_ = x8
                          ·
                            replace F := ite_y hp9 F
                            have hq9 := dec_t hp9
                            obtain ⟨x9, hbx9, hx9, F⟩ := ix_some F
                            refine CW.draw [] (fun _ => True) (.cons 0 1 (.cons 1 1 (.cons 2 1 (.cons 3 1 (.cons 4 1 (.cons 5 1 (.cons 6 1 (.cons 7 1 (.cons 8 1 (.cons 9 1 (.cons 10 1 (.cons 11 1 (.cons 12 1 (.cons 13 1 (.cons 14 1 (.cons 15 1 (.cons 16 1 (.cons 17 1 (.cons 18 1 (.cons 19 1 (.cons 20 1 (.cons 21 1 (.cons 22 1 (.cons 23 1 (.cons 24 1 (.cons 25 1 (.cons 26 1 (.cons 27 1 (.cons 28 1 (.cons 29 1 (.cons 30 1 (.cons 31 1 (.cons 32 1 (.cons 33 1 (.cons 34 1 (.cons 35 1 (.cons 36 1 (.cons 37 1 (.cons 38 1 .nil))))))))))))))))))))))))))))))))))))))) mixed (by kernel_rfl) fun w13 E6 => ?_
                            replace H := H.grow E6
                            replace R0 := H.ext
                            refine DW.fix rfl rfl rfl (fun _ EQ => RV.move rfl) ?_
                            refine DW.fix rfl rfl rfl (fun _ EQ => RV.move rfl) ?_
                            refine DW.fix rfl rfl rfl (fun _ EQ => RV.nei rfl rfl) ?_
                            refine DW.fix rfl rfl rfl (fun _ EQ => RV.move rfl) ?_
                            refine DW.fixYB rfl rfl rfl rfl rfl (not_t hq5) (fun _ EQ => RV.fieldAddr Tf46_0 rfl) ?_
                            refine DW.fixYB rfl rfl rfl rfl rfl (not_t hq5) (fun _ EQ => RV.load1 Tk3 rfl (((H.grow EQ).blk 3 rfl).cells.off 0) rfl) ?_
                            refine DW.fixYB rfl rfl rfl rfl rfl (not_t hq5) (fun _ EQ => RV.move rfl) ?_
                            refine DW.fixYB rfl rfl rfl rfl rfl (not_t hq5) (fun _ EQ => RV.move rfl) ?_
                            refine DW.fixYB rfl rfl rfl rfl rfl (not_t hq5) (fun _ EQ => RV.indexAddr Ts39 rfl rfl hbx4 (h_a1.addr_ hx4)) ?_
                            refine DW.fixYB rfl rfl rfl rfl rfl (not_t hq5) (fun _ EQ => RV.load1 Tk3 rfl ((h_a1.at_ hx4).ext (R0.trans EQ)) rfl) ?_
                            refine DW.fixYB rfl rfl rfl rfl rfl (not_t hq5) (fun _ EQ => RV.eqi rfl rfl) ?_
                            refine DW.fixYB rfl rfl rfl rfl rfl (not_t hq5) (fun _ EQ => RV.move rfl) ?_
                            refine DW.fixNB rfl rfl rfl rfl rfl (ne_beq (v := false) hq6 rfl) ?_
                            refine DW.fixNB rfl rfl rfl rfl rfl (ne_beq (v := false) hq6 rfl) ?_
                            refine DW.fixNB rfl rfl rfl rfl rfl (ne_beq (v := false) hq6 rfl) ?_
                            refine DW.fixNB rfl rfl rfl rfl rfl (ne_beq (v := false) hq6 rfl) ?_
                            refine DW.fixNB rfl rfl rfl rfl rfl (ne_beq (v := false) hq6 rfl) ?_
                            refine DW.fixNB rfl rfl rfl rfl rfl (ne_beq (v := false) hq6 rfl) ?_
                            refine DW.fixNB rfl rfl rfl rfl rfl (ne_beq (v := false) hq6 rfl) ?_
                            refine DW.fixYB rfl rfl rfl rfl rfl (not_t hq5) (fun _ EQ => RV.pickFB rfl hq6 rfl) ?_
                            refine DW.fixYB rfl rfl rfl rfl rfl (not_t hq5) (fun _ EQ => RV.move rfl) ?_
                            refine DW.fixYB rfl rfl rfl rfl rfl rfl (fun _ EQ => RV.fieldAddr Tf46_1 rfl) ?_
                            refine DW.fixYB rfl rfl rfl rfl rfl rfl (fun _ EQ => RV.load1 Tk3 rfl (((H.grow EQ).blk 3 rfl).cells.off 1) rfl) ?_
                            refine DW.fixYB rfl rfl rfl rfl rfl rfl (fun _ EQ => RV.move rfl) ?_
                            refine DW.fixYB rfl rfl rfl rfl rfl rfl (fun _ EQ => RV.move rfl) ?_
                            refine DW.fixYB rfl rfl rfl rfl rfl rfl (fun _ EQ => RV.indexAddr Ts39 rfl rfl hbx8 (h_a1.addr_ hx8)) ?_
                            refine DW.fixYB rfl rfl rfl rfl rfl rfl (fun _ EQ => RV.load1 Tk3 rfl ((h_a1.at_ hx8).ext (R0.trans EQ)) rfl) ?_
                            refine DW.fixYB rfl rfl rfl rfl rfl rfl (fun _ EQ => RV.eqi rfl rfl) ?_
                            refine DW.fixYB rfl rfl rfl rfl rfl rfl (fun _ EQ => RV.move rfl) ?_
                            refine DW.fixYB rfl rfl rfl rfl rfl hq9 (fun _ EQ => RV.fieldAddr Tf46_0 rfl) ?_
                            refine DW.fixYB rfl rfl rfl rfl rfl hq9 (fun _ EQ => RV.load1 Tk3 rfl (((H.grow EQ).blk 3 rfl).cells.off 0) rfl) ?_
                            refine DW.fixYB rfl rfl rfl rfl rfl hq9 (fun _ EQ => RV.move rfl) ?_
                            refine DW.fixYB rfl rfl rfl rfl rfl hq9 (fun _ EQ => RV.move rfl) ?_
                            refine DW.fixYB rfl rfl rfl rfl rfl hq9 (fun _ EQ => RV.indexAddr Ts39 rfl rfl hbx9 (h_a1.addr_ hx9)) ?_
                            refine DW.fixYB rfl rfl rfl rfl rfl hq9 (fun _ EQ => RV.load1 Tk3 rfl ((h_a1.at_ hx9).ext (R0.trans EQ)) rfl) ?_
                            refine DW.fixYB rfl rfl rfl rfl rfl hq9 (fun _ EQ => RV.eqi rfl rfl) ?_
                            refine DW.fixYB rfl rfl rfl rfl rfl rfl (fun _ EQ => RV.pickTB rfl hq9 rfl) ?_
                            refine DW.fixYB rfl rfl rfl rfl rfl (not_t hq5) (fun _ EQ => RV.pickFB rfl rfl rfl) ?_
                            refine DW.fix rfl rfl rfl (fun _ EQ => RV.pickTB rfl (not_t hq5) rfl) ?_
                            refine DW.nil (jK12094 _ _ ⟨_, ?_, ⟨(decide (x1.from_ = x9)), F, rfl, H⟩⟩)
                            exact ⟨rfl, rfl, rfl, (look_slice rfl (by first | rfl | (simp; done) | omega | (simp; omega))), rfl, (look_slice rfl (by first | rfl | (simp; done) | omega | (simp; omega))), rfl, rfl, rfl, rfl, trivial⟩
                          ·
                            replace F := ite_n hp9 F
                            have hq9 := dec_f hp9
                            refine CW.draw [] (fun _ => True) (.cons 0 1 (.cons 1 1 (.cons 2 1 (.cons 3 1 (.cons 4 1 (.cons 5 1 (.cons 6 1 (.cons 7 1 (.cons 8 1 (.cons 9 1 (.cons 10 1 (.cons 11 1 (.cons 12 1 (.cons 13 1 (.cons 14 1 (.cons 15 1 (.cons 16 1 (.cons 17 1 (.cons 18 1 (.cons 19 1 (.cons 20 1 (.cons 21 1 (.cons 22 1 (.cons 23 1 (.cons 24 1 (.cons 25 1 (.cons 26 1 (.cons 27 1 (.cons 28 1 (.cons 29 1 (.cons 30 1 (.cons 31 1 (.cons 32 1 (.cons 33 1 (.cons 34 1 (.cons 35 1 (.cons 36 1 (.cons 37 1 (.cons 38 1 .nil))))))))))))))))))))))))))))))))))))))) mixed (by kernel_rfl) fun w14 E7 => ?_
                            replace H := H.grow E7
                            replace R0 := H.ext
                            refine DW.fix rfl rfl rfl (fun _ EQ => RV.move rfl) ?_
                            refine DW.fix rfl rfl rfl (fun _ EQ => RV.move rfl) ?_
                            refine DW.fix rfl rfl rfl (fun _ EQ => RV.nei rfl rfl) ?_
                            refine DW.fix rfl rfl rfl (fun _ EQ => RV.move rfl) ?_
                            refine DW.fixYB rfl rfl rfl rfl rfl (not_t hq5) (fun _ EQ => RV.fieldAddr Tf46_0 rfl) ?_
                            refine DW.fixYB rfl rfl rfl rfl rfl (not_t hq5) (fun _ EQ => RV.load1 Tk3 rfl (((H.grow EQ).blk 3 rfl).cells.off 0) rfl) ?_
                            refine DW.fixYB rfl rfl rfl rfl rfl (not_t hq5) (fun _ EQ => RV.move rfl) ?_
                            refine DW.fixYB rfl rfl rfl rfl rfl (not_t hq5) (fun _ EQ => RV.move rfl) ?_
                            refine DW.fixYB rfl rfl rfl rfl rfl (not_t hq5) (fun _ EQ => RV.indexAddr Ts39 rfl rfl hbx4 (h_a1.addr_ hx4)) ?_
                            refine DW.fixYB rfl rfl rfl rfl rfl (not_t hq5) (fun _ EQ => RV.load1 Tk3 rfl ((h_a1.at_ hx4).ext (R0.trans EQ)) rfl) ?_
                            refine DW.fixYB rfl rfl rfl rfl rfl (not_t hq5) (fun _ EQ => RV.eqi rfl rfl) ?_
                            refine DW.fixYB rfl rfl rfl rfl rfl (not_t hq5) (fun _ EQ => RV.move rfl) ?_
                            refine DW.fixNB rfl rfl rfl rfl rfl (ne_beq (v := false) hq6 rfl) ?_
                            refine DW.fixNB rfl rfl rfl rfl rfl (ne_beq (v := false) hq6 rfl) ?_
                            refine DW.fixNB rfl rfl rfl rfl rfl (ne_beq (v := false) hq6 rfl) ?_
                            refine DW.fixNB rfl rfl rfl rfl rfl (ne_beq (v := false) hq6 rfl) ?_
                            refine DW.fixNB rfl rfl rfl rfl rfl (ne_beq (v := false) hq6 rfl) ?_
                            refine DW.fixNB rfl rfl rfl rfl rfl (ne_beq (v := false) hq6 rfl) ?_
                            refine DW.fixNB rfl rfl rfl rfl rfl (ne_beq (v := false) hq6 rfl) ?_
                            refine DW.fixYB rfl rfl rfl rfl rfl (not_t hq5) (fun _ EQ => RV.pickFB rfl hq6 rfl) ?_
                            refine DW.fixYB rfl rfl rfl rfl rfl (not_t hq5) (fun _ EQ => RV.move rfl) ?_
                            refine DW.fixYB rfl rfl rfl rfl rfl rfl (fun _ EQ => RV.fieldAddr Tf46_1 rfl) ?_
                            refine DW.fixYB rfl rfl rfl rfl rfl rfl (fun _ EQ => RV.load1 Tk3 rfl (((H.grow EQ).blk 3 rfl).cells.off 1) rfl) ?_
                            refine DW.fixYB rfl rfl rfl rfl rfl rfl (fun _ EQ => RV.move rfl) ?_
                            refine DW.fixYB rfl rfl rfl rfl rfl rfl (fun _ EQ => RV.move rfl) ?_
                            refine DW.fixYB rfl rfl rfl rfl rfl rfl (fun _ EQ => RV.indexAddr Ts39 rfl rfl hbx8 (h_a1.addr_ hx8)) ?_
                            refine DW.fixYB rfl rfl rfl rfl rfl rfl (fun _ EQ => RV.load1 Tk3 rfl ((h_a1.at_ hx8).ext (R0.trans EQ)) rfl) ?_
                            refine DW.fixYB rfl rfl rfl rfl rfl rfl (fun _ EQ => RV.eqi rfl rfl) ?_
                            refine DW.fixYB rfl rfl rfl rfl rfl rfl (fun _ EQ => RV.move rfl) ?_
                            refine DW.fixNB rfl rfl rfl rfl rfl (ne_beq (v := false) hq9 rfl) ?_
                            refine DW.fixNB rfl rfl rfl rfl rfl (ne_beq (v := false) hq9 rfl) ?_
                            refine DW.fixNB rfl rfl rfl rfl rfl (ne_beq (v := false) hq9 rfl) ?_
                            refine DW.fixNB rfl rfl rfl rfl rfl (ne_beq (v := false) hq9 rfl) ?_
                            refine DW.fixNB rfl rfl rfl rfl rfl (ne_beq (v := false) hq9 rfl) ?_
                            refine DW.fixNB rfl rfl rfl rfl rfl (ne_beq (v := false) hq9 rfl) ?_
                            refine DW.fixNB rfl rfl rfl rfl rfl (ne_beq (v := false) hq9 rfl) ?_
                            refine DW.fixYB rfl rfl rfl rfl rfl rfl (fun _ EQ => RV.pickFB rfl hq9 rfl) ?_
                            refine DW.fixYB rfl rfl rfl rfl rfl (not_t hq5) (fun _ EQ => RV.pickFB rfl rfl rfl) ?_
                            refine DW.fix rfl rfl rfl (fun _ EQ => RV.pickTB rfl (not_t hq5) rfl) ?_
                            refine DW.nil (jK12094 _ _ ⟨_, ?_, ⟨false, F, rfl, H⟩⟩)
                            exact ⟨rfl, rfl, rfl, (look_slice rfl (by first | rfl | (simp; done) | omega | (simp; omega))), rfl, (look_slice rfl (by first | rfl | (simp; done) | omega | (simp; omega))), rfl, rfl, rfl, rfl, trivial⟩
                  ·
                    intro K21 hK21 jK12095
                    refine CW.seqJ (fun ρ wl11 => (∃ (t58_1 : Bool), ref01_laplace_k8 a1 t6_1 t8_1 t9_1 l5 rec3 x1 t58_1 = some res ∧ ρ = [(1, .slice A_a1 a1.length c_a1), (2, .pointer (some (⟨b1, 0, none⟩))), (4, .slice none 0 0), (5, .slice Am3 m3.length cm3), (6, .int .i64 t6_1), (7, .slice (some ⟨b2, 0, none⟩) l5.length (((List.replicate (Int.toNat ((a1.length : Int))) (0 : Int))).length)), (8, .int .i64 t8_1), (9, .int .i64 t9_1), (10, .pointer (some (⟨b4, 0, none⟩))), (58, .bool t58_1)] ∧ Hp w wl11 [.tab Am3 cm3 39 hsm3 3 1 (encM encN m3), .own (some ⟨b2, 0, none⟩) (((List.replicate (Int.toNat ((a1.length : Int))) (0 : Int))).length) 3 1 (List.map encN l5), .blk b1 24 [.int .i64 a0.points, .slice A_a0_readings a0.readings.length c_a0_readings], .blk b4 46 [.int .i64 x1.from_, .int .i64 x1.to_, .int .i64 x1.rise, .int .i64 x1.weight]])) ?_ ?_
                    ·
                      rintro _ wl11 ⟨t58_1, F, rfl, H⟩
                      have R0 := H.ext
                      unfold ref01_laplace_k8 at F
                      by_cases hp10 : t58_1 = true
                      ·
                        replace F := ite_y hp10 F
                        have hq10 : t58_1 = true := hp10
                        refine CW.condT rfl hq10 ?_
                        obtain ⟨x10, hbx10, hx10, F⟩ := ix_some F
                        obtain ⟨hg7, F⟩ := gd_some F
                        obtain ⟨x11, hbx11, hx11, F⟩ := ix_some F
                        refine CW.draw [8] (fun _ => True) (.cons 0 1 (.cons 1 1 (.cons 2 1 (.cons 3 1 (.cons 4 1 (.cons 5 1 (.cons 6 1 (.cons 7 1 (.cons 8 0 .nil))))))))) mixed (by kernel_rfl) fun w15 E8 => ?_
                        replace H := H.grow E8
                        replace R0 := H.ext
                        refine DW.fix rfl rfl rfl (fun _ EQ => RV.move rfl) ?_
                        refine DW.fix rfl rfl rfl (fun _ EQ => RV.move rfl) ?_
                        refine DW.fix rfl rfl rfl (fun _ EQ => RV.indexAddr Ts39 rfl rfl hbx10 ⟨_, rfl⟩) ?_
                        refine DW.fix rfl rfl rfl (fun _ EQ => RV.load1 Tk3 rfl (((H.grow EQ).own 1 rfl).sl.at_ hx10) rfl) ?_
                        refine DW.fix rfl rfl rfl (fun _ EQ => RV.fieldAddr Tf46_3 rfl) ?_
                        refine DW.fix rfl rfl rfl (fun _ EQ => RV.load1 Tk3 rfl (((H.grow EQ).blk 3 rfl).cells.off 3) rfl) ?_
                        refine DW.fix rfl rfl rfl (fun _ EQ => RV.add rfl rfl hg7) ?_
                        refine DW.fix rfl rfl rfl (fun _ EQ => RV.indexAddr Ts39 rfl rfl hbx11 ⟨_, rfl⟩) ?_
                        refine DW.sole rfl rfl rfl (OW.storeO (enc := encN) (vs := [.int .i64 (x10 + x1.weight)]) 0 (x10 + x1.weight) Tk3 rfl rfl (H.own 1 rfl) (fun _ => rfl) rfl hx11 rfl rfl (by decide) rfl rfl fun w16 M3 O3 => ?_)
                        refine ⟨fun h => absurd h (by decide), M3.modx (fun _ _ => trivial), ?_⟩
                        replace H : Hp w w16 [.tab Am3 cm3 39 hsm3 3 1 (encM encN m3), .own (some ⟨b2, 0, none⟩) (((List.replicate (Int.toNat ((a1.length : Int))) (0 : Int))).length) 3 1 (List.map encN ((l5.set (Int.toNat t8_1) (x10 + x1.weight)))), .blk b1 24 [.int .i64 a0.points, .slice A_a0_readings a0.readings.length c_a0_readings], .blk b4 46 [.int .i64 x1.from_, .int .i64 x1.to_, .int .i64 x1.rise, .int .i64 x1.weight]] := H.mod 1 rfl M3 O3 (.inl rfl)
                        replace R0 := H.ext
                        refine DW.nil (jK12095 _ _ ⟨_, ?_, ⟨((l5.set (Int.toNat t8_1) (x10 + x1.weight))), F, rfl, H⟩⟩)
                        exact ⟨rfl, rfl, rfl, (look_slice rfl (by first | rfl | (simp; done) | omega | (simp; omega))), rfl, (look_slice rfl (by first | rfl | (simp; done) | omega | (simp; omega))), rfl, rfl, rfl, trivial⟩
                      ·
                        replace F := ite_n hp10 F
                        have hq10 : t58_1 = false := raw_f hp10
                        refine CW.condF rfl hq10 ?_
                        refine CW.skip (jK12095 _ _ ⟨_, ?_, ⟨l5, F, rfl, H⟩⟩)
                        exact ⟨rfl, rfl, rfl, (look_slice rfl (by first | rfl | (simp; done) | omega | (simp; omega))), rfl, (look_slice rfl (by first | rfl | (simp; done) | omega | (simp; omega))), rfl, rfl, rfl, trivial⟩
                    ·
                      intro K22 hK22 jK12096
                      by_cases hp11 : t6_1 = t8_1
                      ·
                        replace F := ite_y hp11 F
                        have hq11 := dec_t hp11
                        obtain ⟨x12, hbx12, hx12, F⟩ := ix_some F
                        by_cases hp12 : x1.from_ = x12
                        ·
                          replace F := ite_y hp12 F
                          have hq12 := dec_t hp12
                          refine CW.draw [] (fun _ => True) (.cons 0 1 (.cons 1 1 (.cons 2 1 (.cons 3 1 (.cons 4 1 (.cons 5 1 (.cons 6 1 (.cons 7 1 (.cons 8 1 (.cons 9 1 (.cons 10 1 (.cons 11 1 (.cons 12 1 (.cons 13 1 (.cons 14 1 (.cons 15 1 (.cons 16 1 (.cons 17 1 (.cons 18 1 (.cons 19 1 (.cons 20 1 .nil))))))))))))))))))))) mixed (by kernel_rfl) fun w17 E9 => ?_
                          replace H := H.grow E9
                          replace R0 := H.ext
                          refine DW.fix rfl rfl rfl (fun _ EQ => RV.move rfl) ?_
                          refine DW.fix rfl rfl rfl (fun _ EQ => RV.move rfl) ?_
                          refine DW.fix rfl rfl rfl (fun _ EQ => RV.eqi rfl rfl) ?_
                          refine DW.fix rfl rfl rfl (fun _ EQ => RV.move rfl) ?_
                          refine DW.fixYB rfl rfl rfl rfl rfl hq11 (fun _ EQ => RV.fieldAddr Tf46_0 rfl) ?_
                          refine DW.fixYB rfl rfl rfl rfl rfl hq11 (fun _ EQ => RV.load1 Tk3 rfl (((H.grow EQ).blk 0 rfl).cells.off 0) rfl) ?_
                          refine DW.fixYB rfl rfl rfl rfl rfl hq11 (fun _ EQ => RV.move rfl) ?_
                          refine DW.fixYB rfl rfl rfl rfl rfl hq11 (fun _ EQ => RV.move rfl) ?_
                          refine DW.fixYB rfl rfl rfl rfl rfl hq11 (fun _ EQ => RV.indexAddr Ts39 rfl rfl hbx12 (h_a1.addr_ hx12)) ?_
                          refine DW.fixYB rfl rfl rfl rfl rfl hq11 (fun _ EQ => RV.load1 Tk3 rfl ((h_a1.at_ hx12).ext (R0.trans EQ)) rfl) ?_
                          refine DW.fixYB rfl rfl rfl rfl rfl hq11 (fun _ EQ => RV.eqi rfl rfl) ?_
                          refine DW.fixYB rfl rfl rfl rfl rfl hq11 (fun _ EQ => RV.move rfl) ?_
                          refine DW.fixNB rfl rfl rfl rfl rfl (ne_beq (v := true) hq12 rfl) ?_
                          refine DW.fixNB rfl rfl rfl rfl rfl (ne_beq (v := true) hq12 rfl) ?_
                          refine DW.fixNB rfl rfl rfl rfl rfl (ne_beq (v := true) hq12 rfl) ?_
                          refine DW.fixNB rfl rfl rfl rfl rfl (ne_beq (v := true) hq12 rfl) ?_
                          refine DW.fixNB rfl rfl rfl rfl rfl (ne_beq (v := true) hq12 rfl) ?_
                          refine DW.fixNB rfl rfl rfl rfl rfl (ne_beq (v := true) hq12 rfl) ?_
                          refine DW.fixNB rfl rfl rfl rfl rfl (ne_beq (v := true) hq12 rfl) ?_
                          refine DW.fixYB rfl rfl rfl rfl rfl hq11 (fun _ EQ => RV.pickTB rfl hq12 rfl) ?_
                          refine DW.fix rfl rfl rfl (fun _ EQ => RV.pickTB rfl hq11 rfl) ?_
                          replace H := H.pick (L' := [.tab Am3 cm3 39 hsm3 3 1 (encM encN m3), .own (some ⟨b2, 0, none⟩) (((List.replicate (Int.toNat ((a1.length : Int))) (0 : Int))).length) 3 1 (List.map encN l5), .blk b1 24 [.int .i64 a0.points, .slice A_a0_readings a0.readings.length c_a0_readings], .blk b4 46 [.int .i64 x1.from_, .int .i64 x1.to_, .int .i64 x1.rise, .int .i64 x1.weight]]) [1, 2, 3, 0] (by decide) rfl
                          replace R0 := H.ext
                          refine DW.nil (jK12096 _ _ ⟨_, ?_, ⟨true, F, rfl, H⟩⟩)
                          exact ⟨rfl, rfl, rfl, (look_slice rfl (by first | rfl | (simp; done) | omega | (simp; omega))), rfl, (look_slice rfl (by first | rfl | (simp; done) | omega | (simp; omega))), rfl, rfl, rfl, rfl, trivial⟩
                        ·
                          replace F := ite_n hp12 F
                          have hq12 := dec_f hp12
                          obtain ⟨x13, hbx13, hx13, F⟩ := ix_some F
                          refine CW.draw [] (fun _ => True) (.cons 0 1 (.cons 1 1 (.cons 2 1 (.cons 3 1 (.cons 4 1 (.cons 5 1 (.cons 6 1 (.cons 7 1 (.cons 8 1 (.cons 9 1 (.cons 10 1 (.cons 11 1 (.cons 12 1 (.cons 13 1 (.cons 14 1 (.cons 15 1 (.cons 16 1 (.cons 17 1 (.cons 18 1 (.cons 19 1 (.cons 20 1 .nil))))))))))))))))))))) mixed (by kernel_rfl) fun w18 E10 => ?_
                          replace H := H.grow E10
                          replace R0 := H.ext
                          refine DW.fix rfl rfl rfl (fun _ EQ => RV.move rfl) ?_
                          refine DW.fix rfl rfl rfl (fun _ EQ => RV.move rfl) ?_
                          refine DW.fix rfl rfl rfl (fun _ EQ => RV.eqi rfl rfl) ?_
                          refine DW.fix rfl rfl rfl (fun _ EQ => RV.move rfl) ?_
                          refine DW.fixYB rfl rfl rfl rfl rfl hq11 (fun _ EQ => RV.fieldAddr Tf46_0 rfl) ?_
                          refine DW.fixYB rfl rfl rfl rfl rfl hq11 (fun _ EQ => RV.load1 Tk3 rfl (((H.grow EQ).blk 0 rfl).cells.off 0) rfl) ?_
                          refine DW.fixYB rfl rfl rfl rfl rfl hq11 (fun _ EQ => RV.move rfl) ?_
                          refine DW.fixYB rfl rfl rfl rfl rfl hq11 (fun _ EQ => RV.move rfl) ?_
                          refine DW.fixYB rfl rfl rfl rfl rfl hq11 (fun _ EQ => RV.indexAddr Ts39 rfl rfl hbx12 (h_a1.addr_ hx12)) ?_
                          refine DW.fixYB rfl rfl rfl rfl rfl hq11 (fun _ EQ => RV.load1 Tk3 rfl ((h_a1.at_ hx12).ext (R0.trans EQ)) rfl) ?_
                          refine DW.fixYB rfl rfl rfl rfl rfl hq11 (fun _ EQ => RV.eqi rfl rfl) ?_
                          refine DW.fixYB rfl rfl rfl rfl rfl hq11 (fun _ EQ => RV.move rfl) ?_
                          refine DW.fixYB rfl rfl rfl rfl rfl hq12 (fun _ EQ => RV.fieldAddr Tf46_1 rfl) ?_
                          refine DW.fixYB rfl rfl rfl rfl rfl hq12 (fun _ EQ => RV.load1 Tk3 rfl (((H.grow EQ).blk 0 rfl).cells.off 1) rfl) ?_
                          refine DW.fixYB rfl rfl rfl rfl rfl hq12 (fun _ EQ => RV.move rfl) ?_
                          refine DW.fixYB rfl rfl rfl rfl rfl hq12 (fun _ EQ => RV.move rfl) ?_
                          refine DW.fixYB rfl rfl rfl rfl rfl hq12 (fun _ EQ => RV.indexAddr Ts39 rfl rfl hbx13 (h_a1.addr_ hx13)) ?_
                          refine DW.fixYB rfl rfl rfl rfl rfl hq12 (fun _ EQ => RV.load1 Tk3 rfl ((h_a1.at_ hx13).ext (R0.trans EQ)) rfl) ?_
                          refine DW.fixYB rfl rfl rfl rfl rfl hq12 (fun _ EQ => RV.eqi rfl rfl) ?_
                          refine DW.fixYB rfl rfl rfl rfl rfl hq11 (fun _ EQ => RV.pickFB rfl hq12 rfl) ?_
                          refine DW.fix rfl rfl rfl (fun _ EQ => RV.pickTB rfl hq11 rfl) ?_
                          replace H := H.pick (L' := [.tab Am3 cm3 39 hsm3 3 1 (encM encN m3), .own (some ⟨b2, 0, none⟩) (((List.replicate (Int.toNat ((a1.length : Int))) (0 : Int))).length) 3 1 (List.map encN l5), .blk b1 24 [.int .i64 a0.points, .slice A_a0_readings a0.readings.length c_a0_readings], .blk b4 46 [.int .i64 x1.from_, .int .i64 x1.to_, .int .i64 x1.rise, .int .i64 x1.weight]]) [1, 2, 3, 0] (by decide) rfl
                          replace R0 := H.ext
                          refine DW.nil (jK12096 _ _ ⟨_, ?_, ⟨(decide (x1.to_ = x13)), F, rfl, H⟩⟩)
                          exact ⟨rfl, rfl, rfl, (look_slice rfl (by first | rfl | (simp; done) | omega | (simp; omega))), rfl, (look_slice rfl (by first | rfl | (simp; done) | omega | (simp; omega))), rfl, rfl, rfl, rfl, trivial⟩
                      ·
                        replace F := ite_n hp11 F
                        have hq11 := dec_f hp11
                        refine CW.draw [] (fun _ => True) (.cons 0 1 (.cons 1 1 (.cons 2 1 (.cons 3 1 (.cons 4 1 (.cons 5 1 (.cons 6 1 (.cons 7 1 (.cons 8 1 (.cons 9 1 (.cons 10 1 (.cons 11 1 (.cons 12 1 (.cons 13 1 (.cons 14 1 (.cons 15 1 (.cons 16 1 (.cons 17 1 (.cons 18 1 (.cons 19 1 (.cons 20 1 .nil))))))))))))))))))))) mixed (by kernel_rfl) fun w19 E11 => ?_
                        replace H := H.grow E11
                        replace R0 := H.ext
                        refine DW.fix rfl rfl rfl (fun _ EQ => RV.move rfl) ?_
                        refine DW.fix rfl rfl rfl (fun _ EQ => RV.move rfl) ?_
                        refine DW.fix rfl rfl rfl (fun _ EQ => RV.eqi rfl rfl) ?_
                        refine DW.fix rfl rfl rfl (fun _ EQ => RV.move rfl) ?_
                        refine DW.fixNB rfl rfl rfl rfl rfl (ne_beq (v := false) hq11 rfl) ?_
                        refine DW.fixNB rfl rfl rfl rfl rfl (ne_beq (v := false) hq11 rfl) ?_
                        refine DW.fixNB rfl rfl rfl rfl rfl (ne_beq (v := false) hq11 rfl) ?_
                        refine DW.fixNB rfl rfl rfl rfl rfl (ne_beq (v := false) hq11 rfl) ?_
                        refine DW.fixNB rfl rfl rfl rfl rfl (ne_beq (v := false) hq11 rfl) ?_
                        refine DW.fixNB rfl rfl rfl rfl rfl (ne_beq (v := false) hq11 rfl) ?_
                        refine DW.fixNB rfl rfl rfl rfl rfl (ne_beq (v := false) hq11 rfl) ?_
                        refine DW.fixNB rfl rfl rfl rfl rfl (ne_beq (v := false) hq11 rfl) ?_
                        refine DW.fixNU rfl rfl rfl rfl rfl ?_
                        refine DW.fixNU rfl rfl rfl rfl rfl ?_
                        refine DW.fixNU rfl rfl rfl rfl rfl ?_
                        refine DW.fixNU rfl rfl rfl rfl rfl ?_
                        refine DW.fixNU rfl rfl rfl rfl rfl ?_
                        refine DW.fixNU rfl rfl rfl rfl rfl ?_
                        refine DW.fixNU rfl rfl rfl rfl rfl ?_
                        refine DW.fixNB rfl rfl rfl rfl rfl (ne_beq (v := false) hq11 rfl) ?_
                        refine DW.fix rfl rfl rfl (fun _ EQ => RV.pickFB rfl hq11 rfl) ?_
                        replace H := H.pick (L' := [.tab Am3 cm3 39 hsm3 3 1 (encM encN m3), .own (some ⟨b2, 0, none⟩) (((List.replicate (Int.toNat ((a1.length : Int))) (0 : Int))).length) 3 1 (List.map encN l5), .blk b1 24 [.int .i64 a0.points, .slice A_a0_readings a0.readings.length c_a0_readings], .blk b4 46 [.int .i64 x1.from_, .int .i64 x1.to_, .int .i64 x1.rise, .int .i64 x1.weight]]) [1, 2, 3, 0] (by decide) rfl
                        replace R0 := H.ext
                        refine DW.nil (jK12096 _ _ ⟨_, ?_, ⟨false, F, rfl, H⟩⟩)
                        exact ⟨rfl, rfl, rfl, (look_slice rfl (by first | rfl | (simp; done) | omega | (simp; omega))), rfl, (look_slice rfl (by first | rfl | (simp; done) | omega | (simp; omega))), rfl, rfl, rfl, rfl, trivial⟩
              ·
                replace F := ite_n hp3 F
                have hq3 := dec_f hp3
                refine CW.condF rfl hq3 ?_
                refine CW.exit (jK12056 _ _ ⟨_, ?_, ⟨l5, F, rfl, H⟩⟩)
                exact ⟨rfl, rfl, rfl, (look_slice rfl (by first | rfl | (simp; done) | omega | (simp; omega))), rfl, (look_slice rfl (by first | rfl | (simp; done) | omega | (simp; omega))), rfl, trivial⟩
          ·
            replace F := ite_n hp2 F
            have hq2 := dec_f hp2
            refine CW.condF rfl hq2 ?_
            refine CW.exit (jK11846 _ _ ⟨_, ?_, ⟨l6, F, rfl, H⟩⟩)
            exact ⟨rfl, rfl, rfl, (look_slice rfl (by first | rfl | (simp; done) | omega | (simp; omega))), rfl, (look_slice rfl (by first | rfl | (simp; done) | omega | (simp; omega))), trivial⟩
    ·
      replace F := ite_n hp1 F
      have hq1 := dec_f hp1
      refine CW.condF rfl hq1 ?_
      replace H := H.pick (L' := [.tab Am3 cm3 39 hsm3 3 1 (encM encN m3)]) [0] (by decide) rfl
      replace R0 := H.ext
      refine CW.exit (jK9074 _ _ ⟨_, ?_, ⟨m3, hsm3, Am3, cm3, F, rfl, H⟩⟩)
      exact ⟨rfl, (look_slice rfl (by first | rfl | (simp; done) | omega | (simp; omega))), trivial⟩
end Go.D1

set_option linter.unusedVariables false
set_option linter.unusedSimpArgs false
namespace Go.D1
open Go.Tb Go.Proofs Go.RowKit
theorem Tb4 : Try.prog.underlying 4 = some .bool := by kernel_rfl
theorem Tc100 : callable Try.prog 100 = true := by kernel_rfl
theorem Tc33 : callable Try.prog 33 = true := by kernel_rfl
theorem Tc99 : callable Try.prog 99 = true := by kernel_rfl
set_option maxRecDepth 20000 in
set_option maxHeartbeats 1000000 in
theorem ref01_det_F_ok : ∀ (n_ : Nat) {a0 : List (List Int)} {A_a0 : Option Addr} {c_a0 : Nat} {w : World} {res : Int} (h_a0 : Sl2 w A_a0 c_a0 1 encN a0) (F : ref01_det_F n_ a0 = some res), Calls Try.prog 99 #[.slice A_a0 a0.length c_a0] w (Rt w (.int .i64 res)) := by
  intro n_
  induction n_ with
  | zero =>
    intro a0 A_a0 c_a0 w res h_a0 F
    cases F
  | succ n_ ih =>
    intro a0 A_a0 c_a0 w res h_a0 F
    replace F : ref01_det_body (ref01_det_F n_) a0 = some res := F
    generalize hrecf : ref01_det_F n_ = recf at F ih
    refine calls_of_cw (args := [.slice A_a0 a0.length c_a0]) Try.func99 rfl rfl rfl rfl ?_
    have H := Hp.start w
    have R0 := H.ext
    unfold ref01_det_body at F
    refine CW.seq fun K1 hK1 => ?_
    refine CW.region ?_
    refine LW.pure rfl rfl (RV.assign rfl) ?_
    refine LW.nil (hK1 _ _ ?_)
    refine CW.seq fun K2 hK2 => ?_
    refine CW.seq fun K3 hK3 => ?_
    refine CW.region ?_
    refine LW.pure rfl rfl (RV.move rfl) ?_
    refine LW.pure rfl rfl (RV.len Ts36 rfl) ?_
    refine LW.pure rfl rfl (RV.eqi rfl rfl) ?_
    refine LW.nil (hK3 _ _ ?_)
    by_cases hp1 : ((a0.length : Int)) = 0
    ·
      replace F := ite_y hp1 F
      have hq1 := dec_t hp1
      refine CW.condT rfl hq1 ?_
      refine CW.seq fun K4 hK4 => ?_
      refine CW.region ?_
      refine LW.pure rfl rfl (RV.assign rfl) ?_
      refine LW.nil (hK4 _ _ ?_)
      refine CW.ret ?_
      obtain rfl := Option.some.inj F
      refine ⟨_, (ResOK.one rfl), ?_⟩
      refine ⟨(by first | rfl | simp), R0⟩
    ·
      replace F := ite_n hp1 F
      have hq1 := dec_f hp1
      refine CW.condF rfl hq1 ?_
      refine CW.skip (hK2 _ _ ?_)
      refine CW.seq fun K5 hK5 => ?_
      refine CW.region ?_
      refine LW.pure rfl rfl (RV.assign rfl) ?_
      refine LW.pure rfl rfl (RV.assign rfl) ?_
      refine LW.nil (hK5 _ _ ?_)
      refine CW.seqJ (fun ρ wl1 => (∃ (t3_1 : Int), ref01_det_k1 t3_1 = some res ∧ ρ = [(2, .int .i64 0), (3, .int .i64 t3_1)] ∧ Hp w wl1 [])) ?_ ?_
      ·
        rintro _ wl1 ⟨t3_1, F, rfl, H⟩
        have R0 := H.ext
        unfold ref01_det_k1 at F
        refine CW.seq fun K6 hK6 => ?_
        refine CW.region ?_
        refine LW.pure rfl rfl (RV.move rfl) ?_
        refine LW.pure rfl rfl (RV.assign rfl) ?_
        refine LW.nil (hK6 _ _ ?_)
        refine CW.ret ?_
        obtain rfl := Option.some.inj F
        refine ⟨_, (ResOK.one rfl), ?_⟩
        refine ⟨(by first | rfl | simp), R0⟩
      ·
        intro K7 hK7 jK458
        refine CW.seq fun K8 hK8 => ?_
        refine CW.region ?_
        refine LW.pure rfl rfl (RV.assign rfl) ?_
        refine LW.nil (hK8 _ _ ?_)
        refine CW.block ?_
        refine CW.loop (fun meas ρ wl2 => ∃ (t3_3 : Int) (t4_1 : Int) (t5_1 : Int), ref01_det_L2 a0 recf meas t3_3 t4_1 t5_1 = some res ∧ ρ = [(0, .slice A_a0 a0.length c_a0), (2, .int .i64 0), (3, .int .i64 t3_3), (4, .int .i64 t4_1), (5, .int .i64 t5_1)] ∧ Hp w wl2 []) FU ⟨_, ?_, ((0 : Int)), ((1 : Int)), ((0 : Int)), F, rfl, H⟩ ?_
        · exact ⟨rfl, rfl, rfl, rfl, rfl, trivial⟩
        rintro mk1 _ wl2 ⟨t3_3, t4_1, t5_1, F, rfl, H⟩
        have R0 := H.ext
        replace F := ref01_det_L2_s F
        obtain ⟨mk1, rfl, F⟩ := F
        generalize hrec1 : ref01_det_L2 a0 recf mk1 = rec1 at F
        unfold ref01_det_B2 at F
        refine CW.seq fun K9 hK9 => ?_
        refine CW.seq fun K10 hK10 => ?_
        refine CW.region ?_
        refine LW.pure rfl rfl (RV.move rfl) ?_
        refine LW.pure rfl rfl (RV.move rfl) ?_
        refine LW.pure rfl rfl (RV.len Ts36 rfl) ?_
        refine LW.pure rfl rfl (RV.lss rfl rfl) ?_
        refine LW.nil (hK10 _ _ ?_)
        by_cases hp2 : t5_1 < ((a0.length : Int))
        ·
          replace F := ite_y hp2 F
          have hq2 := dec_t hp2
          refine CW.condT rfl hq2 ?_
          refine CW.skip (hK9 _ _ ?_)
          refine CW.seqJ (fun ρ wl3 => (∃ (t3_2 : Int), ref01_det_k2 t4_1 t5_1 rec1 t3_2 = some res ∧ ρ = [(0, .slice A_a0 a0.length c_a0), (2, .int .i64 0), (3, .int .i64 t3_2), (4, .int .i64 (-t4_1)), (5, .int .i64 t5_1)] ∧ Hp w wl3 [])) ?_ ?_
          ·
            rintro _ wl3 ⟨t3_2, F, rfl, H⟩
            have R0 := H.ext
            unfold ref01_det_k2 at F
            obtain ⟨hg1, F⟩ := gd_some F
            refine CW.region ?_
            refine LW.pure rfl rfl (RV.move rfl) ?_
            refine LW.pure rfl rfl (RV.add rfl rfl hg1) ?_
            refine LW.pure rfl rfl (RV.assign rfl) ?_
            refine LW.nil ?_
            subst hrec1
            refine ⟨mk1, Nat.lt_succ_self _, _, ?_, t3_2, (-t4_1), (t5_1 + 1), F, rfl, H⟩
            exact ⟨rfl, rfl, rfl, rfl, rfl, trivial⟩
          ·
            intro K11 hK11 jK583
            refine CW.block ?_
            refine CW.seq fun K12 hK12 => ?_
            refine CW.region ?_
            refine LW.pure rfl rfl (RV.assign rfl) ?_
            refine LW.nil (hK12 _ _ ?_)
            refine CW.seqJ (fun ρ wl4 => (∃ (m1 : List (List Int)) (hsm1 : List (Option Addr × Nat)) (Am1 : Option Addr) (cm1 : Nat), ref01_det_k3 a0 recf t3_3 t4_1 t5_1 rec1 m1 = some res ∧ ρ = [(0, .slice A_a0 a0.length c_a0), (2, .int .i64 0), (3, .int .i64 t3_3), (4, .int .i64 t4_1), (5, .int .i64 t5_1), (6, .slice Am1 m1.length cm1)] ∧ Hp w wl4 [.tab Am1 cm1 39 hsm1 3 1 (encM encN m1)])) ?_ ?_
            ·
              rintro _ wl4 ⟨m1, hsm1, Am1, cm1, F, rfl, H⟩
              have R0 := H.ext
              unfold ref01_det_k3 at F
              refine CW.seq fun K13 hK13 => ?_
              obtain ⟨x1, hbx1, hx1, F⟩ := ix_some F
              obtain ⟨x2, hbx2, hx2, F⟩ := ix_some F
              obtain ⟨hg2, F⟩ := gd_some F
              obtain ⟨r1, hr1, F⟩ := bnd_some F
              obtain ⟨hg3, F⟩ := gd_some F
              obtain ⟨hg4, F⟩ := gd_some F
              refine CW.draw [] (fun _ => True) (.cons 0 1 (.cons 1 1 (.cons 2 1 (.cons 3 1 (.cons 4 1 (.cons 5 1 (.cons 6 1 (.cons 7 1 (.cons 8 1 (.cons 9 1 (.cons 10 0 (.cons 11 1 (.cons 12 1 (.cons 13 1 .nil)))))))))))))) mixed (by kernel_rfl) fun w1 E1 => ?_
              replace H := H.grow E1
              replace R0 := H.ext
              refine DW.fix rfl rfl rfl (fun _ EQ => RV.move rfl) ?_
              refine DW.fix rfl rfl rfl (fun _ EQ => RV.move rfl) ?_
              refine DW.fix rfl rfl rfl (fun _ EQ => RV.move rfl) ?_
              obtain ⟨A1, c1, hC1, hS1⟩ := h_a0.at_ hx1
              refine DW.fix rfl rfl rfl (fun _ EQ => RV.indexAddr Ts36 rfl rfl hbx1 (h_a0.addr hbx1)) ?_
              refine DW.fix rfl rfl rfl (fun _ EQ => RV.load1 Tk39 rfl (hC1.ext (R0.trans EQ)) rfl) ?_
              refine DW.fix rfl rfl rfl (fun _ EQ => RV.move rfl) ?_
              refine DW.fix rfl rfl rfl (fun _ EQ => RV.indexAddr Ts39 rfl rfl hbx2 (hS1.addr_ hx2)) ?_
              refine DW.fix rfl rfl rfl (fun _ EQ => RV.load1 Tk3 rfl ((hS1.at_ hx2).ext (R0.trans EQ)) rfl) ?_
              refine DW.fix rfl rfl rfl (fun _ EQ => RV.mul rfl rfl hg2) ?_
              refine DW.fix rfl rfl rfl (fun _ EQ => RV.move rfl) ?_
              refine DW.sole rfl rfl rfl (OW.call Tc99 rfl (ih (a0 := m1) (H.tab 0 rfl).sl2 hr1) ?_)
              rintro _ w2 ⟨rfl, E2⟩
              refine ⟨_, rfl, fun _ => E2, ModX.ext E2, ?_⟩
              replace H := H.grow E2
              replace R0 := H.ext
              refine DW.fix rfl rfl rfl (fun _ EQ => RV.mul rfl rfl hg3) ?_
              refine DW.fix rfl rfl rfl (fun _ EQ => RV.add rfl rfl hg4) ?_
              refine DW.fix rfl rfl rfl (fun _ EQ => RV.assign rfl) ?_
              refine DW.nil (hK13 _ _ ?_)
              obtain ⟨hg5, F⟩ := gd_some F
              refine CW.region ?_
              refine LW.pure rfl rfl (RV.move rfl) ?_
              refine LW.pure rfl rfl (RV.neg rfl hg5) ?_
              refine LW.pure rfl rfl (RV.assign rfl) ?_
              replace H := H.pick (L' := []) [] (by decide) rfl
              replace R0 := H.ext
              refine LW.nil (jK583 _ _ ⟨_, ?_, ⟨(t3_3 + ((t4_1 * x2) * r1)), F, rfl, H⟩⟩)
              exact ⟨rfl, rfl, rfl, rfl, rfl, trivial⟩
            ·
              intro K14 hK14 jK596
              refine CW.seq fun K15 hK15 => ?_
              refine CW.region ?_
              refine LW.pure rfl rfl (RV.assign rfl) ?_
              refine LW.nil (hK15 _ _ ?_)
              refine CW.block ?_
              replace H := H.nilTab encN 39 3 1
              replace R0 := H.ext
              refine CW.loop (fun meas ρ wl5 => ∃ (t7_1 : Int) (m2 : List (List Int)) (hsm2 : List (Option Addr × Nat)) (Am2 : Option Addr) (cm2 : Nat), ref01_det_L1 a0 recf t3_3 t4_1 t5_1 rec1 meas t7_1 m2 = some res ∧ ρ = [(0, .slice A_a0 a0.length c_a0), (2, .int .i64 0), (3, .int .i64 t3_3), (4, .int .i64 t4_1), (5, .int .i64 t5_1), (6, .slice Am2 m2.length cm2), (7, .int .i64 t7_1)] ∧ Hp w wl5 [.tab Am2 cm2 39 hsm2 3 1 (encM encN m2)]) FU ⟨_, ?_, ((1 : Int)), (([] : List (List Int))), ([]), none, 0, F, rfl, H⟩ ?_
              · exact ⟨rfl, rfl, rfl, rfl, rfl, (look_slice rfl (by first | rfl | (simp; done) | omega | (simp; omega))), rfl, trivial⟩
              rintro mk2 _ wl5 ⟨t7_1, m2, hsm2, Am2, cm2, F, rfl, H⟩
              have R0 := H.ext
              replace F := ref01_det_L1_s F
              obtain ⟨mk2, rfl, F⟩ := F
              generalize hrec2 : ref01_det_L1 a0 recf t3_3 t4_1 t5_1 rec1 mk2 = rec2 at F
              unfold ref01_det_B1 at F
              refine CW.seq fun K16 hK16 => ?_
              refine CW.seq fun K17 hK17 => ?_
              refine CW.region ?_
              refine LW.pure rfl rfl (RV.move rfl) ?_
              refine LW.pure rfl rfl (RV.move rfl) ?_
              refine LW.pure rfl rfl (RV.len Ts36 rfl) ?_
              refine LW.pure rfl rfl (RV.lss rfl rfl) ?_
              refine LW.nil (hK17 _ _ ?_)
              by_cases hp3 : t7_1 < ((a0.length : Int))
              ·
                replace F := ite_y hp3 F
                have hq3 := dec_t hp3
                refine CW.condT rfl hq3 ?_
                refine CW.skip (hK16 _ _ ?_)
                refine CW.seq fun K18 hK18 => ?_
                refine CW.block ?_
                obtain ⟨x3, hbx3, hx3, F⟩ := ix_some F
                obtain ⟨hg6, F⟩ := gd_some F
                obtain ⟨hg7, F⟩ := gd_some F
                obtain ⟨x4, hbx4, hx4, F⟩ := ix_some F
                obtain ⟨hg8, F⟩ := gd_some F
                obtain ⟨hg9, F⟩ := gd_some F
                obtain ⟨hg10, F⟩ := gd_some F
                obtain ⟨hg11, F⟩ := gd_some F
                have H0 := H
                have hz : wl5.heap.size ≤ wl5.heap.size := Nat.le_refl _
                refine CW.draw [8, 16, 18] (XB wl5 [.tab Am2 cm2 39 hsm2 3 1 (encM encN m2)] [0]) (.cons 0 2 (.cons 2 2 (.cons 3 2 (.cons 4 2 (.cons 5 2 (.cons 6 2 (.cons 7 2 (.cons 9 2 (.cons 10 2 (.cons 11 2 (.cons 12 2 (.cons 13 2 (.cons 14 2 (.cons 15 2 (.cons 1 0 (.cons 8 0 (.cons 16 0 (.cons 17 0 (.cons 18 0 (.cons 19 2 .nil)))))))))))))))))))) mixed (by kernel_rfl) fun w3 E3 => ?_
                replace H := H.grow E3
                replace R0 := H.ext
                replace hz := Nat.le_trans hz (Ext.size E3)
                refine DW.thru rfl rfl rfl (fun _ EQ => RV.move rfl) ?_
                refine DW.thru rfl rfl rfl (fun _ EQ => RV.move rfl) ?_
                refine DW.thru rfl rfl rfl (fun _ EQ => RV.move rfl) ?_
                obtain ⟨A2, c2, hC2, hS2⟩ := h_a0.at_ hx3
                refine DW.thru rfl rfl rfl (fun _ EQ => RV.indexAddr Ts36 rfl rfl hbx3 (h_a0.addr hbx3)) ?_
                refine DW.thru rfl rfl rfl (fun _ EQ => RV.load1 Tk39 rfl (H0.old EQ R0 hC2) rfl) ?_
                refine DW.thru rfl rfl rfl (fun _ EQ => RV.move rfl) ?_
                refine DW.thru rfl rfl rfl (fun _ EQ => RV.cutH (l := x3) Ts39 rfl rfl hg6 (hS2.ext R0).le rfl) ?_
                refine DW.thru rfl rfl rfl (fun _ EQ => RV.move rfl) ?_
                refine DW.thru rfl rfl rfl (fun _ EQ => RV.move rfl) ?_
                obtain ⟨A3, c3, hC3, hS3⟩ := h_a0.at_ hx4
                refine DW.thru rfl rfl rfl (fun _ EQ => RV.indexAddr Ts36 rfl rfl hbx4 (h_a0.addr hbx4)) ?_
                refine DW.thru rfl rfl rfl (fun _ EQ => RV.load1 Tk39 rfl (H0.old EQ R0 hC3) rfl) ?_
                refine DW.thru rfl rfl rfl (fun _ EQ => RV.move rfl) ?_
                refine DW.thru rfl rfl rfl (fun _ EQ => RV.add rfl rfl hg8) ?_
                refine DW.thru rfl rfl rfl (fun _ EQ => RV.cutL (l := x4) Ts39 rfl rfl hg9 (hS3.ext R0).le rfl) ?_
                refine DW.sole rfl rfl rfl (OW.buildSlice (e := 3) (vs := []) (cs := []) rfl (fun _ => by kernel_rfl) fun b1 w4 N1 => ?_)
                refine ⟨fun _ => N1.ext, ModX.ext N1.ext, ?_⟩
                have G0_b1 : wl5.heap.size ≤ b1 := by rw [N1.at_]; exact hz
                replace H := H.made' (k := 1) (t := 3) (enc := encN) (l := ([] : List Int)) N1 N1.blk (fun _ => rfl) rfl (by first | decide | omega | (simp; done) | (simp; omega))
                replace R0 := H.ext
                replace hz := Nat.le_trans hz (Ext.size N1.ext)
                refine DW.sole rfl rfl rfl (OW.appendG (enc := encN) (l := ([] : List Int)) (xs := (List.take (Int.toNat t5_1) x3)) Ts39 (look_slice rfl (by first | rfl | (simp; done) | (simp; omega))) rfl (H.own 0 rfl) ((hS2.ext R0).cutH hg6) (fun _ => rfl) rfl rfl hg7 (by decide) fun A4 c4 w5 O1 M1 D1 => ?_)
                have G0_A4 := Fresh.nextZ (Fresh.at_ G0_b1) D1 hz
                refine ⟨fun h => absurd h (by decide), M1.modx (XB.newA (Fresh.at_ G0_b1)), ?_⟩
                replace H : Hp w w5 [.own A4 c4 3 1 (List.map encN ((([] : List Int) ++ (List.take (Int.toNat t5_1) x3)))), .tab Am2 cm2 39 hsm2 3 1 (encM encN m2)] := H.mod 0 rfl M1 O1 D1
                replace R0 := H.ext
                replace hz := Nat.le_trans hz M1.size
                refine DW.sole rfl rfl rfl (OW.appendG (enc := encN) (l := (([] : List Int) ++ (List.take (Int.toNat t5_1) x3))) (xs := (List.drop (Int.toNat (t5_1 + 1)) x4)) Ts39 rfl rfl (H.own 0 rfl) ((hS3.ext R0).cutL hg9) (fun _ => rfl) rfl rfl hg10 (by decide) fun A5 c5 w6 O2 M2 D2 => ?_)
                have G0_A5 := Fresh.nextZ G0_A4 D2 hz
                refine ⟨fun h => absurd h (by decide), M2.modx (XB.newA G0_A4), ?_⟩
                replace H : Hp w w6 [.own A5 c5 3 1 (List.map encN (((([] : List Int) ++ (List.take (Int.toNat t5_1) x3)) ++ (List.drop (Int.toNat (t5_1 + 1)) x4)))), .tab Am2 cm2 39 hsm2 3 1 (encM encN m2)] := H.mod 0 rfl M2 O2 D2
                replace R0 := H.ext
                replace hz := Nat.le_trans hz M2.size
                refine DW.sole rfl rfl rfl (OW.buildSlice (e := 39) (vs := [.slice A5 ((((([] : List Int) ++ (List.take (Int.toNat t5_1) x3)) ++ (List.drop (Int.toNat (t5_1 + 1)) x4))).length) c5]) (cs := [.slice A5 ((((([] : List Int) ++ (List.take (Int.toNat t5_1) x3)) ++ (List.drop (Int.toNat (t5_1 + 1)) x4))).length) c5]) rfl (fun _ => by kernel_rfl) fun b2 w7 N2 => ?_)
                refine ⟨fun _ => N2.ext, ModX.ext N2.ext, ?_⟩
                have G0_b2 : wl5.heap.size ≤ b2 := by rw [N2.at_]; exact hz
                replace H := H.made' (k := 1) (t := 39) (enc := encH) (l := ([((A5, c5), List.map encN (((([] : List Int) ++ (List.take (Int.toNat t5_1) x3)) ++ (List.drop (Int.toNat (t5_1 + 1)) x4))))] : List ((Option Addr × Nat) × List (List Value)))) N2 (by have q := N2.blk; simp only [List.flatMap_cons, List.flatMap_nil, encH, List.length_map, List.append_nil, List.cons_append, List.nil_append]; first | done | exact q) (fun _ => rfl) rfl (by first | decide | omega | (simp; done) | (simp; omega))
                replace R0 := H.ext
                replace hz := Nat.le_trans hz (Ext.size N2.ext)
                refine DW.sole rfl rfl rfl (OW.appendT (enc := encN) (m := m2) (l := ((([] : List Int) ++ (List.take (Int.toNat t5_1) x3)) ++ (List.drop (Int.toNat (t5_1 + 1)) x4))) Ts36 rfl rfl (H.tab 2 rfl) (H.own 0 rfl).sl rfl hg11 (by decide) fun A6 c6 w8 O3 M3 D3 => ?_)
                refine ⟨fun h => absurd h (by decide), M3.modx (XB.tabO 0 (by decide) rfl), ?_⟩
                replace H : Hp w w8 [.own (some ⟨b2, 0, none⟩) ((([((A5, c5), List.map encN (((([] : List Int) ++ (List.take (Int.toNat t5_1) x3)) ++ (List.drop (Int.toNat (t5_1 + 1)) x4))))] : List ((Option Addr × Nat) × List (List Value)))).length) 39 1 (List.map encH (([((A5, c5), List.map encN (((([] : List Int) ++ (List.take (Int.toNat t5_1) x3)) ++ (List.drop (Int.toNat (t5_1 + 1)) x4))))] : List ((Option Addr × Nat) × List (List Value))))), .tab A6 c6 39 ((hsm2 ++ [(A5, c5)])) 3 1 (encM encN ((m2 ++ [((([] : List Int) ++ (List.take (Int.toNat t5_1) x3)) ++ (List.drop (Int.toNat (t5_1 + 1)) x4))])))] := H.tabPush 2 1 (by decide) rfl rfl M3 D3 O3
                replace R0 := H.ext
                replace hz := Nat.le_trans hz M3.size
                refine DW.thru rfl rfl rfl (fun _ EQ => RV.assign rfl) ?_
                refine DW.nil (hK18 _ _ ?_)
                obtain ⟨hg12, F⟩ := gd_some F
                refine CW.region ?_
                refine LW.pure rfl rfl (RV.move rfl) ?_
                refine LW.pure rfl rfl (RV.add rfl rfl hg12) ?_
                refine LW.pure rfl rfl (RV.assign rfl) ?_
                refine LW.nil ?_
                replace H := H.pick (L' := [.tab A6 c6 39 ((hsm2 ++ [(A5, c5)])) 3 1 (encM encN ((m2 ++ [((([] : List Int) ++ (List.take (Int.toNat t5_1) x3)) ++ (List.drop (Int.toNat (t5_1 + 1)) x4))])))]) [1] (by decide) rfl
                replace R0 := H.ext
                subst hrec2
                refine ⟨mk2, Nat.lt_succ_self _, _, ?_, (t7_1 + 1), ((m2 ++ [((([] : List Int) ++ (List.take (Int.toNat t5_1) x3)) ++ (List.drop (Int.toNat (t5_1 + 1)) x4))])), ((hsm2 ++ [(A5, c5)])), A6, c6, F, rfl, H⟩
                exact ⟨rfl, rfl, rfl, rfl, rfl, (look_slice rfl (by first | rfl | (simp; done) | omega | (simp; omega))), rfl, trivial⟩
              ·
                replace F := ite_n hp3 F
                have hq3 := dec_f hp3
                refine CW.condF rfl hq3 ?_
                refine CW.exit (jK596 _ _ ⟨_, ?_, ⟨m2, hsm2, Am2, cm2, F, rfl, H⟩⟩)
                exact ⟨rfl, rfl, rfl, rfl, rfl, (look_slice rfl (by first | rfl | (simp; done) | omega | (simp; omega))), trivial⟩
        ·
          replace F := ite_n hp2 F
          have hq2 := dec_f hp2
          refine CW.condF rfl hq2 ?_
          refine CW.exit (jK458 _ _ ⟨_, ?_, ⟨t3_3, F, rfl, H⟩⟩)
          exact ⟨rfl, rfl, trivial⟩
theorem ref01_det_ok {a0 : List (List Int)} {A_a0 : Option Addr} {c_a0 : Nat} {w : World} {res : Int} (h_a0 : Sl2 w A_a0 c_a0 1 encN a0) (F : ref01_det a0 = some res) : Calls Try.prog 99 #[.slice A_a0 a0.length c_a0] w (Rt w (.int .i64 res)) := ref01_det_F_ok FU h_a0 F
set_option maxRecDepth 20000 in
set_option maxHeartbeats 1000000 in
theorem ref01_Ratio_ok {a0 : Int} {a1 : Int} {w : World} {res : Rat} (F : ref01_Ratio a0 a1 = some res) : Calls Try.prog 33 #[.int .i64 a0, .int .i64 a1] w (Rt w (.agg #[.int .i64 res.num, .int .i64 res.den])) := by
  refine calls_of_cw (args := [.int .i64 a0, .int .i64 a1]) Try.func33 rfl rfl rfl rfl ?_
  have H := Hp.start w
  have R0 := H.ext
  unfold ref01_Ratio at F
  refine CW.seq fun K1 hK1 => ?_
  refine CW.region ?_
  refine LW.go rfl rfl (OW.alloc Tz28 fun b1 w1 N1 => ?_)
  replace H := H.new N1 N1.blk
  replace R0 := H.ext
  refine LW.nil (hK1 _ _ ?_)
  refine CW.seq fun K2 hK2 => ?_
  refine CW.region ?_
  refine LW.pure rfl rfl (RV.move rfl) ?_
  refine LW.pure rfl rfl (RV.move rfl) ?_
  refine LW.pure rfl rfl (RV.assign rfl) ?_
  refine LW.pure rfl rfl (RV.assign rfl) ?_
  refine LW.nil (hK2 _ _ ?_)
  refine CW.seqJ (fun ρ wl1 => (∃ (t5_2 : Int), ref01_Ratio_k2 a0 a1 t5_2 = some res ∧ ρ = [(0, .int .i64 a0), (1, .int .i64 a1), (4, .pointer (some (⟨b1, 0, none⟩))), (5, .int .i64 t5_2)] ∧ Hp w wl1 [.blk b1 28 [.int .i64 0, .int .i64 0]])) ?_ ?_
  ·
    rintro _ wl1 ⟨t5_2, F, rfl, H⟩
    have R0 := H.ext
    unfold ref01_Ratio_k2 at F
    refine CW.seqJ (fun ρ wl2 => (∃ (t5_1 : Int), ref01_Ratio_k1 a0 a1 t5_1 = some res ∧ ρ = [(0, .int .i64 a0), (1, .int .i64 a1), (4, .pointer (some (⟨b1, 0, none⟩))), (5, .int .i64 t5_1)] ∧ Hp w wl2 [.blk b1 28 [.int .i64 0, .int .i64 0]])) ?_ ?_
    ·
      rintro _ wl2 ⟨t5_1, F, rfl, H⟩
      have R0 := H.ext
      unfold ref01_Ratio_k1 at F
      refine CW.seq fun K3 hK3 => ?_
      obtain ⟨hg1, F⟩ := gd_some F
      obtain ⟨hg2, F⟩ := gd_some F
      refine CW.draw [7] (fun _ => True) (.cons 0 1 (.cons 1 1 (.cons 2 1 (.cons 3 1 (.cons 4 1 (.cons 5 1 (.cons 6 1 (.cons 7 0 .nil)))))))) mixed (by kernel_rfl) fun w2 E1 => ?_
      replace H := H.grow E1
      replace R0 := H.ext
      refine DW.fix rfl rfl rfl (fun _ EQ => RV.move rfl) ?_
      refine DW.fix rfl rfl rfl (fun _ EQ => RV.move rfl) ?_
      refine DW.fix rfl rfl rfl (fun _ EQ => RV.quo rfl rfl hg1) ?_
      refine DW.fix rfl rfl rfl (fun _ EQ => RV.move rfl) ?_
      refine DW.fix rfl rfl rfl (fun _ EQ => RV.move rfl) ?_
      refine DW.fix rfl rfl rfl (fun _ EQ => RV.quo rfl rfl hg2) ?_
      refine DW.fix rfl rfl rfl (fun _ EQ => RV.build (vs := [.int .i64 (Int.tdiv a0 t5_1), .int .i64 (Int.tdiv a1 t5_1)]) (cs := [.int .i64 (Int.tdiv a0 t5_1), .int .i64 (Int.tdiv a1 t5_1)]) rfl (fun _ => by kernel_rfl)) ?_
      refine DW.sole rfl rfl rfl (OW.store Tk28 rfl rfl (H.blk 0 rfl) (off := 0) (vs := [.int .i64 (Int.tdiv a0 t5_1), .int .i64 (Int.tdiv a1 t5_1)]) rfl rfl rfl rfl rfl fun w3 S1 => ?_)
      refine ⟨fun h => absurd h (by decide), S1.modx trivial, ?_⟩
      replace H : Hp w w3 [.blk b1 28 [.int .i64 (Int.tdiv a0 t5_1), .int .i64 (Int.tdiv a1 t5_1)]] := H.stored 0 rfl S1
      replace R0 := H.ext
      refine DW.nil (hK3 _ _ ?_)
      refine CW.ret ?_
      obtain rfl := Option.some.inj F
      refine ⟨_, (ResOK.cell1 ⟨_, rfl, run_loadVar_agg Tk28 (H.blk 0 rfl).cells (us := [.int .i64 (Int.tdiv a0 t5_1), .int .i64 (Int.tdiv a1 t5_1)]) rfl rfl⟩), ?_⟩
      refine ⟨(by first | rfl | simp), R0⟩
    ·
      intro K4 hK4 jK30
      refine CW.seq fun K5 hK5 => ?_
      refine CW.region ?_
      refine LW.pure rfl rfl (RV.move rfl) ?_
      refine LW.pure rfl rfl (RV.lss rfl rfl) ?_
      refine LW.pure rfl rfl (RV.move rfl) ?_
      refine LW.pure rfl rfl (RV.lss rfl rfl) ?_
      refine LW.pure rfl rfl (RV.neb Tb4 rfl rfl) ?_
      refine LW.nil (hK5 _ _ ?_)
      by_cases hp1 : ((decide (t5_2 < 0)) == (decide (a1 < 0))) = true
      ·
        replace F := ite_y hp1 F
        have hq1 : ((decide (t5_2 < 0)) == (decide (a1 < 0))) = true := hp1
        refine CW.condF rfl (not_f hq1) ?_
        refine CW.skip (jK30 _ _ ⟨_, ?_, ⟨t5_2, F, rfl, H⟩⟩)
        exact ⟨rfl, rfl, rfl, rfl, trivial⟩
      ·
        replace F := ite_n hp1 F
        have hq1 : ((decide (t5_2 < 0)) == (decide (a1 < 0))) = false := raw_f hp1
        refine CW.condT rfl (not_t hq1) ?_
        obtain ⟨hg3, F⟩ := gd_some F
        refine CW.region ?_
        refine LW.pure rfl rfl (RV.move rfl) ?_
        refine LW.pure rfl rfl (RV.neg rfl hg3) ?_
        refine LW.pure rfl rfl (RV.assign rfl) ?_
        refine LW.nil (jK30 _ _ ⟨_, ?_, ⟨(-t5_2), F, rfl, H⟩⟩)
        exact ⟨rfl, rfl, rfl, rfl, trivial⟩
  ·
    intro K6 hK6 jK32
    refine CW.block ?_
    refine CW.loop (fun meas ρ wl3 => ∃ (t5_3 : Int) (t6_1 : Int), ref01_Ratio_L1 a0 a1 meas t5_3 t6_1 = some res ∧ ρ = [(0, .int .i64 a0), (1, .int .i64 a1), (4, .pointer (some (⟨b1, 0, none⟩))), (5, .int .i64 t5_3), (6, .int .i64 t6_1)] ∧ Hp w wl3 [.blk b1 28 [.int .i64 0, .int .i64 0]]) FU ⟨_, ?_, a0, a1, F, rfl, H⟩ ?_
    · exact ⟨rfl, rfl, rfl, rfl, rfl, trivial⟩
    rintro mk1 _ wl3 ⟨t5_3, t6_1, F, rfl, H⟩
    have R0 := H.ext
    replace F := ref01_Ratio_L1_s F
    obtain ⟨mk1, rfl, F⟩ := F
    generalize hrec1 : ref01_Ratio_L1 a0 a1 mk1 = rec1 at F
    unfold ref01_Ratio_B1 at F
    refine CW.seq fun K7 hK7 => ?_
    refine CW.seq fun K8 hK8 => ?_
    refine CW.region ?_
    refine LW.pure rfl rfl (RV.move rfl) ?_
    refine LW.pure rfl rfl (RV.nei rfl rfl) ?_
    refine LW.nil (hK8 _ _ ?_)
    by_cases hp2 : t6_1 = 0
    ·
      replace F := ite_y hp2 F
      have hq2 := dec_t hp2
      refine CW.condF rfl (not_f hq2) ?_
      refine CW.exit (jK32 _ _ ⟨_, ?_, ⟨t5_3, F, rfl, H⟩⟩)
      exact ⟨rfl, rfl, rfl, rfl, trivial⟩
    ·
      replace F := ite_n hp2 F
      have hq2 := dec_f hp2
      refine CW.condT rfl (not_t hq2) ?_
      refine CW.skip (hK7 _ _ ?_)
      refine CW.block ?_
      obtain ⟨hg4, F⟩ := gd_some F
      refine CW.draw [] (fun _ => True) (.cons 0 1 (.cons 1 1 (.cons 2 1 (.cons 3 1 (.cons 4 1 (.cons 5 1 .nil)))))) mixed (by kernel_rfl) fun w4 E2 => ?_
      replace H := H.grow E2
      replace R0 := H.ext
      refine DW.fix rfl rfl rfl (fun _ EQ => RV.move rfl) ?_
      refine DW.fix rfl rfl rfl (fun _ EQ => RV.move rfl) ?_
      refine DW.fix rfl rfl rfl (fun _ EQ => RV.move rfl) ?_
      refine DW.fix rfl rfl rfl (fun _ EQ => RV.rem rfl rfl hg4) ?_
      refine DW.fix rfl rfl rfl (fun _ EQ => RV.assign rfl) ?_
      refine DW.fix rfl rfl rfl (fun _ EQ => RV.assign rfl) ?_
      refine DW.nil ?_
      subst hrec1
      refine ⟨mk1, Nat.lt_succ_self _, _, ?_, t6_1, (Int.tmod t5_3 t6_1), F, rfl, H⟩
      exact ⟨rfl, rfl, rfl, rfl, rfl, trivial⟩
set_option maxRecDepth 20000 in
set_option maxHeartbeats 1000000 in
theorem ref01_resistance_ok {a0 : Survey} {a1 : Int} {a2 : Int} {A_a0_readings : Option Addr} {c_a0_readings : Nat} {w : World} {res : Rat} (h_a0_readings : Sl w A_a0_readings c_a0_readings 4 (a0.readings.map encReading)) (F : ref01_resistance a0 a1 a2 = some res) : Calls Try.prog 65 #[.agg #[.int .i64 a0.points, .slice A_a0_readings a0.readings.length c_a0_readings], .int .i64 a1, .int .i64 a2] w (Rt w (.agg #[.int .i64 res.num, .int .i64 res.den])) := by
  refine calls_of_cw (args := [.agg #[.int .i64 a0.points, .slice A_a0_readings a0.readings.length c_a0_readings], .int .i64 a1, .int .i64 a2]) Try.func65 rfl rfl rfl rfl ?_
  have H := Hp.start w
  have R0 := H.ext
  unfold ref01_resistance at F
  refine CW.seq fun K1 hK1 => ?_
  refine CW.region ?_
  refine LW.go rfl rfl (OW.box rfl fun b1 w1 N1 => ?_)
  replace H := H.new N1 N1.blk
  replace R0 := H.ext
  refine LW.go rfl rfl (OW.alloc Tz28 fun b2 w2 N2 => ?_)
  replace H := H.new N2 N2.blk
  replace R0 := H.ext
  refine LW.nil (hK1 _ _ ?_)
  refine CW.seq fun K2 hK2 => ?_
  refine CW.seq fun K3 hK3 => ?_
  refine CW.region ?_
  refine LW.pure rfl rfl (RV.move rfl) ?_
  refine LW.pure rfl rfl (RV.move rfl) ?_
  refine LW.pure rfl rfl (RV.eqi rfl rfl) ?_
  refine LW.nil (hK3 _ _ ?_)
  by_cases hp1 : a1 = a2
  ·
    replace F := ite_y hp1 F
    have hq1 := dec_t hp1
    refine CW.condT rfl hq1 ?_
    refine CW.seq fun K4 hK4 => ?_
    refine CW.region ?_
    refine LW.pure rfl rfl (RV.build (vs := [.int .i64 0, .int .i64 1]) (cs := [.int .i64 0, .int .i64 1]) rfl (fun _ => by kernel_rfl)) ?_
    refine LW.go rfl rfl (OW.store Tk28 rfl rfl (H.blk 0 rfl) (off := 0) (vs := [.int .i64 0, .int .i64 1]) rfl rfl rfl rfl rfl fun w3 S1 => ?_)
    replace H : Hp w w3 [.blk b2 28 [.int .i64 0, .int .i64 1], .blk b1 24 [.int .i64 a0.points, .slice A_a0_readings a0.readings.length c_a0_readings]] := H.stored 0 rfl S1
    replace R0 := H.ext
    refine LW.nil (hK4 _ _ ?_)
    refine CW.ret ?_
    obtain rfl := Option.some.inj F
    refine ⟨_, (ResOK.cell1 ⟨_, rfl, run_loadVar_agg Tk28 (H.blk 0 rfl).cells (us := [.int .i64 0, .int .i64 1]) rfl rfl⟩), ?_⟩
    refine ⟨(by first | rfl | simp), R0⟩
  ·
    replace F := ite_n hp1 F
    have hq1 := dec_f hp1
    refine CW.condF rfl hq1 ?_
    refine CW.skip (hK2 _ _ ?_)
    refine CW.seq fun K5 hK5 => ?_
    obtain ⟨r6, hr6, F⟩ := bnd_some F
    refine CW.region ?_
    refine LW.pure rfl rfl (RV.loadA [.int .i64 a0.points, .slice A_a0_readings a0.readings.length c_a0_readings] Tk24 rfl (H.blk 1 rfl).cells rfl rfl) ?_
    refine LW.go rfl rfl (OW.call Tc67 rfl (ref01_whole_ok (a0 := a0) (h_a0_readings.ext R0) hr6) ?_)
    rintro _ w4 ⟨A8_0, c8_0, rfl, E1⟩
    refine ⟨_, rfl, ?_⟩
    replace H : Hp w w4 [.own A8_0 c8_0 3 1 (List.map encN r6), .blk b2 28 [.int .i64 0, .int .i64 0], .blk b1 24 [.int .i64 a0.points, .slice A_a0_readings a0.readings.length c_a0_readings]] := H.append E1
    replace R0 := H.ext
    refine LW.pure rfl rfl (RV.assign rfl) ?_
    refine LW.nil (hK5 _ _ ?_)
    refine CW.seq fun K6 hK6 => ?_
    refine CW.region ?_
    refine LW.pure rfl rfl (RV.assign rfl) ?_
    refine LW.pure rfl rfl (RV.assign rfl) ?_
    refine LW.nil (hK6 _ _ ?_)
    refine CW.seqJ (fun ρ wl1 => (∃ (l1 : List Int) (l2 : List Int) (Al1 : Option Addr) (cl1 : Nat) (Al2 : Option Addr) (cl2 : Nat), ref01_resistance_k1 a0 l1 l2 = some res ∧ ρ = [(3, .pointer (some (⟨b1, 0, none⟩))), (6, .pointer (some (⟨b2, 0, none⟩))), (8, .slice Al1 l1.length cl1), (9, .slice Al2 l2.length cl2)] ∧ Hp w wl1 [.own Al1 cl1 3 1 (List.map encN l1), .own Al2 cl2 3 1 (List.map encN l2), .blk b1 24 [.int .i64 a0.points, .slice A_a0_readings a0.readings.length c_a0_readings], .blk b2 28 [.int .i64 0, .int .i64 0]])) ?_ ?_
    ·
      rintro _ wl1 ⟨l1, l2, Al1, cl1, Al2, cl2, F, rfl, H⟩
      have R0 := H.ext
      unfold ref01_resistance_k1 at F
      refine CW.seq fun K7 hK7 => ?_
      obtain ⟨r1, hr1, F⟩ := bnd_some F
      obtain ⟨r2, hr2, F⟩ := bnd_some F
      obtain ⟨r3, hr3, F⟩ := bnd_some F
      obtain ⟨r4, hr4, F⟩ := bnd_some F
      obtain ⟨r5, hr5, F⟩ := bnd_some F
      refine CW.draw [9] (fun _ => True) (.cons 0 1 (.cons 1 1 (.cons 4 1 (.cons 5 1 (.cons 2 0 (.cons 3 0 (.cons 6 0 (.cons 7 0 (.cons 8 0 (.cons 9 0 .nil)))))))))) mixed (by kernel_rfl) fun w5 E2 => ?_
      replace H := H.grow E2
      replace R0 := H.ext
      refine DW.fix rfl rfl rfl (fun _ EQ => RV.loadA [.int .i64 a0.points, .slice A_a0_readings a0.readings.length c_a0_readings] Tk24 rfl ((H.grow EQ).blk 2 rfl).cells rfl rfl) ?_
      refine DW.fix rfl rfl rfl (fun _ EQ => RV.move rfl) ?_
      refine DW.fix rfl rfl rfl (fun _ EQ => RV.loadA [.int .i64 a0.points, .slice A_a0_readings a0.readings.length c_a0_readings] Tk24 rfl ((H.grow EQ).blk 2 rfl).cells rfl rfl) ?_
      refine DW.fix rfl rfl rfl (fun _ EQ => RV.move rfl) ?_
      refine DW.sole rfl rfl rfl (OW.call Tc100 rfl (ref01_laplace_ok (a0 := a0) (a1 := l2) (h_a0_readings.ext R0) (H.own 1 rfl).sl hr1) ?_)
      rintro _ w6 ⟨A14_0, c14_0, hs14_0, rfl, E3⟩
      refine ⟨_, rfl, fun _ => E3.ext, ModX.ext E3.ext, ?_⟩
      replace H : Hp w w6 [.tab A14_0 c14_0 39 hs14_0 3 1 (encM encN r1), .own Al1 cl1 3 1 (List.map encN l1), .own Al2 cl2 3 1 (List.map encN l2), .blk b1 24 [.int .i64 a0.points, .slice A_a0_readings a0.readings.length c_a0_readings], .blk b2 28 [.int .i64 0, .int .i64 0]] := H.append E3
      replace R0 := H.ext
      refine DW.sole rfl rfl rfl (OW.call Tc99 rfl (ref01_det_ok (a0 := r1) (H.tab 0 rfl).sl2 hr2) ?_)
      rintro _ w7 ⟨rfl, E4⟩
      refine ⟨_, rfl, fun _ => E4, ModX.ext E4, ?_⟩
      replace H := H.grow E4
      replace R0 := H.ext
      refine DW.sole rfl rfl rfl (OW.call Tc100 rfl (ref01_laplace_ok (a0 := a0) (a1 := l1) (h_a0_readings.ext R0) (H.own 1 rfl).sl hr3) ?_)
      rintro _ w8 ⟨A16_0, c16_0, hs16_0, rfl, E5⟩
      refine ⟨_, rfl, fun _ => E5.ext, ModX.ext E5.ext, ?_⟩
      replace H : Hp w w8 [.tab A16_0 c16_0 39 hs16_0 3 1 (encM encN r3), .tab A14_0 c14_0 39 hs14_0 3 1 (encM encN r1), .own Al1 cl1 3 1 (List.map encN l1), .own Al2 cl2 3 1 (List.map encN l2), .blk b1 24 [.int .i64 a0.points, .slice A_a0_readings a0.readings.length c_a0_readings], .blk b2 28 [.int .i64 0, .int .i64 0]] := H.append E5
      replace R0 := H.ext
      refine DW.sole rfl rfl rfl (OW.call Tc99 rfl (ref01_det_ok (a0 := r3) (H.tab 0 rfl).sl2 hr4) ?_)
      rintro _ w9 ⟨rfl, E6⟩
      refine ⟨_, rfl, fun _ => E6, ModX.ext E6, ?_⟩
      replace H := H.grow E6
      replace R0 := H.ext
      refine DW.sole rfl rfl rfl (OW.call Tc33 rfl (ref01_Ratio_ok (a0 := r2) (a1 := r4) hr5) ?_)
      rintro _ w10 ⟨rfl, E7⟩
      refine ⟨_, rfl, fun _ => E7, ModX.ext E7, ?_⟩
      replace H := H.grow E7
      replace R0 := H.ext
      refine DW.sole rfl rfl rfl (OW.store Tk28 rfl rfl (H.blk 5 rfl) (off := 0) (vs := [.int .i64 r5.num, .int .i64 r5.den]) rfl rfl rfl rfl rfl fun w11 S2 => ?_)
      refine ⟨fun h => absurd h (by decide), S2.modx trivial, ?_⟩
      replace H : Hp w w11 [.tab A16_0 c16_0 39 hs16_0 3 1 (encM encN r3), .tab A14_0 c14_0 39 hs14_0 3 1 (encM encN r1), .own Al1 cl1 3 1 (List.map encN l1), .own Al2 cl2 3 1 (List.map encN l2), .blk b1 24 [.int .i64 a0.points, .slice A_a0_readings a0.readings.length c_a0_readings], .blk b2 28 [.int .i64 r5.num, .int .i64 r5.den]] := H.stored 5 rfl S2
      replace R0 := H.ext
      refine DW.nil (hK7 _ _ ?_)
      refine CW.ret ?_
      obtain rfl := Option.some.inj F
      refine ⟨_, (ResOK.cell1 ⟨_, rfl, run_loadVar_agg Tk28 (H.blk 5 rfl).cells (us := [.int .i64 r5.num, .int .i64 r5.den]) rfl rfl⟩), ?_⟩
      refine ⟨(by first | rfl | simp), R0⟩
    ·
      intro K8 hK8 jK100
      refine CW.seq fun K9 hK9 => ?_
      refine CW.region ?_
      refine LW.pure rfl rfl (RV.assign rfl) ?_
      refine LW.nil (hK9 _ _ ?_)
      refine CW.block ?_
      replace H := H.nilOwn 3 1
      replace R0 := H.ext
      replace H := H.nilOwn 3 1
      replace R0 := H.ext
      replace H := H.pick (L' := [.own A8_0 c8_0 3 1 (List.map encN r6), .own none 0 3 1 (List.map encN (([] : List Int))), .own none 0 3 1 (List.map encN (([] : List Int))), .blk b1 24 [.int .i64 a0.points, .slice A_a0_readings a0.readings.length c_a0_readings], .blk b2 28 [.int .i64 0, .int .i64 0]]) [2, 1, 0, 4, 3] (by decide) rfl
      replace R0 := H.ext
      refine CW.loop (fun meas ρ wl2 => ∃ (t10_1 : Int) (l5 : List Int) (l6 : List Int) (Al5 : Option Addr) (cl5 : Nat) (Al6 : Option Addr) (cl6 : Nat), ref01_resistance_L1 a0 a1 a2 r6 meas t10_1 l5 l6 = some res ∧ ρ = [(1, .int .i64 a1), (2, .int .i64 a2), (3, .pointer (some (⟨b1, 0, none⟩))), (6, .pointer (some (⟨b2, 0, none⟩))), (7, .slice A8_0 r6.length c8_0), (8, .slice Al5 l5.length cl5), (9, .slice Al6 l6.length cl6), (10, .int .i64 t10_1)] ∧ Hp w wl2 [.own A8_0 c8_0 3 1 (List.map encN r6), .own Al5 cl5 3 1 (List.map encN l5), .own Al6 cl6 3 1 (List.map encN l6), .blk b1 24 [.int .i64 a0.points, .slice A_a0_readings a0.readings.length c_a0_readings], .blk b2 28 [.int .i64 0, .int .i64 0]]) FU ⟨_, ?_, ((0 : Int)), (([] : List Int)), (([] : List Int)), none, 0, none, 0, F, rfl, H⟩ ?_
      · exact ⟨rfl, rfl, rfl, rfl, (look_slice rfl (by first | rfl | (simp; done) | omega | (simp; omega))), (look_slice rfl (by first | rfl | (simp; done) | omega | (simp; omega))), (look_slice rfl (by first | rfl | (simp; done) | omega | (simp; omega))), rfl, trivial⟩
      rintro mk1 _ wl2 ⟨t10_1, l5, l6, Al5, cl5, Al6, cl6, F, rfl, H⟩
      have R0 := H.ext
      replace F := ref01_resistance_L1_s F
      obtain ⟨mk1, rfl, F⟩ := F
      generalize hrec1 : ref01_resistance_L1 a0 a1 a2 r6 mk1 = rec1 at F
      unfold ref01_resistance_B1 at F
      refine CW.seq fun K10 hK10 => ?_
      refine CW.seq fun K11 hK11 => ?_
      refine CW.region ?_
      refine LW.pure rfl rfl (RV.move rfl) ?_
      refine LW.pure rfl rfl (RV.fieldAddr Tf24_0 rfl) ?_
      refine LW.pure rfl rfl (RV.load1 Tk3 rfl ((H.blk 3 rfl).cells.off 0) rfl) ?_
      refine LW.pure rfl rfl (RV.lss rfl rfl) ?_
      refine LW.nil (hK11 _ _ ?_)
      by_cases hp2 : t10_1 < a0.points
      ·
        replace F := ite_y hp2 F
        have hq2 := dec_t hp2
        refine CW.condT rfl hq2 ?_
        refine CW.skip (hK10 _ _ ?_)
        refine CW.seqJ (fun ρ wl3 => (∃ (l3 : List Int) (l4 : List Int) (Al3 : Option Addr) (cl3 : Nat) (Al4 : Option Addr) (cl4 : Nat), ref01_resistance_k2 t10_1 rec1 l3 l4 = some res ∧ ρ = [(1, .int .i64 a1), (2, .int .i64 a2), (3, .pointer (some (⟨b1, 0, none⟩))), (6, .pointer (some (⟨b2, 0, none⟩))), (7, .slice A8_0 r6.length c8_0), (8, .slice Al3 l3.length cl3), (9, .slice Al4 l4.length cl4), (10, .int .i64 t10_1)] ∧ Hp w wl3 [.own A8_0 c8_0 3 1 (List.map encN r6), .own Al3 cl3 3 1 (List.map encN l3), .own Al4 cl4 3 1 (List.map encN l4), .blk b1 24 [.int .i64 a0.points, .slice A_a0_readings a0.readings.length c_a0_readings], .blk b2 28 [.int .i64 0, .int .i64 0]])) ?_ ?_
        ·
          rintro _ wl3 ⟨l3, l4, Al3, cl3, Al4, cl4, F, rfl, H⟩
          have R0 := H.ext
          unfold ref01_resistance_k2 at F
          obtain ⟨hg1, F⟩ := gd_some F
          refine CW.region ?_
          refine LW.pure rfl rfl (RV.move rfl) ?_
          refine LW.pure rfl rfl (RV.add rfl rfl hg1) ?_
          refine LW.pure rfl rfl (RV.assign rfl) ?_
          refine LW.nil ?_
          subst hrec1
          refine ⟨mk1, Nat.lt_succ_self _, _, ?_, (t10_1 + 1), l3, l4, Al3, cl3, Al4, cl4, F, rfl, H⟩
          exact ⟨rfl, rfl, rfl, rfl, (look_slice rfl (by first | rfl | (simp; done) | omega | (simp; omega))), (look_slice rfl (by first | rfl | (simp; done) | omega | (simp; omega))), (look_slice rfl (by first | rfl | (simp; done) | omega | (simp; omega))), rfl, trivial⟩
        ·
          intro K12 hK12 jK125
          refine CW.block ?_
          refine CW.seqJ (fun ρ wl4 => (∃ (t36_1 : Bool), ref01_resistance_k3 a2 t10_1 l5 l6 rec1 t36_1 = some res ∧ ρ = [(1, .int .i64 a1), (2, .int .i64 a2), (3, .pointer (some (⟨b1, 0, none⟩))), (6, .pointer (some (⟨b2, 0, none⟩))), (7, .slice A8_0 r6.length c8_0), (8, .slice Al5 l5.length cl5), (9, .slice Al6 l6.length cl6), (10, .int .i64 t10_1), (36, .bool t36_1)] ∧ Hp w wl4 [.own A8_0 c8_0 3 1 (List.map encN r6), .own Al5 cl5 3 1 (List.map encN l5), .own Al6 cl6 3 1 (List.map encN l6), .blk b1 24 [.int .i64 a0.points, .slice A_a0_readings a0.readings.length c_a0_readings], .blk b2 28 [.int .i64 0, .int .i64 0]])) ?_ ?_
          ·
            rintro _ wl4 ⟨t36_1, F, rfl, H⟩
            have R0 := H.ext
            unfold ref01_resistance_k3 at F
            by_cases hp3 : t36_1 = true
            ·
              replace F := ite_y hp3 F
              have hq3 : t36_1 = true := hp3
              refine CW.condT rfl hq3 ?_
              refine CW.seq fun K13 hK13 => ?_
              obtain ⟨hg2, F⟩ := gd_some F
              refine CW.region ?_
              refine LW.pure rfl rfl (RV.move rfl) ?_
              refine LW.pure rfl rfl (RV.move rfl) ?_
              refine LW.go rfl rfl (OW.buildSlice (e := 3) (vs := [.int .i64 t10_1]) (cs := [.int .i64 t10_1]) rfl (fun _ => by kernel_rfl) fun b3 w12 N3 => ?_)
              replace H := H.made' (k := 1) (t := 3) (enc := encN) (l := ([t10_1] : List Int)) N3 N3.blk (fun _ => rfl) rfl (by first | decide | omega | (simp; done) | (simp; omega))
              replace R0 := H.ext
              refine LW.go rfl rfl (OW.appendG (enc := encN) (l := l5) (xs := ([t10_1] : List Int)) Ts39 rfl (look_slice rfl (by first | rfl | (simp; done) | (simp; omega))) (H.own 2 rfl) (H.own 0 rfl).sl (fun _ => rfl) rfl rfl hg2 (by decide) fun A1 c1 w13 O1 M1 D1 => ?_)
              replace H : Hp w w13 [.own (some ⟨b3, 0, none⟩) ((([t10_1] : List Int)).length) 3 1 (List.map encN (([t10_1] : List Int))), .own A8_0 c8_0 3 1 (List.map encN r6), .own A1 c1 3 1 (List.map encN ((l5 ++ ([t10_1] : List Int)))), .own Al6 cl6 3 1 (List.map encN l6), .blk b1 24 [.int .i64 a0.points, .slice A_a0_readings a0.readings.length c_a0_readings], .blk b2 28 [.int .i64 0, .int .i64 0]] := H.mod 2 rfl M1 O1 D1
              replace R0 := H.ext
              refine LW.pure rfl rfl (RV.assign rfl) ?_
              refine LW.nil (hK13 _ _ ?_)
              refine CW.seq fun K14 hK14 => ?_
              refine CW.region ?_
              refine LW.pure rfl rfl (RV.move rfl) ?_
              refine LW.pure rfl rfl (RV.move rfl) ?_
              refine LW.pure rfl rfl (RV.nei rfl rfl) ?_
              refine LW.nil (hK14 _ _ ?_)
              by_cases hp4 : t10_1 = a2
              ·
                replace F := ite_y hp4 F
                have hq4 := dec_t hp4
                refine CW.condF rfl (not_f hq4) ?_
                replace H := H.pick (L' := [.own A8_0 c8_0 3 1 (List.map encN r6), .own A1 c1 3 1 (List.map encN ((l5 ++ ([t10_1] : List Int)))), .own Al6 cl6 3 1 (List.map encN l6), .blk b1 24 [.int .i64 a0.points, .slice A_a0_readings a0.readings.length c_a0_readings], .blk b2 28 [.int .i64 0, .int .i64 0]]) [1, 2, 3, 4, 5] (by decide) rfl
                replace R0 := H.ext
                refine CW.skip (jK125 _ _ ⟨_, ?_, ⟨((l5 ++ ([t10_1] : List Int))), l6, A1, c1, Al6, cl6, F, rfl, H⟩⟩)
                exact ⟨rfl, rfl, rfl, rfl, (look_slice rfl (by first | rfl | (simp; done) | omega | (simp; omega))), (look_slice rfl (by first | rfl | (simp; done) | omega | (simp; omega))), (look_slice rfl (by first | rfl | (simp; done) | omega | (simp; omega))), rfl, trivial⟩
              ·
                replace F := ite_n hp4 F
                have hq4 := dec_f hp4
                refine CW.condT rfl (not_t hq4) ?_
                obtain ⟨hg3, F⟩ := gd_some F
                refine CW.region ?_
                refine LW.pure rfl rfl (RV.move rfl) ?_
                refine LW.pure rfl rfl (RV.move rfl) ?_
                refine LW.go rfl rfl (OW.buildSlice (e := 3) (vs := [.int .i64 t10_1]) (cs := [.int .i64 t10_1]) rfl (fun _ => by kernel_rfl) fun b4 w14 N4 => ?_)
                replace H := H.made' (k := 1) (t := 3) (enc := encN) (l := ([t10_1] : List Int)) N4 N4.blk (fun _ => rfl) rfl (by first | decide | omega | (simp; done) | (simp; omega))
                replace R0 := H.ext
                refine LW.go rfl rfl (OW.appendG (enc := encN) (l := l6) (xs := ([t10_1] : List Int)) Ts39 rfl (look_slice rfl (by first | rfl | (simp; done) | (simp; omega))) (H.own 4 rfl) (H.own 0 rfl).sl (fun _ => rfl) rfl rfl hg3 (by decide) fun A2 c2 w15 O2 M2 D2 => ?_)
                replace H : Hp w w15 [.own (some ⟨b4, 0, none⟩) ((([t10_1] : List Int)).length) 3 1 (List.map encN (([t10_1] : List Int))), .own (some ⟨b3, 0, none⟩) ((([t10_1] : List Int)).length) 3 1 (List.map encN (([t10_1] : List Int))), .own A8_0 c8_0 3 1 (List.map encN r6), .own A1 c1 3 1 (List.map encN ((l5 ++ ([t10_1] : List Int)))), .own A2 c2 3 1 (List.map encN ((l6 ++ ([t10_1] : List Int)))), .blk b1 24 [.int .i64 a0.points, .slice A_a0_readings a0.readings.length c_a0_readings], .blk b2 28 [.int .i64 0, .int .i64 0]] := H.mod 4 rfl M2 O2 D2
                replace R0 := H.ext
                refine LW.pure rfl rfl (RV.assign rfl) ?_
                replace H := H.pick (L' := [.own A8_0 c8_0 3 1 (List.map encN r6), .own A1 c1 3 1 (List.map encN ((l5 ++ ([t10_1] : List Int)))), .own A2 c2 3 1 (List.map encN ((l6 ++ ([t10_1] : List Int)))), .blk b1 24 [.int .i64 a0.points, .slice A_a0_readings a0.readings.length c_a0_readings], .blk b2 28 [.int .i64 0, .int .i64 0]]) [2, 3, 4, 5, 6] (by decide) rfl
                replace R0 := H.ext
                refine LW.nil (jK125 _ _ ⟨_, ?_, ⟨((l5 ++ ([t10_1] : List Int))), ((l6 ++ ([t10_1] : List Int))), A1, c1, A2, c2, F, rfl, H⟩⟩)
                exact ⟨rfl, rfl, rfl, rfl, (look_slice rfl (by first | rfl | (simp; done) | omega | (simp; omega))), (look_slice rfl (by first | rfl | (simp; done) | omega | (simp; omega))), (look_slice rfl (by first | rfl | (simp; done) | omega | (simp; omega))), rfl, trivial⟩
            ·
              replace F := ite_n hp3 F
              have hq3 : t36_1 = false := raw_f hp3
              refine CW.condF rfl hq3 ?_
              refine CW.skip (jK125 _ _ ⟨_, ?_, ⟨l5, l6, Al5, cl5, Al6, cl6, F, rfl, H⟩⟩)
              exact ⟨rfl, rfl, rfl, rfl, (look_slice rfl (by first | rfl | (simp; done) | omega | (simp; omega))), (look_slice rfl (by first | rfl | (simp; done) | omega | (simp; omega))), (look_slice rfl (by first | rfl | (simp; done) | omega | (simp; omega))), rfl, trivial⟩
          ·
            intro K15 hK15 jK128
            obtain ⟨x1, hbx1, hx1, F⟩ := ix_some F
            obtain ⟨x2, hbx2, hx2, F⟩ := ix_some F
            by_cases hp5 : x1 = x2
            ·
              replace F := ite_y hp5 F
              have hq5 := dec_t hp5
              refine CW.draw [] (fun _ => True) (.cons 0 1 (.cons 1 1 (.cons 2 1 (.cons 3 1 (.cons 4 1 (.cons 5 1 (.cons 6 1 (.cons 7 1 (.cons 8 1 (.cons 9 1 (.cons 10 1 (.cons 11 1 (.cons 12 1 (.cons 13 1 .nil)))))))))))))) mixed (by kernel_rfl) fun w16 E8 => ?_
              replace H := H.grow E8
              replace R0 := H.ext
              refine DW.fix rfl rfl rfl (fun _ EQ => RV.move rfl) ?_
              refine DW.fix rfl rfl rfl (fun _ EQ => RV.move rfl) ?_
              refine DW.fix rfl rfl rfl (fun _ EQ => RV.indexAddr Ts39 rfl rfl hbx1 ((H.own 0 rfl).sl.addr_ hx1)) ?_
              refine DW.fix rfl rfl rfl (fun _ EQ => RV.load1 Tk3 rfl (((H.grow EQ).own 0 rfl).sl.at_ hx1) rfl) ?_
              refine DW.fix rfl rfl rfl (fun _ EQ => RV.move rfl) ?_
              refine DW.fix rfl rfl rfl (fun _ EQ => RV.move rfl) ?_
              refine DW.fix rfl rfl rfl (fun _ EQ => RV.indexAddr Ts39 rfl rfl hbx2 ((H.own 0 rfl).sl.addr_ hx2)) ?_
              refine DW.fix rfl rfl rfl (fun _ EQ => RV.load1 Tk3 rfl (((H.grow EQ).own 0 rfl).sl.at_ hx2) rfl) ?_
              refine DW.fix rfl rfl rfl (fun _ EQ => RV.eqi rfl rfl) ?_
              refine DW.fix rfl rfl rfl (fun _ EQ => RV.move rfl) ?_
              refine DW.fixYB rfl rfl rfl rfl rfl hq5 (fun _ EQ => RV.move rfl) ?_
              refine DW.fixYB rfl rfl rfl rfl rfl hq5 (fun _ EQ => RV.move rfl) ?_
              refine DW.fixYB rfl rfl rfl rfl rfl hq5 (fun _ EQ => RV.nei rfl rfl) ?_
              refine DW.fix rfl rfl rfl (fun _ EQ => RV.pickTB rfl hq5 rfl) ?_
              refine DW.nil (jK128 _ _ ⟨_, ?_, ⟨(!(decide (t10_1 = a1))), F, rfl, H⟩⟩)
              exact ⟨rfl, rfl, rfl, rfl, (look_slice rfl (by first | rfl | (simp; done) | omega | (simp; omega))), (look_slice rfl (by first | rfl | (simp; done) | omega | (simp; omega))), (look_slice rfl (by first | rfl | (simp; done) | omega | (simp; omega))), rfl, rfl, trivial⟩
            ·
              replace F := ite_n hp5 F
              have hq5 := dec_f hp5
              refine CW.draw [] (fun _ => True) (.cons 0 1 (.cons 1 1 (.cons 2 1 (.cons 3 1 (.cons 4 1 (.cons 5 1 (.cons 6 1 (.cons 7 1 (.cons 8 1 (.cons 9 1 (.cons 10 1 (.cons 11 1 (.cons 12 1 (.cons 13 1 .nil)))))))))))))) mixed (by kernel_rfl) fun w17 E9 => ?_
              replace H := H.grow E9
              replace R0 := H.ext
              refine DW.fix rfl rfl rfl (fun _ EQ => RV.move rfl) ?_
              refine DW.fix rfl rfl rfl (fun _ EQ => RV.move rfl) ?_
              refine DW.fix rfl rfl rfl (fun _ EQ => RV.indexAddr Ts39 rfl rfl hbx1 ((H.own 0 rfl).sl.addr_ hx1)) ?_
              refine DW.fix rfl rfl rfl (fun _ EQ => RV.load1 Tk3 rfl (((H.grow EQ).own 0 rfl).sl.at_ hx1) rfl) ?_
              refine DW.fix rfl rfl rfl (fun _ EQ => RV.move rfl) ?_
              refine DW.fix rfl rfl rfl (fun _ EQ => RV.move rfl) ?_
              refine DW.fix rfl rfl rfl (fun _ EQ => RV.indexAddr Ts39 rfl rfl hbx2 ((H.own 0 rfl).sl.addr_ hx2)) ?_
              refine DW.fix rfl rfl rfl (fun _ EQ => RV.load1 Tk3 rfl (((H.grow EQ).own 0 rfl).sl.at_ hx2) rfl) ?_
              refine DW.fix rfl rfl rfl (fun _ EQ => RV.eqi rfl rfl) ?_
              refine DW.fix rfl rfl rfl (fun _ EQ => RV.move rfl) ?_
              refine DW.fixNB rfl rfl rfl rfl rfl (ne_beq (v := false) hq5 rfl) ?_
              refine DW.fixNB rfl rfl rfl rfl rfl (ne_beq (v := false) hq5 rfl) ?_
              refine DW.fixNB rfl rfl rfl rfl rfl (ne_beq (v := false) hq5 rfl) ?_
              refine DW.fix rfl rfl rfl (fun _ EQ => RV.pickFB rfl hq5 rfl) ?_
              refine DW.nil (jK128 _ _ ⟨_, ?_, ⟨false, F, rfl, H⟩⟩)
              exact ⟨rfl, rfl, rfl, rfl, (look_slice rfl (by first | rfl | (simp; done) | omega | (simp; omega))), (look_slice rfl (by first | rfl | (simp; done) | omega | (simp; omega))), (look_slice rfl (by first | rfl | (simp; done) | omega | (simp; omega))), rfl, rfl, trivial⟩
      ·
        replace F := ite_n hp2 F
        have hq2 := dec_f hp2
        refine CW.condF rfl hq2 ?_
        replace H := H.pick (L' := [.own Al5 cl5 3 1 (List.map encN l5), .own Al6 cl6 3 1 (List.map encN l6), .blk b1 24 [.int .i64 a0.points, .slice A_a0_readings a0.readings.length c_a0_readings], .blk b2 28 [.int .i64 0, .int .i64 0]]) [1, 2, 3, 4] (by decide) rfl
        replace R0 := H.ext
        refine CW.exit (jK100 _ _ ⟨_, ?_, ⟨l5, l6, Al5, cl5, Al6, cl6, F, rfl, H⟩⟩)
        exact ⟨rfl, rfl, (look_slice rfl (by first | rfl | (simp; done) | omega | (simp; omega))), (look_slice rfl (by first | rfl | (simp; done) | omega | (simp; omega))), trivial⟩
end Go.D1

set_option linter.unusedVariables false
set_option linter.unusedSimpArgs false
namespace Go.D1
open Go.Tb Go.Proofs Go.RowKit
theorem Tc20 : callable Try.prog 20 = true := by kernel_rfl
theorem Tc64 : callable Try.prog 64 = true := by kernel_rfl
theorem Tc65 : callable Try.prog 65 = true := by kernel_rfl
set_option maxRecDepth 20000 in
set_option maxHeartbeats 1000000 in
theorem ref01_Error_ok {a0 : Survey} {a1 : Int} {a2 : Int} {A_a0_readings : Option Addr} {c_a0_readings : Nat} {w : World} {res : Rat × Int} (h_a0_readings : Sl w A_a0_readings c_a0_readings 4 (a0.readings.map encReading)) (F : ref01_Error a0 a1 a2 = some res) : Calls Try.prog 20 #[.agg #[.int .i64 a0.points, .slice A_a0_readings a0.readings.length c_a0_readings], .int .i64 a1, .int .i64 a2] w (Rt w (.tuple #[.agg #[.int .i64 res.1.num, .int .i64 res.1.den], .int .i64 res.2])) := by
  refine calls_of_cw (args := [.agg #[.int .i64 a0.points, .slice A_a0_readings a0.readings.length c_a0_readings], .int .i64 a1, .int .i64 a2]) Try.func20 rfl rfl rfl rfl ?_
  have H := Hp.start w
  have R0 := H.ext
  unfold ref01_Error at F
  refine CW.seq fun K1 hK1 => ?_
  refine CW.region ?_
  refine LW.go rfl rfl (OW.box rfl fun b1 w1 N1 => ?_)
  replace H := H.new N1 N1.blk
  replace R0 := H.ext
  refine LW.go rfl rfl (OW.alloc Tz28 fun b2 w2 N2 => ?_)
  replace H := H.new N2 N2.blk
  replace R0 := H.ext
  refine LW.pure rfl rfl (RV.assign rfl) ?_
  refine LW.nil (hK1 _ _ ?_)
  refine CW.seq fun K2 hK2 => ?_
  refine CW.seq fun K3 hK3 => ?_
  obtain ⟨r1, hr1, F⟩ := bnd_some F
  refine CW.region ?_
  refine LW.pure rfl rfl (RV.loadA [.int .i64 a0.points, .slice A_a0_readings a0.readings.length c_a0_readings] Tk24 rfl (H.blk 1 rfl).cells rfl rfl) ?_
  refine LW.pure rfl rfl (RV.move rfl) ?_
  refine LW.pure rfl rfl (RV.move rfl) ?_
  refine LW.go rfl rfl (OW.call Tc64 rfl (ref01_pair_ok (a0 := a0) (a1 := a1) (a2 := a2) (h_a0_readings.ext R0) hr1) ?_)
  rintro _ w3 ⟨rfl, E1⟩
  refine ⟨_, rfl, ?_⟩
  replace H := H.grow E1
  replace R0 := H.ext
  refine LW.pure rfl rfl (RV.assign rfl) ?_
  refine LW.nil (hK3 _ _ ?_)
  refine CW.seq fun K4 hK4 => ?_
  refine CW.region ?_
  refine LW.pure rfl rfl (RV.move rfl) ?_
  refine LW.pure rfl rfl (RV.nei rfl rfl) ?_
  refine LW.nil (hK4 _ _ ?_)
  by_cases hp1 : r1 = 0
  ·
    replace F := ite_y hp1 F
    have hq1 := dec_t hp1
    refine CW.condF rfl (not_f hq1) ?_
    refine CW.skip (hK2 _ _ ?_)
    refine CW.seq fun K5 hK5 => ?_
    obtain ⟨r2, hr2, F⟩ := bnd_some F
    refine CW.region ?_
    refine LW.pure rfl rfl (RV.loadA [.int .i64 a0.points, .slice A_a0_readings a0.readings.length c_a0_readings] Tk24 rfl (H.blk 1 rfl).cells rfl rfl) ?_
    refine LW.pure rfl rfl (RV.move rfl) ?_
    refine LW.pure rfl rfl (RV.move rfl) ?_
    refine LW.go rfl rfl (OW.call Tc65 rfl (ref01_resistance_ok (a0 := a0) (a1 := a1) (a2 := a2) (h_a0_readings.ext R0) hr2) ?_)
    rintro _ w4 ⟨rfl, E2⟩
    refine ⟨_, rfl, ?_⟩
    replace H := H.grow E2
    replace R0 := H.ext
    refine LW.go rfl rfl (OW.store Tk28 rfl rfl (H.blk 0 rfl) (off := 0) (vs := [.int .i64 r2.num, .int .i64 r2.den]) rfl rfl rfl rfl rfl fun w5 S1 => ?_)
    replace H : Hp w w5 [.blk b2 28 [.int .i64 r2.num, .int .i64 r2.den], .blk b1 24 [.int .i64 a0.points, .slice A_a0_readings a0.readings.length c_a0_readings]] := H.stored 0 rfl S1
    replace R0 := H.ext
    refine LW.pure rfl rfl (RV.assign rfl) ?_
    refine LW.nil (hK5 _ _ ?_)
    refine CW.ret ?_
    obtain rfl := Option.some.inj F
    refine ⟨_, (ResOK.two ⟨_, rfl, run_loadVar_agg Tk28 (H.blk 0 rfl).cells (us := [.int .i64 r2.num, .int .i64 r2.den]) rfl rfl⟩ rfl), ?_⟩
    refine ⟨(by first | rfl | simp), R0⟩
  ·
    replace F := ite_n hp1 F
    have hq1 := dec_f hp1
    refine CW.condT rfl (not_t hq1) ?_
    refine CW.seq fun K6 hK6 => ?_
    refine CW.region ?_
    refine LW.pure rfl rfl (RV.build (vs := []) (cs := [.int .i64 0, .int .i64 0]) rfl (fun _ => by kernel_rfl)) ?_
    refine LW.pure rfl rfl (RV.move rfl) ?_
    refine LW.go rfl rfl (OW.store Tk28 rfl rfl (H.blk 0 rfl) (off := 0) (vs := [.int .i64 0, .int .i64 0]) rfl rfl rfl rfl rfl fun w6 S2 => ?_)
    replace H : Hp w w6 [.blk b2 28 [.int .i64 0, .int .i64 0], .blk b1 24 [.int .i64 a0.points, .slice A_a0_readings a0.readings.length c_a0_readings]] := H.stored 0 rfl S2
    replace R0 := H.ext
    refine LW.pure rfl rfl (RV.assign rfl) ?_
    refine LW.nil (hK6 _ _ ?_)
    refine CW.ret ?_
    obtain rfl := Option.some.inj F
    refine ⟨_, (ResOK.two ⟨_, rfl, run_loadVar_agg Tk28 (H.blk 0 rfl).cells (us := [.int .i64 0, .int .i64 0]) rfl rfl⟩ rfl), ?_⟩
    refine ⟨(by first | rfl | simp), R0⟩
set_option maxRecDepth 20000 in
set_option maxHeartbeats 1000000 in
theorem law01_LevelErrors_ok {a0 : Survey} {a1 : Int} {a2 : Int} {A_a0_readings : Option Addr} {c_a0_readings : Nat} {w : World} {res : Bool} (h_a0_readings : Sl w A_a0_readings c_a0_readings 4 (a0.readings.map encReading)) (F : law01_LevelErrors a0 a1 a2 = some res) : Calls Try.prog 3 #[.agg #[.int .i64 a0.points, .slice A_a0_readings a0.readings.length c_a0_readings], .int .i64 a1, .int .i64 a2] w (Rt w (.bool res)) := by
  refine calls_of_cw (args := [.agg #[.int .i64 a0.points, .slice A_a0_readings a0.readings.length c_a0_readings], .int .i64 a1, .int .i64 a2]) Try.func3 rfl rfl rfl rfl ?_
  have H := Hp.start w
  have R0 := H.ext
  unfold law01_LevelErrors at F
  refine CW.seq fun K1 hK1 => ?_
  refine CW.region ?_
  refine LW.go rfl rfl (OW.box rfl fun b1 w1 N1 => ?_)
  replace H := H.new N1 N1.blk
  replace R0 := H.ext
  refine LW.pure rfl rfl (RV.assign rfl) ?_
  refine LW.nil (hK1 _ _ ?_)
  refine CW.seq fun K2 hK2 => ?_
  refine CW.seq fun K3 hK3 => ?_
  obtain ⟨r1, hr1, F⟩ := bnd_some F
  refine CW.region ?_
  refine LW.pure rfl rfl (RV.loadA [.int .i64 a0.points, .slice A_a0_readings a0.readings.length c_a0_readings] Tk24 rfl (H.blk 0 rfl).cells rfl rfl) ?_
  refine LW.go rfl rfl (OW.call Tc17 rfl (law01_Long_ok (a0 := a0) (h_a0_readings.ext R0) hr1) ?_)
  rintro _ w2 ⟨rfl, E1⟩
  refine ⟨_, rfl, ?_⟩
  replace H := H.grow E1
  replace R0 := H.ext
  refine LW.nil (hK3 _ _ ?_)
  by_cases hp1 : r1 = true
  ·
    replace F := ite_y hp1 F
    have hq1 : r1 = true := hp1
    refine CW.condT rfl hq1 ?_
    refine CW.seq fun K4 hK4 => ?_
    obtain ⟨r2, hr2, F⟩ := bnd_some F
    refine CW.region ?_
    refine LW.go rfl rfl (OW.call Tc18 rfl (law01_known_ok hr2) ?_)
    rintro _ w3 ⟨rfl, E2⟩
    refine ⟨_, rfl, ?_⟩
    replace H := H.grow E2
    replace R0 := H.ext
    refine LW.pure rfl rfl (RV.assign rfl) ?_
    refine LW.nil (hK4 _ _ ?_)
    refine CW.ret ?_
    obtain rfl := Option.some.inj F
    refine ⟨_, (ResOK.one rfl), ?_⟩
    refine ⟨(by first | rfl | simp), R0⟩
  ·
    replace F := ite_n hp1 F
    have hq1 : r1 = false := raw_f hp1
    refine CW.condF rfl hq1 ?_
    refine CW.skip (hK2 _ _ ?_)
    refine CW.seq fun K5 hK5 => ?_
    obtain ⟨r3, hr3, F⟩ := bnd_some F
    refine CW.region ?_
    refine LW.pure rfl rfl (RV.loadA [.int .i64 a0.points, .slice A_a0_readings a0.readings.length c_a0_readings] Tk24 rfl (H.blk 0 rfl).cells rfl rfl) ?_
    refine LW.pure rfl rfl (RV.move rfl) ?_
    refine LW.pure rfl rfl (RV.move rfl) ?_
    refine LW.go rfl rfl (OW.call Tc19 rfl (level_Error_ok (a0 := a0) (a1 := a1) (a2 := a2) (h_a0_readings.ext R0) hr3) ?_)
    rintro _ w4 ⟨rfl, E3⟩
    refine ⟨_, rfl, ?_⟩
    replace H := H.grow E3
    replace R0 := H.ext
    refine LW.pure rfl rfl (RV.move rfl) ?_
    refine LW.pure rfl rfl (RV.extract rfl rfl) ?_
    refine LW.pure rfl rfl (RV.extract rfl rfl) ?_
    refine LW.go rfl rfl (OW.alloc Tz28 fun b2 w5 N2 => ?_)
    replace H := H.new N2 N2.blk
    replace R0 := H.ext
    refine LW.go rfl rfl (OW.store Tk28 rfl rfl (H.blk 0 rfl) (off := 0) (vs := [.int .i64 r3.1.num, .int .i64 r3.1.den]) rfl rfl rfl rfl rfl fun w6 S1 => ?_)
    replace H : Hp w w6 [.blk b2 28 [.int .i64 r3.1.num, .int .i64 r3.1.den], .blk b1 24 [.int .i64 a0.points, .slice A_a0_readings a0.readings.length c_a0_readings]] := H.stored 0 rfl S1
    replace R0 := H.ext
    refine LW.pure rfl rfl (RV.assign rfl) ?_
    refine LW.nil (hK5 _ _ ?_)
    refine CW.seq fun K6 hK6 => ?_
    obtain ⟨r4, hr4, F⟩ := bnd_some F
    refine CW.region ?_
    refine LW.pure rfl rfl (RV.loadA [.int .i64 a0.points, .slice A_a0_readings a0.readings.length c_a0_readings] Tk24 rfl (H.blk 1 rfl).cells rfl rfl) ?_
    refine LW.pure rfl rfl (RV.move rfl) ?_
    refine LW.pure rfl rfl (RV.move rfl) ?_
    refine LW.go rfl rfl (OW.call Tc20 rfl (ref01_Error_ok (a0 := a0) (a1 := a1) (a2 := a2) (h_a0_readings.ext R0) hr4) ?_)
    rintro _ w7 ⟨rfl, E4⟩
    refine ⟨_, rfl, ?_⟩
    replace H := H.grow E4
    replace R0 := H.ext
    refine LW.pure rfl rfl (RV.move rfl) ?_
    refine LW.pure rfl rfl (RV.extract rfl rfl) ?_
    refine LW.pure rfl rfl (RV.extract rfl rfl) ?_
    refine LW.go rfl rfl (OW.alloc Tz28 fun b3 w8 N3 => ?_)
    replace H := H.new N3 N3.blk
    replace R0 := H.ext
    refine LW.go rfl rfl (OW.store Tk28 rfl rfl (H.blk 0 rfl) (off := 0) (vs := [.int .i64 r4.1.num, .int .i64 r4.1.den]) rfl rfl rfl rfl rfl fun w9 S2 => ?_)
    replace H : Hp w w9 [.blk b3 28 [.int .i64 r4.1.num, .int .i64 r4.1.den], .blk b2 28 [.int .i64 r3.1.num, .int .i64 r3.1.den], .blk b1 24 [.int .i64 a0.points, .slice A_a0_readings a0.readings.length c_a0_readings]] := H.stored 0 rfl S2
    replace R0 := H.ext
    refine LW.pure rfl rfl (RV.assign rfl) ?_
    refine LW.nil (hK6 _ _ ?_)
    refine CW.seq fun K7 hK7 => ?_
    obtain ⟨r5, hr5, F⟩ := bnd_some F
    refine CW.region ?_
    refine LW.pure rfl rfl (RV.loadA [.int .i64 a0.points, .slice A_a0_readings a0.readings.length c_a0_readings] Tk24 rfl (H.blk 2 rfl).cells rfl rfl) ?_
    refine LW.pure rfl rfl (RV.move rfl) ?_
    refine LW.pure rfl rfl (RV.move rfl) ?_
    refine LW.go rfl rfl (OW.call Tc19 rfl (level_Error_ok (a0 := a0) (a1 := a2) (a2 := a1) (h_a0_readings.ext R0) hr5) ?_)
    rintro _ w10 ⟨rfl, E5⟩
    refine ⟨_, rfl, ?_⟩
    replace H := H.grow E5
    replace R0 := H.ext
    refine LW.pure rfl rfl (RV.move rfl) ?_
    refine LW.pure rfl rfl (RV.extract rfl rfl) ?_
    refine LW.pure rfl rfl (RV.extract rfl rfl) ?_
    refine LW.go rfl rfl (OW.alloc Tz28 fun b4 w11 N4 => ?_)
    replace H := H.new N4 N4.blk
    replace R0 := H.ext
    refine LW.go rfl rfl (OW.store Tk28 rfl rfl (H.blk 0 rfl) (off := 0) (vs := [.int .i64 r5.1.num, .int .i64 r5.1.den]) rfl rfl rfl rfl rfl fun w12 S3 => ?_)
    replace H : Hp w w12 [.blk b4 28 [.int .i64 r5.1.num, .int .i64 r5.1.den], .blk b3 28 [.int .i64 r4.1.num, .int .i64 r4.1.den], .blk b2 28 [.int .i64 r3.1.num, .int .i64 r3.1.den], .blk b1 24 [.int .i64 a0.points, .slice A_a0_readings a0.readings.length c_a0_readings]] := H.stored 0 rfl S3
    replace R0 := H.ext
    refine LW.pure rfl rfl (RV.assign rfl) ?_
    refine LW.nil (hK7 _ _ ?_)
    refine CW.seq fun K8 hK8 => ?_
    by_cases hp2 : ((r3.1.num == r4.1.num) && (r3.1.den == r4.1.den)) = true
    ·
      replace F := ite_y hp2 F
      have hq2 : ((r3.1.num == r4.1.num) && (r3.1.den == r4.1.den)) = true := hp2
      by_cases hp3 : r3.2 = r4.2
      ·
        replace F := ite_y hp3 F
        have hq3 := dec_t hp3
        by_cases hp4 : ((r5.1.num == r3.1.num) && (r5.1.den == r3.1.den)) = true
        ·
          replace F := ite_y hp4 F
          have hq4 : ((r5.1.num == r3.1.num) && (r5.1.den == r3.1.den)) = true := hp4
          by_cases hp5 : r5.2 = r3.2
          ·
            replace F := ite_y hp5 F
            have hq5 := dec_t hp5
            obtain ⟨r6, hr6, F⟩ := bnd_some F
            refine CW.region ?_
            refine LW.pure rfl rfl (RV.loadA [.int .i64 r3.1.num, .int .i64 r3.1.den] Tk28 rfl (H.blk 2 rfl).cells rfl rfl) ?_
            refine LW.pure rfl rfl (RV.loadA [.int .i64 r4.1.num, .int .i64 r4.1.den] Tk28 rfl (H.blk 1 rfl).cells rfl rfl) ?_
            refine LW.pure rfl rfl (RV.eqA Te28g (Te28 _ _ _ _ ) rfl rfl) ?_
            refine LW.pure rfl rfl (RV.move rfl) ?_
            refine LW.pureYB rfl rfl rfl rfl hq2 (RV.move rfl) ?_
            refine LW.pureYB rfl rfl rfl rfl hq2 (RV.move rfl) ?_
            refine LW.pureYB rfl rfl rfl rfl hq2 (RV.eqi rfl rfl) ?_
            refine LW.pure rfl rfl (RV.pickTB rfl hq2 rfl) ?_
            refine LW.pure rfl rfl (RV.move rfl) ?_
            refine LW.pureYB rfl rfl rfl rfl hq3 (RV.loadA [.int .i64 r5.1.num, .int .i64 r5.1.den] Tk28 rfl (H.blk 0 rfl).cells rfl rfl) ?_
            refine LW.pureYB rfl rfl rfl rfl hq3 (RV.loadA [.int .i64 r3.1.num, .int .i64 r3.1.den] Tk28 rfl (H.blk 2 rfl).cells rfl rfl) ?_
            refine LW.pureYB rfl rfl rfl rfl hq3 (RV.eqA Te28g (Te28 _ _ _ _ ) rfl rfl) ?_
            refine LW.pure rfl rfl (RV.pickTB rfl hq3 rfl) ?_
            refine LW.pure rfl rfl (RV.move rfl) ?_
            refine LW.pureYB rfl rfl rfl rfl hq4 (RV.move rfl) ?_
            refine LW.pureYB rfl rfl rfl rfl hq4 (RV.move rfl) ?_
            refine LW.pureYB rfl rfl rfl rfl hq4 (RV.eqi rfl rfl) ?_
            refine LW.pure rfl rfl (RV.pickTB rfl hq4 rfl) ?_
            refine LW.pure rfl rfl (RV.move rfl) ?_
            refine LW.yesB rfl rfl rfl rfl hq5 (OW.call Tc18 rfl (law01_known_ok hr6) ?_)
            rintro _ w13 ⟨rfl, E6⟩
            refine ⟨_, rfl, ?_⟩
            replace H := H.grow E6
            replace R0 := H.ext
            refine LW.pure rfl rfl (RV.pickTB rfl hq5 rfl) ?_
            refine LW.pure rfl rfl (RV.assign rfl) ?_
            refine LW.nil (hK8 _ _ ?_)
            refine CW.ret ?_
            obtain rfl := Option.some.inj F
            refine ⟨_, (ResOK.one rfl), ?_⟩
            refine ⟨(by first | rfl | simp), R0⟩
          ·
            replace F := ite_n hp5 F
            have hq5 := dec_f hp5
            refine CW.region ?_
            refine LW.pure rfl rfl (RV.loadA [.int .i64 r3.1.num, .int .i64 r3.1.den] Tk28 rfl (H.blk 2 rfl).cells rfl rfl) ?_
            refine LW.pure rfl rfl (RV.loadA [.int .i64 r4.1.num, .int .i64 r4.1.den] Tk28 rfl (H.blk 1 rfl).cells rfl rfl) ?_
            refine LW.pure rfl rfl (RV.eqA Te28g (Te28 _ _ _ _ ) rfl rfl) ?_
            refine LW.pure rfl rfl (RV.move rfl) ?_
            refine LW.pureYB rfl rfl rfl rfl hq2 (RV.move rfl) ?_
            refine LW.pureYB rfl rfl rfl rfl hq2 (RV.move rfl) ?_
            refine LW.pureYB rfl rfl rfl rfl hq2 (RV.eqi rfl rfl) ?_
            refine LW.pure rfl rfl (RV.pickTB rfl hq2 rfl) ?_
            refine LW.pure rfl rfl (RV.move rfl) ?_
            refine LW.pureYB rfl rfl rfl rfl hq3 (RV.loadA [.int .i64 r5.1.num, .int .i64 r5.1.den] Tk28 rfl (H.blk 0 rfl).cells rfl rfl) ?_
            refine LW.pureYB rfl rfl rfl rfl hq3 (RV.loadA [.int .i64 r3.1.num, .int .i64 r3.1.den] Tk28 rfl (H.blk 2 rfl).cells rfl rfl) ?_
            refine LW.pureYB rfl rfl rfl rfl hq3 (RV.eqA Te28g (Te28 _ _ _ _ ) rfl rfl) ?_
            refine LW.pure rfl rfl (RV.pickTB rfl hq3 rfl) ?_
            refine LW.pure rfl rfl (RV.move rfl) ?_
            refine LW.pureYB rfl rfl rfl rfl hq4 (RV.move rfl) ?_
            refine LW.pureYB rfl rfl rfl rfl hq4 (RV.move rfl) ?_
            refine LW.pureYB rfl rfl rfl rfl hq4 (RV.eqi rfl rfl) ?_
            refine LW.pure rfl rfl (RV.pickTB rfl hq4 rfl) ?_
            refine LW.pure rfl rfl (RV.move rfl) ?_
            refine LW.noB rfl rfl rfl rfl (ne_beq (v := false) hq5 rfl) ?_
            refine LW.pure rfl rfl (RV.pickFB rfl hq5 rfl) ?_
            refine LW.pure rfl rfl (RV.assign rfl) ?_
            refine LW.nil (hK8 _ _ ?_)
            refine CW.ret ?_
            obtain rfl := Option.some.inj F
            refine ⟨_, (ResOK.one rfl), ?_⟩
            refine ⟨(by first | rfl | simp), R0⟩
        ·
          replace F := ite_n hp4 F
          have hq4 : ((r5.1.num == r3.1.num) && (r5.1.den == r3.1.den)) = false := raw_f hp4
          refine CW.region ?_
          refine LW.pure rfl rfl (RV.loadA [.int .i64 r3.1.num, .int .i64 r3.1.den] Tk28 rfl (H.blk 2 rfl).cells rfl rfl) ?_
          refine LW.pure rfl rfl (RV.loadA [.int .i64 r4.1.num, .int .i64 r4.1.den] Tk28 rfl (H.blk 1 rfl).cells rfl rfl) ?_
          refine LW.pure rfl rfl (RV.eqA Te28g (Te28 _ _ _ _ ) rfl rfl) ?_
          refine LW.pure rfl rfl (RV.move rfl) ?_
          refine LW.pureYB rfl rfl rfl rfl hq2 (RV.move rfl) ?_
          refine LW.pureYB rfl rfl rfl rfl hq2 (RV.move rfl) ?_
          refine LW.pureYB rfl rfl rfl rfl hq2 (RV.eqi rfl rfl) ?_
          refine LW.pure rfl rfl (RV.pickTB rfl hq2 rfl) ?_
          refine LW.pure rfl rfl (RV.move rfl) ?_
          refine LW.pureYB rfl rfl rfl rfl hq3 (RV.loadA [.int .i64 r5.1.num, .int .i64 r5.1.den] Tk28 rfl (H.blk 0 rfl).cells rfl rfl) ?_
          refine LW.pureYB rfl rfl rfl rfl hq3 (RV.loadA [.int .i64 r3.1.num, .int .i64 r3.1.den] Tk28 rfl (H.blk 2 rfl).cells rfl rfl) ?_
          refine LW.pureYB rfl rfl rfl rfl hq3 (RV.eqA Te28g (Te28 _ _ _ _ ) rfl rfl) ?_
          refine LW.pure rfl rfl (RV.pickTB rfl hq3 rfl) ?_
          refine LW.pure rfl rfl (RV.move rfl) ?_
          refine LW.noB rfl rfl rfl rfl (ne_beq (v := false) hq4 rfl) ?_
          refine LW.noB rfl rfl rfl rfl (ne_beq (v := false) hq4 rfl) ?_
          refine LW.noB rfl rfl rfl rfl (ne_beq (v := false) hq4 rfl) ?_
          refine LW.pure rfl rfl (RV.pickFB rfl hq4 rfl) ?_
          refine LW.pure rfl rfl (RV.move rfl) ?_
          refine LW.noB rfl rfl rfl rfl (ne_beq (v := false) rfl rfl) ?_
          refine LW.pure rfl rfl (RV.pickFB rfl rfl rfl) ?_
          refine LW.pure rfl rfl (RV.assign rfl) ?_
          refine LW.nil (hK8 _ _ ?_)
          refine CW.ret ?_
          obtain rfl := Option.some.inj F
          refine ⟨_, (ResOK.one rfl), ?_⟩
          refine ⟨(by first | rfl | simp), R0⟩
      ·
        replace F := ite_n hp3 F
        have hq3 := dec_f hp3
        refine CW.region ?_
        refine LW.pure rfl rfl (RV.loadA [.int .i64 r3.1.num, .int .i64 r3.1.den] Tk28 rfl (H.blk 2 rfl).cells rfl rfl) ?_
        refine LW.pure rfl rfl (RV.loadA [.int .i64 r4.1.num, .int .i64 r4.1.den] Tk28 rfl (H.blk 1 rfl).cells rfl rfl) ?_
        refine LW.pure rfl rfl (RV.eqA Te28g (Te28 _ _ _ _ ) rfl rfl) ?_
        refine LW.pure rfl rfl (RV.move rfl) ?_
        refine LW.pureYB rfl rfl rfl rfl hq2 (RV.move rfl) ?_
        refine LW.pureYB rfl rfl rfl rfl hq2 (RV.move rfl) ?_
        refine LW.pureYB rfl rfl rfl rfl hq2 (RV.eqi rfl rfl) ?_
        refine LW.pure rfl rfl (RV.pickTB rfl hq2 rfl) ?_
        refine LW.pure rfl rfl (RV.move rfl) ?_
        refine LW.noB rfl rfl rfl rfl (ne_beq (v := false) hq3 rfl) ?_
        refine LW.noB rfl rfl rfl rfl (ne_beq (v := false) hq3 rfl) ?_
        refine LW.noB rfl rfl rfl rfl (ne_beq (v := false) hq3 rfl) ?_
        refine LW.pure rfl rfl (RV.pickFB rfl hq3 rfl) ?_
        refine LW.pure rfl rfl (RV.move rfl) ?_
        refine LW.noB rfl rfl rfl rfl (ne_beq (v := false) rfl rfl) ?_
        refine LW.noB rfl rfl rfl rfl (ne_beq (v := false) rfl rfl) ?_
        refine LW.noB rfl rfl rfl rfl (ne_beq (v := false) rfl rfl) ?_
        refine LW.pure rfl rfl (RV.pickFB rfl rfl rfl) ?_
        refine LW.pure rfl rfl (RV.move rfl) ?_
        refine LW.noB rfl rfl rfl rfl (ne_beq (v := false) rfl rfl) ?_
        refine LW.pure rfl rfl (RV.pickFB rfl rfl rfl) ?_
        refine LW.pure rfl rfl (RV.assign rfl) ?_
        refine LW.nil (hK8 _ _ ?_)
        refine CW.ret ?_
        obtain rfl := Option.some.inj F
        refine ⟨_, (ResOK.one rfl), ?_⟩
        refine ⟨(by first | rfl | simp), R0⟩
    ·
      replace F := ite_n hp2 F
      have hq2 : ((r3.1.num == r4.1.num) && (r3.1.den == r4.1.den)) = false := raw_f hp2
      refine CW.region ?_
      refine LW.pure rfl rfl (RV.loadA [.int .i64 r3.1.num, .int .i64 r3.1.den] Tk28 rfl (H.blk 2 rfl).cells rfl rfl) ?_
      refine LW.pure rfl rfl (RV.loadA [.int .i64 r4.1.num, .int .i64 r4.1.den] Tk28 rfl (H.blk 1 rfl).cells rfl rfl) ?_
      refine LW.pure rfl rfl (RV.eqA Te28g (Te28 _ _ _ _ ) rfl rfl) ?_
      refine LW.pure rfl rfl (RV.move rfl) ?_
      refine LW.noB rfl rfl rfl rfl (ne_beq (v := false) hq2 rfl) ?_
      refine LW.noB rfl rfl rfl rfl (ne_beq (v := false) hq2 rfl) ?_
      refine LW.noB rfl rfl rfl rfl (ne_beq (v := false) hq2 rfl) ?_
      refine LW.pure rfl rfl (RV.pickFB rfl hq2 rfl) ?_
      refine LW.pure rfl rfl (RV.move rfl) ?_
      refine LW.noB rfl rfl rfl rfl (ne_beq (v := false) rfl rfl) ?_
      refine LW.noB rfl rfl rfl rfl (ne_beq (v := false) rfl rfl) ?_
      refine LW.noB rfl rfl rfl rfl (ne_beq (v := false) rfl rfl) ?_
      refine LW.pure rfl rfl (RV.pickFB rfl rfl rfl) ?_
      refine LW.pure rfl rfl (RV.move rfl) ?_
      refine LW.noB rfl rfl rfl rfl (ne_beq (v := false) rfl rfl) ?_
      refine LW.noB rfl rfl rfl rfl (ne_beq (v := false) rfl rfl) ?_
      refine LW.noB rfl rfl rfl rfl (ne_beq (v := false) rfl rfl) ?_
      refine LW.pure rfl rfl (RV.pickFB rfl rfl rfl) ?_
      refine LW.pure rfl rfl (RV.move rfl) ?_
      refine LW.noB rfl rfl rfl rfl (ne_beq (v := false) rfl rfl) ?_
      refine LW.pure rfl rfl (RV.pickFB rfl rfl rfl) ?_
      refine LW.pure rfl rfl (RV.assign rfl) ?_
      refine LW.nil (hK8 _ _ ?_)
      refine CW.ret ?_
      obtain rfl := Option.some.inj F
      refine ⟨_, (ResOK.one rfl), ?_⟩
      refine ⟨(by first | rfl | simp), R0⟩
end Go.D1

namespace Go.Tb
/-- A loop over 0 .. N - 1 with a state, that is left at the first i for which p does not hold. -/
theorem scan_loop {S R : Type} (N : Nat) (p : Nat → Bool) (g : Nat → S) (L : Nat → S → Int → Option R) (yes : Option R) (no : Nat → Option R)
    (step : ∀ n i : Nat, i < N → L (n + 1) (g i) (i : Int) = if p i = true then L n (g (i + 1)) ((i + 1 : Nat) : Int) else no i)
    (stop : ∀ n : Nat, L (n + 1) (g N) (N : Int) = yes) : ∀ (d n i : Nat), N = i + d → d < n → L n (g i) (i : Int) = match (List.range' i d).find? (fun j => !p j) with | none => yes | some j => no j
  | 0, n + 1, i, hd, hn => by
    have hi : i = N := by omega
    subst hi
    rw [stop n]; rfl
  | d + 1, n + 1, i, hd, hn => by
    rw [step n i (by omega), List.range'_succ, List.find?_cons]
    cases hp : p i
    · simp
    · simp only [if_true, Bool.not_true]
      exact scan_loop N p g L yes no step stop d n (i + 1) (by omega) (by omega)
theorem find_all {p : Nat → Bool} {i d : Nat} : (List.range' i d).find? (fun j => !p j) = none ↔ ∀ j, i ≤ j → j < i + d → p j = true := by
  rw [List.find?_eq_none]
  constructor
  · intro h j h1 h2
    have := h j (by rw [List.mem_range'_1]; omega)
    simpa using this
  · intro h x hx
    rw [List.mem_range'_1] at hx
    simp [h x hx.1 hx.2]
/-- A loop over 0 .. N - 1 with a state and no way out. -/
theorem for_loop {S R : Type} (N : Nat) (g : Nat → S) (L : Nat → S → Int → Option R) (yes : Option R)
    (step : ∀ n i : Nat, i < N → L (n + 1) (g i) (i : Int) = L n (g (i + 1)) ((i + 1 : Nat) : Int))
    (stop : ∀ n : Nat, L (n + 1) (g N) (N : Int) = yes) : ∀ (d n i : Nat), N = i + d → d < n → L n (g i) (i : Int) = yes
  | 0, n + 1, i, hd, hn => by
    have hi : i = N := by omega
    subst hi
    exact stop n
  | d + 1, n + 1, i, hd, hn => by
    rw [step n i (by omega)]
    exact for_loop N g L yes step stop d n (i + 1) (by omega) (by omega)
theorem for_loop0 {S R : Type} (N : Nat) (g : Nat → S) (L : Nat → S → Int → Option R) (yes : Option R)
    (step : ∀ n i : Nat, i < N → L (n + 1) (g i) (i : Int) = L n (g (i + 1)) ((i + 1 : Nat) : Int))
    (stop : ∀ n : Nat, L (n + 1) (g N) (N : Int) = yes) (hN : N ≤ 9223372036854775807) : L FU (g 0) 0 = yes :=
  for_loop N g L yes step stop N FU 0 (by omega) (by have := FU_pos; omega)
theorem scan_loop0 {S R : Type} (N : Nat) (p : Nat → Bool) (g : Nat → S) (L : Nat → S → Int → Option R) (yes no : Option R)
    (step : ∀ n i : Nat, i < N → L (n + 1) (g i) (i : Int) = if p i = true then L n (g (i + 1)) ((i + 1 : Nat) : Int) else no)
    (stop : ∀ n : Nat, L (n + 1) (g N) (N : Int) = yes) (hN : N ≤ 9223372036854775807) : L FU (g 0) 0 = if (∀ j, j < N → p j = true) then yes else no := by
  have h := scan_loop N p g L yes (fun _ => no) step stop N FU 0 (by omega) (by have := FU_pos; omega)
  refine Eq.trans h ?_
  cases hf : (List.range' 0 N).find? (fun j => !p j) with
  | none => rw [if_pos (fun j hj => find_all.1 hf j (by omega) (by omega))]
  | some j =>
    have h1 := List.find?_some hf
    have h2 := List.mem_of_find?_eq_some hf
    rw [List.mem_range'_1] at h2
    rw [if_neg]
    intro hall
    have := hall j (by omega)
    simp [this] at h1
/-- The same over the elements of a list. -/
theorem list_loop0 {α R : Type} (l : List α) (p : α → Bool) (L : Nat → Int → Option R) (yes no : Option R)
    (step : ∀ (n i : Nat) (x : α), l[i]? = some x → L (n + 1) (i : Int) = if p x = true then L n ((i + 1 : Nat) : Int) else no)
    (stop : ∀ n : Nat, L (n + 1) (l.length : Int) = yes) (hl : l.length ≤ 9223372036854775807) : L FU 0 = if l.all p = true then yes else no := by
  have h := scan_loop0 l.length (fun i => (l[i]?.map p).getD true) (fun _ => ()) (fun n _ i => L n i) yes no (fun n i hi => by
    have hx : l[i]? = some l[i] := by simp [hi]
    rw [step n i _ hx]; simp [hx]) stop hl
  refine Eq.trans h ?_
  by_cases ha : l.all p = true
  · rw [if_pos ha, if_pos]
    intro j hj
    have := List.all_eq_true.1 ha l[j] (List.getElem_mem hj)
    simp [hj, this]
  · rw [if_neg ha, if_neg]
    intro hc
    refine ha (List.all_eq_true.2 fun x hx => ?_)
    obtain ⟨j, hj⟩ := List.getElem?_of_mem hx
    have := hc j (lt_of_at hj)
    simpa [hj] using this
end Go.Tb

set_option linter.unusedVariables false
set_option linter.unusedSimpArgs false
namespace Go.D1
open Go.Tb
theorem known_eq : law01_known = some true := by decide +kernel
theorem ix0 {α β : Type} {l : List α} {k : α → Option β} {x : α} (h : l[0]? = some x) : ix l 0 k = k x := ix_nat (i := 0) h
theorem for0 {S R : Type} (N : Nat) (g : Nat → S) (L : Nat → S → Int → Option R) (yes : Option R) {s0 : S} (h0 : g 0 = s0)
    (step : ∀ n i : Nat, i < N → L (n + 1) (g i) (i : Int) = L n (g (i + 1)) ((i + 1 : Nat) : Int))
    (stop : ∀ n : Nat, L (n + 1) (g N) (N : Int) = yes) (hN : N ≤ 9223372036854775807) : L FU s0 0 = yes := by
  rw [← h0]; exact for_loop0 N g L yes step stop hN
def gi (l : List Int) (i : Nat) : Int := l.getD i 0
theorem gi_at {l : List Int} {i : Nat} (h : i < l.length) : l[i]? = some (gi l i) := by simp [gi, List.getD, h]
theorem gi_of {l : List Int} {i : Nat} {x : Int} (h : l[i]? = some x) : gi l i = x := by simp [gi, List.getD, h]
theorem gi_set {l : List Int} {i j : Nat} {x : Int} : gi (l.set i x) j = if i = j ∧ j < l.length then x else gi l j := by
  unfold gi
  simp only [List.getD_eq_getElem?_getD, List.getElem?_set]
  by_cases h : i = j
  · subst h
    by_cases h2 : i < l.length
    · simp [h2]
    · simp [h2]
  · simp [h]
theorem gi_ext {l l' : List Int} (hl : l.length = l'.length) (h : ∀ j, j < l.length → gi l j = gi l' j) : l = l' := by
  apply List.ext_getElem?
  intro j
  by_cases hj : j < l.length
  · rw [gi_at hj, gi_at (by omega), h j hj]
  · rw [List.getElem?_eq_none (by omega), List.getElem?_eq_none (by omega)]
def within (n lo hi : Int) : Bool := decide (lo ≤ n) && decide (n ≤ hi)
theorem within_iff {n lo hi : Int} : within n lo hi = true ↔ lo ≤ n ∧ n ≤ hi := by unfold within; simp
theorem lwithin_eq (n lo hi : Int) : level_within n lo hi = some (within n lo hi) := by
  unfold level_within within
  by_cases h : lo ≤ n <;> simp [h]
theorem rwithin_eq (n lo hi : Int) : ref01_within n lo hi = some (within n lo hi) := by
  unfold ref01_within within
  by_cases h : lo ≤ n <;> simp [h]
def okR (s : Survey) (r : Reading) : Bool := within r.from_ 0 (s.points - 1) && within r.to_ 0 (s.points - 1) && !decide (r.from_ = r.to_) && within r.rise (-1000) 1000 && within r.weight 1 3
def validate (s : Survey) : Int := if within s.points 1 5 = true then (if 8 < s.readings.length then 3 else if s.readings.all (okR s) = true then 0 else 1) else 1
theorem Validate_eq (s : Survey) : level_Validate s = some (validate s) := by
  unfold level_Validate validate
  rw [bnd_eq (lwithin_eq _ _ _)]
  by_cases hp : within s.points 1 5 = true
  · have hw := within_iff.1 hp
    rw [if_pos hp, if_pos hp]
    by_cases h8 : 8 < s.readings.length
    · rw [if_pos (by omega), if_pos h8]
    · rw [if_neg (by omega), if_neg h8]
      refine Eq.trans (list_loop0 s.readings (okR s) (level_Validate_L1 s) (some 0) (some 1) (fun k i x hx => ?_) (fun k => ?_) (by omega)) (by split <;> rfl)
      · have := lt_of_at hx
        show level_Validate_B1 s (level_Validate_L1 s k) _ = _
        unfold level_Validate_B1 okR level_Validate_k2
        rw [if_pos (by omega), ix_nat hx, gd_pos (by omega), bnd_eq (lwithin_eq _ _ _)]
        cases h1 : within x.from_ 0 (s.points - 1)
        · rw [if_neg (by simp), if_pos rfl]; rfl
        · rw [if_pos rfl, gd_pos (by omega), bnd_eq (lwithin_eq _ _ _)]
          cases h2 : within x.to_ 0 (s.points - 1)
          · rw [if_neg (by simp), if_pos rfl]; rfl
          · rw [if_pos rfl]
            by_cases h3 : x.from_ = x.to_
            · rw [if_pos h3, if_pos rfl, decide_eq_true h3]; rfl
            · rw [if_neg h3, decide_eq_false h3, bnd_eq (lwithin_eq _ _ _)]
              cases h4 : within x.rise (-1000) 1000
              · rw [if_neg (by simp), if_pos rfl]; rfl
              · rw [if_pos rfl, bnd_eq (lwithin_eq _ _ _)]
                cases h5 : within x.weight 1 3
                · rw [if_pos (by rfl)]; rfl
                · rw [if_neg (by simp), gd_pos (by omega)]; rfl
      · show level_Validate_B1 s (level_Validate_L1 s k) _ = _
        unfold level_Validate_B1
        rw [if_neg (by omega)]; rfl
  · rw [if_neg hp, if_neg hp]
theorem rValidate_eq (s : Survey) : ref01_Validate s = some (validate s) := by
  unfold ref01_Validate validate
  rw [bnd_eq (rwithin_eq _ _ _)]
  by_cases hp : within s.points 1 5 = true
  · have hw := within_iff.1 hp
    rw [if_pos hp, if_pos hp]
    by_cases h8 : 8 < s.readings.length
    · rw [if_pos (by omega), if_pos h8]
    · rw [if_neg (by omega), if_neg h8]
      refine Eq.trans (list_loop0 s.readings (okR s) (ref01_Validate_L1 s) (some 0) (some 1) (fun k i x hx => ?_) (fun k => ?_) (by omega)) (by split <;> rfl)
      · have := lt_of_at hx
        show ref01_Validate_B1 s (ref01_Validate_L1 s k) _ = _
        unfold ref01_Validate_B1 okR ref01_Validate_k2
        rw [if_pos (by omega), ix_nat hx, gd_pos (by omega), bnd_eq (rwithin_eq _ _ _)]
        cases h1 : within x.from_ 0 (s.points - 1)
        · rw [if_neg (by simp), if_pos rfl]; rfl
        · rw [if_pos rfl, gd_pos (by omega), bnd_eq (rwithin_eq _ _ _)]
          cases h2 : within x.to_ 0 (s.points - 1)
          · rw [if_neg (by simp), if_pos rfl]; rfl
          · rw [if_pos rfl]
            by_cases h3 : x.from_ = x.to_
            · rw [if_pos h3, if_pos rfl, decide_eq_true h3]; rfl
            · rw [if_neg h3, decide_eq_false h3, bnd_eq (rwithin_eq _ _ _)]
              cases h4 : within x.rise (-1000) 1000
              · rw [if_neg (by simp), if_pos rfl]; rfl
              · rw [if_pos rfl, bnd_eq (rwithin_eq _ _ _)]
                cases h5 : within x.weight 1 3
                · rw [if_pos (by rfl)]; rfl
                · rw [if_neg (by simp), gd_pos (by omega)]; rfl
      · show ref01_Validate_B1 s (ref01_Validate_L1 s k) _ = _
        unfold ref01_Validate_B1
        rw [if_neg (by omega)]; rfl
  · rw [if_neg hp, if_neg hp]
structure SvOk (s : Survey) : Prop where
  p1 : 1 ≤ s.points
  p5 : s.points ≤ 5
  len : s.readings.length ≤ 8
  rd : ∀ r ∈ s.readings, (0 ≤ r.from_ ∧ r.from_ < s.points) ∧ (0 ≤ r.to_ ∧ r.to_ < s.points) ∧ r.from_ ≠ r.to_ ∧ (-1000 ≤ r.rise ∧ r.rise ≤ 1000) ∧ (1 ≤ r.weight ∧ r.weight ≤ 3)
theorem val0 {s : Survey} : validate s = 0 ↔ SvOk s := by
  unfold validate
  constructor
  · intro h
    split at h
    · rename_i hp
      have hw := within_iff.1 hp
      split at h
      · omega
      · split at h
        · rename_i hall
          refine ⟨hw.1, hw.2, by omega, fun r hr => ?_⟩
          have := List.all_eq_true.1 hall r hr
          unfold okR at this
          simp only [Bool.and_eq_true, within_iff, Bool.not_eq_true', decide_eq_false_iff_not] at this
          omega
        · omega
    · omega
  · intro h
    rw [if_pos (within_iff.2 ⟨h.p1, h.p5⟩), if_neg (by have := h.len; omega), if_pos]
    rw [List.all_eq_true]
    intro r hr
    have := h.rd r hr
    unfold okR
    simp only [Bool.and_eq_true, within_iff, Bool.not_eq_true', decide_eq_false_iff_not]
    omega
theorem Long_eq (s : Survey) : law01_Long s = some (decide ((100 : Int) < (s.readings.length : Int))) := rfl
end Go.D1
