/- Lemmas and walks that the proof of this claim uses: D3v3, D3t1, D3t2, D3t4. -/
import Derived.Test.YtmjadkjcbaohbaaTopDates6
set_option linter.unusedVariables false
set_option linter.unusedSimpArgs false
namespace Go.D3
open Go.Tb Go.Proofs Go.RowKit Go.Core
theorem Tc19 : callable Try.prog 19 = true := by kernel_rfl
theorem Tc23 : callable Try.prog 23 = true := by kernel_rfl
theorem Tc56 : callable Try.prog 56 = true := by kernel_rfl
set_option maxRecDepth 20000 in
set_option maxHeartbeats 1000000 in
theorem core_Fixed_ok {a0 : Core} {a1 : Int} {a2 : Int} {A_a0_bounds : Option Addr} {c_a0_bounds : Nat} {w : World} {res : Int × Bool × Int} (h_a0_bounds : Sl w A_a0_bounds c_a0_bounds 3 (a0.bounds.map encBound)) (F : core_Fixed a0 a1 a2 = some res) : Calls Try.prog 23 #[.agg #[.int .i64 a0.layers, .slice A_a0_bounds a0.bounds.length c_a0_bounds], .int .i64 a1, .int .i64 a2] w (Rt w (.tuple #[.int .i64 res.1, .bool res.2.1, .int .i64 res.2.2])) := by
  refine calls_of_cw (args := [.agg #[.int .i64 a0.layers, .slice A_a0_bounds a0.bounds.length c_a0_bounds], .int .i64 a1, .int .i64 a2]) Try.func23 rfl rfl rfl rfl ?_
  have H := Hp.start w
  have R0 := H.ext
  unfold core_Fixed at F
  refine CW.seq fun K1 hK1 => ?_
  refine CW.region ?_
  refine LW.go rfl rfl (OW.box rfl fun b1 w1 N1 => ?_)
  replace H := H.new N1 N1.blk
  replace R0 := H.ext
  refine LW.pure rfl rfl (RV.assign rfl) ?_
  refine LW.pure rfl rfl (RV.assign rfl) ?_
  refine LW.pure rfl rfl (RV.assign rfl) ?_
  refine LW.nil (hK1 _ _ ?_)
  refine CW.seq fun K2 hK2 => ?_
  refine CW.seq fun K3 hK3 => ?_
  obtain ⟨r2, hr2, F⟩ := bnd_some F
  refine CW.region ?_
  refine LW.pure rfl rfl (RV.loadA [.int .i64 a0.layers, .slice A_a0_bounds a0.bounds.length c_a0_bounds] Tk24 rfl (H.blk 0 rfl).cells rfl rfl) ?_
  refine LW.pure rfl rfl (RV.move rfl) ?_
  refine LW.pure rfl rfl (RV.move rfl) ?_
  refine LW.go rfl rfl (OW.buildSlice (e := 3) (vs := [.int .i64 a1, .int .i64 a2]) (cs := [.int .i64 a1, .int .i64 a2]) rfl (fun _ => by kernel_rfl) fun b2 w2 N2 => ?_)
  replace H := H.made' (k := 1) (t := 3) (enc := encN) (l := ([a1, a2] : List Int)) N2 N2.blk (fun _ => rfl) rfl (by first | decide | omega | (simp; done) | (simp; omega))
  replace R0 := H.ext
  refine LW.go rfl rfl (OW.call Tc58 (evs_cast rfl (by first | rfl | (simp; done) | (simp; omega))) (core_layers_ok (a0 := a0) (a1 := ([a1, a2] : List Int)) (h_a0_bounds.ext R0) (H.own 0 rfl).sl hr2) ?_)
  rintro _ w3 ⟨rfl, E1⟩
  refine ⟨_, rfl, ?_⟩
  replace H := H.grow E1
  replace R0 := H.ext
  refine LW.pure rfl rfl (RV.assign rfl) ?_
  refine LW.nil (hK3 _ _ ?_)
  refine CW.seq fun K4 hK4 => ?_
  refine CW.region ?_
  refine LW.pure rfl rfl (RV.move rfl) ?_
  refine LW.pure rfl rfl (RV.nei rfl rfl) ?_
  refine LW.nil (hK4 _ _ ?_)
  by_cases hp1 : r2 = 0
  ·
    replace F := ite_y hp1 F
    have hq1 := dec_t hp1
    refine CW.condF rfl (not_f hq1) ?_
    refine CW.skip (hK2 _ _ ?_)
    refine CW.seq fun K5 hK5 => ?_
    obtain ⟨r1, hr1, F⟩ := bnd_some F
    refine CW.region ?_
    refine LW.pure rfl rfl (RV.loadA [.int .i64 a0.layers, .slice A_a0_bounds a0.bounds.length c_a0_bounds] Tk24 rfl (H.blk 1 rfl).cells rfl rfl) ?_
    refine LW.go rfl rfl (OW.call Tc60 rfl (core_tables_ok (a0 := a0) (h_a0_bounds.ext R0) hr1) ?_)
    rintro _ w4 ⟨A8_0, c8_0, hs8_0, rfl, E2⟩
    refine ⟨_, rfl, ?_⟩
    replace H : Hp w w4 [.tab A8_0 c8_0 76 hs8_0 75 2 (encM encTight r1.1), .own (some ⟨b2, 0, none⟩) ((([a1, a2] : List Int)).length) 3 1 (List.map encN (([a1, a2] : List Int))), .blk b1 24 [.int .i64 a0.layers, .slice A_a0_bounds a0.bounds.length c_a0_bounds]] := H.append E2
    replace R0 := H.ext
    refine LW.pure rfl rfl (RV.move rfl) ?_
    refine LW.pure rfl rfl (RV.extract rfl rfl) ?_
    refine LW.pure rfl rfl (RV.extract rfl rfl) ?_
    refine LW.pure rfl rfl (RV.assign rfl) ?_
    refine LW.pure rfl rfl (RV.assign rfl) ?_
    refine LW.nil (hK5 _ _ ?_)
    refine CW.seq fun K6 hK6 => ?_
    refine CW.seqJ (fun ρ wl1 => (∃ (t33_1 : Bool), core_Fixed_k1 a1 a2 r1 t33_1 = some res ∧ ρ = [(1, .int .i64 a1), (2, .int .i64 a2), (6, .int .i64 0), (7, .bool false), (8, .int .i64 0), (10, .slice A8_0 r1.1.length c8_0), (11, .int .i64 r1.2), (33, .bool t33_1)] ∧ Hp w wl1 [.tab A8_0 c8_0 76 hs8_0 75 2 (encM encTight r1.1)])) ?_ ?_
    ·
      rintro _ wl1 ⟨t33_1, F, rfl, H⟩
      have R0 := H.ext
      unfold core_Fixed_k1 at F
      by_cases hp2 : t33_1 = true
      ·
        replace F := ite_y hp2 F
        have hq2 : t33_1 = true := hp2
        refine CW.condT rfl hq2 ?_
        refine CW.seq fun K7 hK7 => ?_
        refine CW.region ?_
        refine LW.pure rfl rfl (RV.move rfl) ?_
        refine LW.pure rfl rfl (RV.assign rfl) ?_
        refine LW.pure rfl rfl (RV.assign rfl) ?_
        refine LW.pure rfl rfl (RV.assign rfl) ?_
        refine LW.nil (hK7 _ _ ?_)
        refine CW.ret ?_
        obtain rfl := Option.some.inj F
        refine ⟨_, (ResOK.three rfl rfl rfl), ?_⟩
        refine ⟨(by first | rfl | simp), R0⟩
      ·
        replace F := ite_n hp2 F
        have hq2 : t33_1 = false := raw_f hp2
        refine CW.condF rfl hq2 ?_
        refine CW.skip (hK6 _ _ ?_)
        refine CW.seq fun K8 hK8 => ?_
        obtain ⟨x1, hbx1, hx1, F⟩ := ix_some F
        obtain ⟨x2, hbx2, hx2, F⟩ := ix_some F
        refine CW.region ?_
        refine LW.pure rfl rfl (RV.move rfl) ?_
        refine LW.pure rfl rfl (RV.move rfl) ?_
        obtain ⟨B1, e1, hh1⟩ := (H.tab 0 rfl).hd hx1
        refine LW.pure rfl rfl (RV.indexAddr Ts69 rfl rfl hbx1 ((H.tab 0 rfl).addr_ hx1)) ?_
        refine LW.pure rfl rfl (RV.load1 Tk76 rfl ((H.tab 0 rfl).cell hx1 hh1) rfl) ?_
        refine LW.pure rfl rfl (RV.move rfl) ?_
        refine LW.pure rfl rfl (RV.indexAddr Ts76 rfl rfl hbx2 (((H.tab 0 rfl).rowO hx1 hh1).sl.addr_ hx2)) ?_
        refine LW.pure rfl rfl (RV.fieldAddr Tf75_1 rfl) ?_
        refine LW.pure rfl rfl (RV.load1 Tk3 rfl ((((H.tab 0 rfl).rowO hx1 hh1).sl.at_ hx2).off 1) rfl) ?_
        refine LW.pure rfl rfl (RV.assign rfl) ?_
        refine LW.pure rfl rfl (RV.assign rfl) ?_
        refine LW.pure rfl rfl (RV.assign rfl) ?_
        refine LW.nil (hK8 _ _ ?_)
        refine CW.ret ?_
        obtain rfl := Option.some.inj F
        refine ⟨_, (ResOK.three rfl rfl rfl), ?_⟩
        refine ⟨(by first | rfl | simp), R0⟩
    ·
      intro K9 hK9 jK19
      by_cases hp3 : r1.2 = 0
      ·
        replace F := ite_y hp3 F
        have hq3 := dec_t hp3
        obtain ⟨r3, hr3, F⟩ := bnd_some F
        refine CW.region ?_
        refine LW.pure rfl rfl (RV.move rfl) ?_
        refine LW.pure rfl rfl (RV.nei rfl rfl) ?_
        refine LW.pure rfl rfl (RV.move rfl) ?_
        refine LW.pureYB rfl rfl rfl rfl (not_f hq3) (RV.move rfl) ?_
        refine LW.pureYB rfl rfl rfl rfl (not_f hq3) (RV.move rfl) ?_
        refine LW.pureYB rfl rfl rfl rfl (not_f hq3) (RV.move rfl) ?_
        refine LW.yesB rfl rfl rfl rfl (not_f hq3) (OW.call Tc66 rfl (core_fixed_ok (a0 := r1.1) (a1 := a1) (a2 := a2) (H.tab 0 rfl).sl2 hr3) ?_)
        rintro _ w5 ⟨rfl, E3⟩
        refine ⟨_, rfl, ?_⟩
        replace H := H.grow E3
        replace R0 := H.ext
        refine LW.pureYB rfl rfl rfl rfl (not_f hq3) (RV.not rfl) ?_
        refine LW.pure rfl rfl (RV.pickFB rfl (not_f hq3) rfl) ?_
        replace H := H.pick (L' := [.tab A8_0 c8_0 76 hs8_0 75 2 (encM encTight r1.1)]) [0] (by decide) rfl
        replace R0 := H.ext
        refine LW.nil (jK19 _ _ ⟨_, ?_, ⟨(!r3), F, rfl, H⟩⟩)
        exact ⟨rfl, rfl, rfl, rfl, rfl, (look_slice rfl (by first | rfl | (simp; done) | omega | (simp; omega))), rfl, rfl, trivial⟩
      ·
        replace F := ite_n hp3 F
        have hq3 := dec_f hp3
        refine CW.region ?_
        refine LW.pure rfl rfl (RV.move rfl) ?_
        refine LW.pure rfl rfl (RV.nei rfl rfl) ?_
        refine LW.pure rfl rfl (RV.move rfl) ?_
        refine LW.noB rfl rfl rfl rfl (ne_beq (v := true) (not_t hq3) rfl) ?_
        refine LW.noB rfl rfl rfl rfl (ne_beq (v := true) (not_t hq3) rfl) ?_
        refine LW.noB rfl rfl rfl rfl (ne_beq (v := true) (not_t hq3) rfl) ?_
        refine LW.noB rfl rfl rfl rfl (ne_beq (v := true) (not_t hq3) rfl) ?_
        refine LW.noB rfl rfl rfl rfl (ne_beq (v := true) (not_t hq3) rfl) ?_
        refine LW.pure rfl rfl (RV.pickTB rfl (not_t hq3) rfl) ?_
        replace H := H.pick (L' := [.tab A8_0 c8_0 76 hs8_0 75 2 (encM encTight r1.1)]) [0] (by decide) rfl
        replace R0 := H.ext
        refine LW.nil (jK19 _ _ ⟨_, ?_, ⟨true, F, rfl, H⟩⟩)
        exact ⟨rfl, rfl, rfl, rfl, rfl, (look_slice rfl (by first | rfl | (simp; done) | omega | (simp; omega))), rfl, rfl, trivial⟩
  ·
    replace F := ite_n hp1 F
    have hq1 := dec_f hp1
    refine CW.condT rfl (not_t hq1) ?_
    refine CW.seq fun K10 hK10 => ?_
    refine CW.region ?_
    refine LW.pure rfl rfl (RV.move rfl) ?_
    refine LW.pure rfl rfl (RV.assign rfl) ?_
    refine LW.pure rfl rfl (RV.assign rfl) ?_
    refine LW.pure rfl rfl (RV.assign rfl) ?_
    refine LW.nil (hK10 _ _ ?_)
    refine CW.ret ?_
    obtain rfl := Option.some.inj F
    refine ⟨_, (ResOK.three rfl rfl rfl), ?_⟩
    refine ⟨(by first | rfl | simp), R0⟩
set_option maxRecDepth 20000 in
set_option maxHeartbeats 1000000 in
theorem core_Follows_ok {a0 : Core} {a1 : Bound} {A_a0_bounds : Option Addr} {c_a0_bounds : Nat} {w : World} {res : Bool × Int} (h_a0_bounds : Sl w A_a0_bounds c_a0_bounds 3 (a0.bounds.map encBound)) (F : core_Follows a0 a1 = some res) : Calls Try.prog 19 #[.agg #[.int .i64 a0.layers, .slice A_a0_bounds a0.bounds.length c_a0_bounds], .agg #[.int .i64 a1.a, .int .i64 a1.b, .int .i64 a1.most]] w (Rt w (.tuple #[.bool res.1, .int .i64 res.2])) := by
  refine calls_of_cw (args := [.agg #[.int .i64 a0.layers, .slice A_a0_bounds a0.bounds.length c_a0_bounds], .agg #[.int .i64 a1.a, .int .i64 a1.b, .int .i64 a1.most]]) Try.func19 rfl rfl rfl rfl ?_
  have H := Hp.start w
  have R0 := H.ext
  unfold core_Follows at F
  refine CW.seq fun K1 hK1 => ?_
  refine CW.region ?_
  refine LW.go rfl rfl (OW.box rfl fun b1 w1 N1 => ?_)
  replace H := H.new N1 N1.blk
  replace R0 := H.ext
  refine LW.go rfl rfl (OW.box rfl fun b2 w2 N2 => ?_)
  replace H := H.new N2 N2.blk
  replace R0 := H.ext
  refine LW.pure rfl rfl (RV.assign rfl) ?_
  refine LW.pure rfl rfl (RV.assign rfl) ?_
  refine LW.nil (hK1 _ _ ?_)
  refine CW.seq fun K2 hK2 => ?_
  refine CW.seq fun K3 hK3 => ?_
  obtain ⟨r1, hr1, F⟩ := bnd_some F
  refine CW.region ?_
  refine LW.pure rfl rfl (RV.loadA [.int .i64 a0.layers, .slice A_a0_bounds a0.bounds.length c_a0_bounds] Tk24 rfl (H.blk 1 rfl).cells rfl rfl) ?_
  refine LW.pure rfl rfl (RV.fieldAddr Tf26_0 rfl) ?_
  refine LW.pure rfl rfl (RV.load1 Tk3 rfl ((H.blk 0 rfl).cells.off 0) rfl) ?_
  refine LW.pure rfl rfl (RV.fieldAddr Tf26_1 rfl) ?_
  refine LW.pure rfl rfl (RV.load1 Tk3 rfl ((H.blk 0 rfl).cells.off 1) rfl) ?_
  refine LW.go rfl rfl (OW.buildSlice (e := 3) (vs := [.int .i64 a1.a, .int .i64 a1.b]) (cs := [.int .i64 a1.a, .int .i64 a1.b]) rfl (fun _ => by kernel_rfl) fun b3 w3 N3 => ?_)
  replace H := H.made' (k := 1) (t := 3) (enc := encN) (l := ([a1.a, a1.b] : List Int)) N3 N3.blk (fun _ => rfl) rfl (by first | decide | omega | (simp; done) | (simp; omega))
  replace R0 := H.ext
  refine LW.go rfl rfl (OW.call Tc58 (evs_cast rfl (by first | rfl | (simp; done) | (simp; omega))) (core_layers_ok (a0 := a0) (a1 := ([a1.a, a1.b] : List Int)) (h_a0_bounds.ext R0) (H.own 0 rfl).sl hr1) ?_)
  rintro _ w4 ⟨rfl, E1⟩
  refine ⟨_, rfl, ?_⟩
  replace H := H.grow E1
  replace R0 := H.ext
  refine LW.pure rfl rfl (RV.assign rfl) ?_
  refine LW.nil (hK3 _ _ ?_)
  refine CW.seq fun K4 hK4 => ?_
  refine CW.region ?_
  refine LW.pure rfl rfl (RV.move rfl) ?_
  refine LW.pure rfl rfl (RV.nei rfl rfl) ?_
  refine LW.nil (hK4 _ _ ?_)
  by_cases hp1 : r1 = 0
  ·
    replace F := ite_y hp1 F
    have hq1 := dec_t hp1
    refine CW.condF rfl (not_f hq1) ?_
    refine CW.skip (hK2 _ _ ?_)
    refine CW.seq fun K5 hK5 => ?_
    refine CW.seq fun K6 hK6 => ?_
    obtain ⟨r2, hr2, F⟩ := bnd_some F
    refine CW.region ?_
    refine LW.pure rfl rfl (RV.loadA [.int .i64 a1.a, .int .i64 a1.b, .int .i64 a1.most] Tk26 rfl (H.blk 1 rfl).cells rfl rfl) ?_
    refine LW.pure rfl rfl (RV.fieldAddr Tf24_0 rfl) ?_
    refine LW.pure rfl rfl (RV.load1 Tk3 rfl ((H.blk 2 rfl).cells.off 0) rfl) ?_
    refine LW.go rfl rfl (OW.call Tc59 rfl (core_right_ok (a0 := a1) (a1 := a0.layers) hr2) ?_)
    rintro _ w5 ⟨rfl, E2⟩
    refine ⟨_, rfl, ?_⟩
    replace H := H.grow E2
    replace R0 := H.ext
    refine LW.pure rfl rfl (RV.not rfl) ?_
    refine LW.nil (hK6 _ _ ?_)
    by_cases hp2 : r2 = true
    ·
      replace F := ite_y hp2 F
      have hq2 : r2 = true := hp2
      refine CW.condF rfl (not_f hq2) ?_
      refine CW.skip (hK5 _ _ ?_)
      refine CW.seq fun K7 hK7 => ?_
      obtain ⟨r3, hr3, F⟩ := bnd_some F
      refine CW.region ?_
      refine LW.pure rfl rfl (RV.loadA [.int .i64 a0.layers, .slice A_a0_bounds a0.bounds.length c_a0_bounds] Tk24 rfl (H.blk 2 rfl).cells rfl rfl) ?_
      refine LW.go rfl rfl (OW.call Tc60 rfl (core_tables_ok (a0 := a0) (h_a0_bounds.ext R0) hr3) ?_)
      rintro _ w6 ⟨A10_0, c10_0, hs10_0, rfl, E3⟩
      refine ⟨_, rfl, ?_⟩
      replace H : Hp w w6 [.tab A10_0 c10_0 76 hs10_0 75 2 (encM encTight r3.1), .own (some ⟨b3, 0, none⟩) ((([a1.a, a1.b] : List Int)).length) 3 1 (List.map encN (([a1.a, a1.b] : List Int))), .blk b2 26 [.int .i64 a1.a, .int .i64 a1.b, .int .i64 a1.most], .blk b1 24 [.int .i64 a0.layers, .slice A_a0_bounds a0.bounds.length c_a0_bounds]] := H.append E3
      replace R0 := H.ext
      refine LW.pure rfl rfl (RV.move rfl) ?_
      refine LW.pure rfl rfl (RV.extract rfl rfl) ?_
      refine LW.pure rfl rfl (RV.extract rfl rfl) ?_
      refine LW.pure rfl rfl (RV.assign rfl) ?_
      refine LW.pure rfl rfl (RV.assign rfl) ?_
      refine LW.nil (hK7 _ _ ?_)
      refine CW.seq fun K8 hK8 => ?_
      by_cases hp3 : r3.2 = 0
      ·
        replace F := ite_y hp3 F
        have hq3 := dec_t hp3
        obtain ⟨r4, hr4, F⟩ := bnd_some F
        refine CW.region ?_
        refine LW.pure rfl rfl (RV.move rfl) ?_
        refine LW.pure rfl rfl (RV.eqi rfl rfl) ?_
        refine LW.pure rfl rfl (RV.move rfl) ?_
        refine LW.pureYB rfl rfl rfl rfl hq3 (RV.move rfl) ?_
        refine LW.pureYB rfl rfl rfl rfl hq3 (RV.loadA [.int .i64 a1.a, .int .i64 a1.b, .int .i64 a1.most] Tk26 rfl (H.blk 2 rfl).cells rfl rfl) ?_
        refine LW.yesB rfl rfl rfl rfl hq3 (OW.call Tc61 rfl (core_follows_ok (a0 := r3.1) (a1 := a1) (H.tab 0 rfl).sl2 hr4) ?_)
        rintro _ w7 ⟨rfl, E4⟩
        refine ⟨_, rfl, ?_⟩
        replace H := H.grow E4
        replace R0 := H.ext
        refine LW.pure rfl rfl (RV.pickTB rfl hq3 rfl) ?_
        refine LW.pure rfl rfl (RV.move rfl) ?_
        refine LW.pure rfl rfl (RV.assign rfl) ?_
        refine LW.pure rfl rfl (RV.assign rfl) ?_
        refine LW.nil (hK8 _ _ ?_)
        refine CW.ret ?_
        obtain rfl := Option.some.inj F
        refine ⟨_, (ResOK.two rfl rfl), ?_⟩
        refine ⟨(by first | rfl | simp), R0⟩
      ·
        replace F := ite_n hp3 F
        have hq3 := dec_f hp3
        refine CW.region ?_
        refine LW.pure rfl rfl (RV.move rfl) ?_
        refine LW.pure rfl rfl (RV.eqi rfl rfl) ?_
        refine LW.pure rfl rfl (RV.move rfl) ?_
        refine LW.noB rfl rfl rfl rfl (ne_beq (v := false) hq3 rfl) ?_
        refine LW.noB rfl rfl rfl rfl (ne_beq (v := false) hq3 rfl) ?_
        refine LW.noB rfl rfl rfl rfl (ne_beq (v := false) hq3 rfl) ?_
        refine LW.pure rfl rfl (RV.pickFB rfl hq3 rfl) ?_
        refine LW.pure rfl rfl (RV.move rfl) ?_
        refine LW.pure rfl rfl (RV.assign rfl) ?_
        refine LW.pure rfl rfl (RV.assign rfl) ?_
        refine LW.nil (hK8 _ _ ?_)
        refine CW.ret ?_
        obtain rfl := Option.some.inj F
        refine ⟨_, (ResOK.two rfl rfl), ?_⟩
        refine ⟨(by first | rfl | simp), R0⟩
    ·
      replace F := ite_n hp2 F
      have hq2 : r2 = false := raw_f hp2
      refine CW.condT rfl (not_t hq2) ?_
      refine CW.seq fun K9 hK9 => ?_
      refine CW.region ?_
      refine LW.pure rfl rfl (RV.assign rfl) ?_
      refine LW.pure rfl rfl (RV.assign rfl) ?_
      refine LW.nil (hK9 _ _ ?_)
      refine CW.ret ?_
      obtain rfl := Option.some.inj F
      refine ⟨_, (ResOK.two rfl rfl), ?_⟩
      refine ⟨(by first | rfl | simp), R0⟩
  ·
    replace F := ite_n hp1 F
    have hq1 := dec_f hp1
    refine CW.condT rfl (not_t hq1) ?_
    refine CW.seq fun K10 hK10 => ?_
    refine CW.region ?_
    refine LW.pure rfl rfl (RV.move rfl) ?_
    refine LW.pure rfl rfl (RV.assign rfl) ?_
    refine LW.pure rfl rfl (RV.assign rfl) ?_
    refine LW.nil (hK10 _ _ ?_)
    refine CW.ret ?_
    obtain rfl := Option.some.inj F
    refine ⟨_, (ResOK.two rfl rfl), ?_⟩
    refine ⟨(by first | rfl | simp), R0⟩
set_option maxRecDepth 20000 in
set_option maxHeartbeats 1000000 in
theorem top_TopDates_ok {a0 : Core} {a1 : List Int} {a2 : Bound} {A_a0_bounds : Option Addr} {c_a0_bounds : Nat} {A_a1 : Option Addr} {c_a1 : Nat} {w : World} {res : Bool} (h_a0_bounds : Sl w A_a0_bounds c_a0_bounds 3 (a0.bounds.map encBound)) (h_a1 : Sl w A_a1 c_a1 1 (a1.map encN)) (F : top_TopDates a0 a1 a2 = some res) : Calls Try.prog 16 #[.agg #[.int .i64 a0.layers, .slice A_a0_bounds a0.bounds.length c_a0_bounds], .slice A_a1 a1.length c_a1, .agg #[.int .i64 a2.a, .int .i64 a2.b, .int .i64 a2.most]] w (Rt w (.bool res)) := by
  refine calls_of_cw (args := [.agg #[.int .i64 a0.layers, .slice A_a0_bounds a0.bounds.length c_a0_bounds], .slice A_a1 a1.length c_a1, .agg #[.int .i64 a2.a, .int .i64 a2.b, .int .i64 a2.most]]) Try.func16 rfl rfl rfl rfl ?_
  have H := Hp.start w
  have R0 := H.ext
  unfold top_TopDates at F
  refine CW.seq fun K1 hK1 => ?_
  refine CW.region ?_
  refine LW.go rfl rfl (OW.box rfl fun b1 w1 N1 => ?_)
  replace H := H.new N1 N1.blk
  replace R0 := H.ext
  refine LW.go rfl rfl (OW.box rfl fun b2 w2 N2 => ?_)
  replace H := H.new N2 N2.blk
  replace R0 := H.ext
  refine LW.pure rfl rfl (RV.assign rfl) ?_
  refine LW.nil (hK1 _ _ ?_)
  refine CW.seq fun K2 hK2 => ?_
  refine CW.seq fun K3 hK3 => ?_
  obtain ⟨r14, hr14, F⟩ := bnd_some F
  refine CW.region ?_
  refine LW.pure rfl rfl (RV.build (vs := [.int .i64 0, .int .i64 1, .int .i64 7]) (cs := [.int .i64 0, .int .i64 1, .int .i64 7]) rfl (fun _ => by kernel_rfl)) ?_
  refine LW.pure rfl rfl (RV.build (vs := [.int .i64 1, .int .i64 0, .int .i64 (-7)]) (cs := [.int .i64 1, .int .i64 0, .int .i64 (-7)]) rfl (fun _ => by kernel_rfl)) ?_
  refine LW.go rfl rfl (OW.buildSlice (e := 26) (vs := [.agg #[.int .i64 0, .int .i64 1, .int .i64 7], .agg #[.int .i64 1, .int .i64 0, .int .i64 (-7)]]) (cs := [.int .i64 0, .int .i64 1, .int .i64 7, .int .i64 1, .int .i64 0, .int .i64 (-7)]) rfl (fun _ => by kernel_rfl) fun b3 w3 N3 => ?_)
  replace H := H.made' (k := 3) (t := 26) (enc := encBound) (l := ([(⟨0, 1, 7⟩ : Bound), (⟨1, 0, -7⟩ : Bound)] : List Bound)) N3 N3.blk (fun _ => rfl) rfl (by first | decide | omega | (simp; done) | (simp; omega))
  replace R0 := H.ext
  refine LW.pure rfl rfl (RV.build (vs := [.int .i64 2, .slice (some ⟨b3, 0, none⟩) 2 ((([(⟨0, 1, 7⟩ : Bound), (⟨1, 0, -7⟩ : Bound)] : List Bound)).length)]) (cs := [.int .i64 2, .slice (some ⟨b3, 0, none⟩) 2 ((([(⟨0, 1, 7⟩ : Bound), (⟨1, 0, -7⟩ : Bound)] : List Bound)).length)]) rfl (fun _ => by kernel_rfl)) ?_
  refine LW.go rfl rfl (OW.call Tc23 (evs_cast rfl (by first | rfl | (simp; done) | (simp; omega))) (core_Fixed_ok (a0 := (⟨2, ([(⟨0, 1, 7⟩ : Bound), (⟨1, 0, -7⟩ : Bound)] : List Bound)⟩ : Core)) (a1 := (0 : Int)) (a2 := (1 : Int)) (H.own 0 rfl).sl hr14) ?_)
  rintro _ w4 ⟨rfl, E1⟩
  refine ⟨_, rfl, ?_⟩
  replace H := H.grow E1
  replace R0 := H.ext
  refine LW.pure rfl rfl (RV.move rfl) ?_
  refine LW.pure rfl rfl (RV.extract rfl rfl) ?_
  refine LW.pure rfl rfl (RV.extract rfl rfl) ?_
  refine LW.pure rfl rfl (RV.extract rfl rfl) ?_
  refine LW.pure rfl rfl (RV.assign rfl) ?_
  refine LW.pure rfl rfl (RV.assign rfl) ?_
  refine LW.pure rfl rfl (RV.assign rfl) ?_
  refine LW.nil (hK3 _ _ ?_)
  refine CW.seqJ (fun ρ wl1 => (∃ (t43_1 : Bool), top_TopDates_k11 a0 a1 a2 t43_1 = some res ∧ ρ = [(1, .slice A_a1 a1.length c_a1), (3, .pointer (some (⟨b1, 0, none⟩))), (5, .pointer (some (⟨b2, 0, none⟩))), (6, .bool false), (43, .bool t43_1)] ∧ Hp w wl1 [.blk b1 24 [.int .i64 a0.layers, .slice A_a0_bounds a0.bounds.length c_a0_bounds], .blk b2 26 [.int .i64 a2.a, .int .i64 a2.b, .int .i64 a2.most]])) ?_ ?_
  ·
    rintro _ wl1 ⟨t43_1, F, rfl, H⟩
    have R0 := H.ext
    unfold top_TopDates_k11 at F
    by_cases hp1 : t43_1 = true
    ·
      replace F := ite_y hp1 F
      have hq1 : t43_1 = true := hp1
      refine CW.condT rfl hq1 ?_
      refine CW.seq fun K4 hK4 => ?_
      refine CW.region ?_
      refine LW.pure rfl rfl (RV.assign rfl) ?_
      refine LW.nil (hK4 _ _ ?_)
      refine CW.ret ?_
      obtain rfl := Option.some.inj F
      refine ⟨_, (ResOK.one rfl), ?_⟩
      refine ⟨(by first | rfl | simp), R0⟩
    ·
      replace F := ite_n hp1 F
      have hq1 : t43_1 = false := raw_f hp1
      refine CW.condF rfl hq1 ?_
      refine CW.skip (hK2 _ _ ?_)
      refine CW.seq fun K5 hK5 => ?_
      refine CW.seqJ (fun ρ wl2 => (∃ (t50_1 : Bool), top_TopDates_k10 a0 a1 a2 t50_1 = some res ∧ ρ = [(1, .slice A_a1 a1.length c_a1), (3, .pointer (some (⟨b1, 0, none⟩))), (5, .pointer (some (⟨b2, 0, none⟩))), (6, .bool false), (50, .bool t50_1)] ∧ Hp w wl2 [.blk b1 24 [.int .i64 a0.layers, .slice A_a0_bounds a0.bounds.length c_a0_bounds], .blk b2 26 [.int .i64 a2.a, .int .i64 a2.b, .int .i64 a2.most]])) ?_ ?_
      ·
        rintro _ wl2 ⟨t50_1, F, rfl, H⟩
        have R0 := H.ext
        unfold top_TopDates_k10 at F
        by_cases hp2 : t50_1 = true
        ·
          replace F := ite_y hp2 F
          have hq2 : t50_1 = true := hp2
          refine CW.condT rfl hq2 ?_
          refine CW.seq fun K6 hK6 => ?_
          refine CW.region ?_
          refine LW.pure rfl rfl (RV.assign rfl) ?_
          refine LW.nil (hK6 _ _ ?_)
          refine CW.ret ?_
          obtain rfl := Option.some.inj F
          refine ⟨_, (ResOK.one rfl), ?_⟩
          refine ⟨(by first | rfl | simp), R0⟩
        ·
          replace F := ite_n hp2 F
          have hq2 : t50_1 = false := raw_f hp2
          refine CW.condF rfl hq2 ?_
          refine CW.skip (hK5 _ _ ?_)
          refine CW.seq fun K7 hK7 => ?_
          obtain ⟨r8, hr8, F⟩ := bnd_some F
          refine CW.region ?_
          refine LW.pure rfl rfl (RV.loadA [.int .i64 a0.layers, .slice A_a0_bounds a0.bounds.length c_a0_bounds] Tk24 rfl (H.blk 0 rfl).cells rfl rfl) ?_
          refine LW.go rfl rfl (OW.call Tc39 rfl (core_Dates_ok (a0 := a0) (h_a0_bounds.ext R0) hr8) ?_)
          rintro _ w5 ⟨A24_0, c24_0, rfl, E2⟩
          refine ⟨_, rfl, ?_⟩
          replace H : Hp w w5 [.own A24_0 c24_0 3 1 (List.map encN r8.1), .blk b1 24 [.int .i64 a0.layers, .slice A_a0_bounds a0.bounds.length c_a0_bounds], .blk b2 26 [.int .i64 a2.a, .int .i64 a2.b, .int .i64 a2.most]] := H.append E2
          replace R0 := H.ext
          refine LW.pure rfl rfl (RV.move rfl) ?_
          refine LW.pure rfl rfl (RV.extract rfl rfl) ?_
          refine LW.pure rfl rfl (RV.extract rfl rfl) ?_
          refine LW.pure rfl rfl (RV.extract rfl rfl) ?_
          refine LW.pure rfl rfl (RV.assign rfl) ?_
          refine LW.pure rfl rfl (RV.assign rfl) ?_
          refine LW.pure rfl rfl (RV.assign rfl) ?_
          refine LW.nil (hK7 _ _ ?_)
          refine CW.seq fun K8 hK8 => ?_
          obtain ⟨r9, hr9, F⟩ := bnd_some F
          refine CW.region ?_
          refine LW.pure rfl rfl (RV.loadA [.int .i64 a0.layers, .slice A_a0_bounds a0.bounds.length c_a0_bounds] Tk24 rfl (H.blk 1 rfl).cells rfl rfl) ?_
          refine LW.go rfl rfl (OW.call Tc42 rfl (core_Clash_ok (a0 := a0) (h_a0_bounds.ext R0) hr9) ?_)
          rintro _ w6 ⟨A26_0, c26_0, rfl, E3⟩
          refine ⟨_, rfl, ?_⟩
          replace H : Hp w w6 [.own A26_0 c26_0 3 1 (List.map encN r9.1), .own A24_0 c24_0 3 1 (List.map encN r8.1), .blk b1 24 [.int .i64 a0.layers, .slice A_a0_bounds a0.bounds.length c_a0_bounds], .blk b2 26 [.int .i64 a2.a, .int .i64 a2.b, .int .i64 a2.most]] := H.append E3
          replace R0 := H.ext
          refine LW.pure rfl rfl (RV.move rfl) ?_
          refine LW.pure rfl rfl (RV.extract rfl rfl) ?_
          refine LW.pure rfl rfl (RV.extract rfl rfl) ?_
          refine LW.pure rfl rfl (RV.extract rfl rfl) ?_
          refine LW.pure rfl rfl (RV.assign rfl) ?_
          refine LW.pure rfl rfl (RV.assign rfl) ?_
          refine LW.pure rfl rfl (RV.assign rfl) ?_
          refine LW.nil (hK8 _ _ ?_)
          refine CW.seq fun K9 hK9 => ?_
          refine CW.seqJ (fun ρ wl3 => (∃ (t68_1 : Bool), top_TopDates_k9 a0 a1 a2 r8 r9 t68_1 = some res ∧ ρ = [(1, .slice A_a1 a1.length c_a1), (3, .pointer (some (⟨b1, 0, none⟩))), (5, .pointer (some (⟨b2, 0, none⟩))), (6, .bool false), (10, .slice A24_0 r8.1.length c24_0), (11, .bool r8.2.1), (12, .int .i64 r8.2.2), (13, .slice A26_0 r9.1.length c26_0), (14, .bool r9.2.1), (15, .int .i64 r9.2.2), (68, .bool t68_1)] ∧ Hp w wl3 [.own A24_0 c24_0 3 1 (List.map encN r8.1), .own A26_0 c26_0 3 1 (List.map encN r9.1), .blk b1 24 [.int .i64 a0.layers, .slice A_a0_bounds a0.bounds.length c_a0_bounds], .blk b2 26 [.int .i64 a2.a, .int .i64 a2.b, .int .i64 a2.most]])) ?_ ?_
          ·
            rintro _ wl3 ⟨t68_1, F, rfl, H⟩
            have R0 := H.ext
            unfold top_TopDates_k9 at F
            by_cases hp3 : t68_1 = true
            ·
              replace F := ite_y hp3 F
              have hq3 : t68_1 = true := hp3
              refine CW.condT rfl hq3 ?_
              refine CW.seq fun K10 hK10 => ?_
              refine CW.region ?_
              refine LW.pure rfl rfl (RV.move rfl) ?_
              refine LW.pure rfl rfl (RV.move rfl) ?_
              refine LW.pure rfl rfl (RV.eqi rfl rfl) ?_
              refine LW.pure rfl rfl (RV.assign rfl) ?_
              refine LW.nil (hK10 _ _ ?_)
              refine CW.ret ?_
              obtain rfl := Option.some.inj F
              refine ⟨_, (ResOK.one rfl), ?_⟩
              refine ⟨(by first | rfl | simp), R0⟩
            ·
              replace F := ite_n hp3 F
              have hq3 : t68_1 = false := raw_f hp3
              refine CW.condF rfl hq3 ?_
              refine CW.skip (hK9 _ _ ?_)
              refine CW.seq fun K11 hK11 => ?_
              refine CW.seqJ (fun ρ wl4 => (∃ (t92_1 : Bool), top_TopDates_k8 a0 a1 a2 r8 t92_1 = some res ∧ ρ = [(1, .slice A_a1 a1.length c_a1), (3, .pointer (some (⟨b1, 0, none⟩))), (5, .pointer (some (⟨b2, 0, none⟩))), (6, .bool false), (11, .bool r8.2.1), (92, .bool t92_1)] ∧ Hp w wl4 [.blk b1 24 [.int .i64 a0.layers, .slice A_a0_bounds a0.bounds.length c_a0_bounds], .blk b2 26 [.int .i64 a2.a, .int .i64 a2.b, .int .i64 a2.most]])) ?_ ?_
              ·
                rintro _ wl4 ⟨t92_1, F, rfl, H⟩
                have R0 := H.ext
                unfold top_TopDates_k8 at F
                by_cases hp4 : t92_1 = true
                ·
                  replace F := ite_y hp4 F
                  have hq4 : t92_1 = true := hp4
                  refine CW.condT rfl hq4 ?_
                  refine CW.seq fun K12 hK12 => ?_
                  refine CW.region ?_
                  refine LW.pure rfl rfl (RV.assign rfl) ?_
                  refine LW.nil (hK12 _ _ ?_)
                  refine CW.ret ?_
                  obtain rfl := Option.some.inj F
                  refine ⟨_, (ResOK.one rfl), ?_⟩
                  refine ⟨(by first | rfl | simp), R0⟩
                ·
                  replace F := ite_n hp4 F
                  have hq4 : t92_1 = false := raw_f hp4
                  refine CW.condF rfl hq4 ?_
                  refine CW.skip (hK11 _ _ ?_)
                  refine CW.seq fun K13 hK13 => ?_
                  obtain ⟨r7, hr7, F⟩ := bnd_some F
                  refine CW.region ?_
                  refine LW.pure rfl rfl (RV.loadA [.int .i64 a0.layers, .slice A_a0_bounds a0.bounds.length c_a0_bounds] Tk24 rfl (H.blk 0 rfl).cells rfl rfl) ?_
                  refine LW.go rfl rfl (OW.call Tc49 rfl (core_Plain_ok (a0 := a0) (h_a0_bounds.ext R0) hr7) ?_)
                  rintro _ w7 ⟨A31_0, c31_0, rfl, E4⟩
                  refine ⟨_, rfl, ?_⟩
                  replace H : Hp w w7 [.own A31_0 c31_0 26 3 (List.map encBound r7.1), .blk b1 24 [.int .i64 a0.layers, .slice A_a0_bounds a0.bounds.length c_a0_bounds], .blk b2 26 [.int .i64 a2.a, .int .i64 a2.b, .int .i64 a2.most]] := H.append E4
                  replace R0 := H.ext
                  refine LW.pure rfl rfl (RV.move rfl) ?_
                  refine LW.pure rfl rfl (RV.extract rfl rfl) ?_
                  refine LW.pure rfl rfl (RV.extract rfl rfl) ?_
                  refine LW.pure rfl rfl (RV.assign rfl) ?_
                  refine LW.pure rfl rfl (RV.assign rfl) ?_
                  refine LW.nil (hK13 _ _ ?_)
                  refine CW.seq fun K14 hK14 => ?_
                  refine CW.seq fun K15 hK15 => ?_
                  refine CW.region ?_
                  refine LW.pure rfl rfl (RV.move rfl) ?_
                  refine LW.pure rfl rfl (RV.not rfl) ?_
                  refine LW.nil (hK15 _ _ ?_)
                  by_cases hp5 : r8.2.1 = true
                  ·
                    replace F := ite_y hp5 F
                    have hq5 : r8.2.1 = true := hp5
                    refine CW.condF rfl (not_f hq5) ?_
                    refine CW.skip (hK14 _ _ ?_)
                    refine CW.seq fun K16 hK16 => ?_
                    refine CW.seq fun K17 hK17 => ?_
                    refine CW.region ?_
                    refine LW.pure rfl rfl (RV.move rfl) ?_
                    refine LW.pure rfl rfl (RV.nei rfl rfl) ?_
                    refine LW.nil (hK17 _ _ ?_)
                    by_cases hp6 : r7.2 = 0
                    ·
                      replace F := ite_y hp6 F
                      have hq6 := dec_t hp6
                      refine CW.condF rfl (not_f hq6) ?_
                      refine CW.skip (hK16 _ _ ?_)
                      refine CW.seqJ (fun ρ wl5 => (top_TopDates_k3 a0 a2 = some res ∧ ρ = [(3, .pointer (some (⟨b1, 0, none⟩))), (5, .pointer (some (⟨b2, 0, none⟩))), (6, .bool false)] ∧ Hp w wl5 [.blk b1 24 [.int .i64 a0.layers, .slice A_a0_bounds a0.bounds.length c_a0_bounds], .blk b2 26 [.int .i64 a2.a, .int .i64 a2.b, .int .i64 a2.most]])) ?_ ?_
                      ·
                        rintro _ wl5 ⟨F, rfl, H⟩
                        have R0 := H.ext
                        unfold top_TopDates_k3 at F
                        refine CW.seq fun K18 hK18 => ?_
                        obtain ⟨r4, hr4, F⟩ := bnd_some F
                        refine CW.region ?_
                        refine LW.pure rfl rfl (RV.loadA [.int .i64 a0.layers, .slice A_a0_bounds a0.bounds.length c_a0_bounds] Tk24 rfl (H.blk 0 rfl).cells rfl rfl) ?_
                        refine LW.go rfl rfl (OW.call Tc56 rfl (core_Reduce_ok (a0 := a0) (h_a0_bounds.ext R0) hr4) ?_)
                        rintro _ w8 ⟨A34_0_bounds, c34_0_bounds, rfl, E5⟩
                        refine ⟨_, rfl, ?_⟩
                        replace H : Hp w w8 [.own A34_0_bounds c34_0_bounds 26 3 (List.map encBound r4.1.bounds), .blk b1 24 [.int .i64 a0.layers, .slice A_a0_bounds a0.bounds.length c_a0_bounds], .blk b2 26 [.int .i64 a2.a, .int .i64 a2.b, .int .i64 a2.most]] := H.append E5
                        replace R0 := H.ext
                        refine LW.pure rfl rfl (RV.move rfl) ?_
                        refine LW.pure rfl rfl (RV.extract rfl rfl) ?_
                        refine LW.pure rfl rfl (RV.extract rfl rfl) ?_
                        refine LW.go rfl rfl (OW.alloc Tz24 fun b4 w9 N4 => ?_)
                        replace H := H.new N4 N4.blk
                        replace R0 := H.ext
                        refine LW.go rfl rfl (OW.store Tk24 rfl rfl (H.blk 0 rfl) (off := 0) (vs := [.int .i64 r4.1.layers, .slice A34_0_bounds r4.1.bounds.length c34_0_bounds]) rfl rfl rfl rfl rfl fun w10 S1 => ?_)
                        replace H : Hp w w10 [.blk b4 24 [.int .i64 r4.1.layers, .slice A34_0_bounds r4.1.bounds.length c34_0_bounds], .own A34_0_bounds c34_0_bounds 26 3 (List.map encBound r4.1.bounds), .blk b1 24 [.int .i64 a0.layers, .slice A_a0_bounds a0.bounds.length c_a0_bounds], .blk b2 26 [.int .i64 a2.a, .int .i64 a2.b, .int .i64 a2.most]] := H.stored 0 rfl S1
                        replace R0 := H.ext
                        refine LW.pure rfl rfl (RV.assign rfl) ?_
                        refine LW.nil (hK18 _ _ ?_)
                        refine CW.seq fun K19 hK19 => ?_
                        obtain ⟨r5, hr5, F⟩ := bnd_some F
                        refine CW.region ?_
                        refine LW.pure rfl rfl (RV.loadA [.int .i64 r4.1.layers, .slice A34_0_bounds r4.1.bounds.length c34_0_bounds] Tk24 rfl (H.blk 0 rfl).cells rfl rfl) ?_
                        refine LW.pure rfl rfl (RV.loadA [.int .i64 a0.layers, .slice A_a0_bounds a0.bounds.length c_a0_bounds] Tk24 rfl (H.blk 2 rfl).cells rfl rfl) ?_
                        refine LW.go rfl rfl (OW.call Tc53 rfl (core_Same_ok (a0 := r4.1) (a1 := a0) (H.own 1 rfl).sl (h_a0_bounds.ext R0) hr5) ?_)
                        rintro _ w11 ⟨rfl, E6⟩
                        refine ⟨_, rfl, ?_⟩
                        replace H := H.grow E6
                        replace R0 := H.ext
                        refine LW.pure rfl rfl (RV.move rfl) ?_
                        refine LW.pure rfl rfl (RV.extract rfl rfl) ?_
                        refine LW.pure rfl rfl (RV.extract rfl rfl) ?_
                        refine LW.pure rfl rfl (RV.assign rfl) ?_
                        refine LW.pure rfl rfl (RV.assign rfl) ?_
                        refine LW.nil (hK19 _ _ ?_)
                        refine CW.seq fun K20 hK20 => ?_
                        refine CW.seqJ (fun ρ wl6 => (∃ (t212_1 : Bool), top_TopDates_k2 a0 a2 t212_1 = some res ∧ ρ = [(3, .pointer (some (⟨b1, 0, none⟩))), (5, .pointer (some (⟨b2, 0, none⟩))), (6, .bool false), (212, .bool t212_1)] ∧ Hp w wl6 [.blk b1 24 [.int .i64 a0.layers, .slice A_a0_bounds a0.bounds.length c_a0_bounds], .blk b2 26 [.int .i64 a2.a, .int .i64 a2.b, .int .i64 a2.most]])) ?_ ?_
                        ·
                          rintro _ wl6 ⟨t212_1, F, rfl, H⟩
                          have R0 := H.ext
                          unfold top_TopDates_k2 at F
                          by_cases hp7 : t212_1 = true
                          ·
                            replace F := ite_y hp7 F
                            have hq7 : t212_1 = true := hp7
                            refine CW.condT rfl hq7 ?_
                            refine CW.seq fun K21 hK21 => ?_
                            refine CW.region ?_
                            refine LW.pure rfl rfl (RV.assign rfl) ?_
                            refine LW.nil (hK21 _ _ ?_)
                            refine CW.ret ?_
                            obtain rfl := Option.some.inj F
                            refine ⟨_, (ResOK.one rfl), ?_⟩
                            refine ⟨(by first | rfl | simp), R0⟩
                          ·
                            replace F := ite_n hp7 F
                            have hq7 : t212_1 = false := raw_f hp7
                            refine CW.condF rfl hq7 ?_
                            refine CW.skip (hK20 _ _ ?_)
                            refine CW.seq fun K22 hK22 => ?_
                            obtain ⟨r1, hr1, F⟩ := bnd_some F
                            refine CW.region ?_
                            refine LW.pure rfl rfl (RV.loadA [.int .i64 a0.layers, .slice A_a0_bounds a0.bounds.length c_a0_bounds] Tk24 rfl (H.blk 0 rfl).cells rfl rfl) ?_
                            refine LW.pure rfl rfl (RV.loadA [.int .i64 a2.a, .int .i64 a2.b, .int .i64 a2.most] Tk26 rfl (H.blk 1 rfl).cells rfl rfl) ?_
                            refine LW.go rfl rfl (OW.call Tc19 rfl (core_Follows_ok (a0 := a0) (a1 := a2) (h_a0_bounds.ext R0) hr1) ?_)
                            rintro _ w12 ⟨rfl, E7⟩
                            refine ⟨_, rfl, ?_⟩
                            replace H := H.grow E7
                            replace R0 := H.ext
                            refine LW.pure rfl rfl (RV.move rfl) ?_
                            refine LW.pure rfl rfl (RV.extract rfl rfl) ?_
                            refine LW.pure rfl rfl (RV.extract rfl rfl) ?_
                            refine LW.pure rfl rfl (RV.assign rfl) ?_
                            refine LW.pure rfl rfl (RV.assign rfl) ?_
                            refine LW.nil (hK22 _ _ ?_)
                            refine CW.seq fun K23 hK23 => ?_
                            refine CW.seqJ (fun ρ wl7 => (∃ (t225_1 : Bool), top_TopDates_k1 a0 a2 r1 t225_1 = some res ∧ ρ = [(3, .pointer (some (⟨b1, 0, none⟩))), (5, .pointer (some (⟨b2, 0, none⟩))), (6, .bool false), (22, .bool r1.1), (225, .bool t225_1)] ∧ Hp w wl7 [.blk b1 24 [.int .i64 a0.layers, .slice A_a0_bounds a0.bounds.length c_a0_bounds], .blk b2 26 [.int .i64 a2.a, .int .i64 a2.b, .int .i64 a2.most]])) ?_ ?_
                            ·
                              rintro _ wl7 ⟨t225_1, F, rfl, H⟩
                              have R0 := H.ext
                              unfold top_TopDates_k1 at F
                              by_cases hp8 : t225_1 = true
                              ·
                                replace F := ite_y hp8 F
                                have hq8 : t225_1 = true := hp8
                                refine CW.condT rfl hq8 ?_
                                refine CW.seq fun K24 hK24 => ?_
                                refine CW.region ?_
                                refine LW.pure rfl rfl (RV.assign rfl) ?_
                                refine LW.nil (hK24 _ _ ?_)
                                refine CW.ret ?_
                                obtain rfl := Option.some.inj F
                                refine ⟨_, (ResOK.one rfl), ?_⟩
                                refine ⟨(by first | rfl | simp), R0⟩
                              ·
                                replace F := ite_n hp8 F
                                have hq8 : t225_1 = false := raw_f hp8
                                refine CW.condF rfl hq8 ?_
                                refine CW.skip (hK23 _ _ ?_)
                                refine CW.seq fun K25 hK25 => ?_
                                obtain ⟨hg1, F⟩ := gd_some F
                                obtain ⟨hg2, F⟩ := gd_some F
                                obtain ⟨r2, hr2, F⟩ := bnd_some F
                                refine CW.region ?_
                                refine LW.pure rfl rfl (RV.loadA [.int .i64 a0.layers, .slice A_a0_bounds a0.bounds.length c_a0_bounds] Tk24 rfl (H.blk 0 rfl).cells rfl rfl) ?_
                                refine LW.pure rfl rfl (RV.fieldAddr Tf24_0 rfl) ?_
                                refine LW.pure rfl rfl (RV.load1 Tk3 rfl ((H.blk 0 rfl).cells.off 0) rfl) ?_
                                refine LW.pure rfl rfl (RV.fieldAddr Tf26_1 rfl) ?_
                                refine LW.pure rfl rfl (RV.load1 Tk3 rfl ((H.blk 1 rfl).cells.off 1) rfl) ?_
                                refine LW.pure rfl rfl (RV.fieldAddr Tf26_0 rfl) ?_
                                refine LW.pure rfl rfl (RV.load1 Tk3 rfl ((H.blk 1 rfl).cells.off 0) rfl) ?_
                                refine LW.pure rfl rfl (RV.fieldAddr Tf26_2 rfl) ?_
                                refine LW.pure rfl rfl (RV.load1 Tk3 rfl ((H.blk 1 rfl).cells.off 2) rfl) ?_
                                refine LW.pure rfl rfl (RV.neg rfl hg1) ?_
                                refine LW.pure rfl rfl (RV.sub rfl rfl hg2) ?_
                                refine LW.pure rfl rfl (RV.build (vs := [.int .i64 a2.b, .int .i64 a2.a, .int .i64 ((-a2.most) - 1)]) (cs := [.int .i64 a2.b, .int .i64 a2.a, .int .i64 ((-a2.most) - 1)]) rfl (fun _ => by kernel_rfl)) ?_
                                refine LW.go rfl rfl (OW.buildSlice (e := 26) (vs := [.agg #[.int .i64 a2.b, .int .i64 a2.a, .int .i64 ((-a2.most) - 1)]]) (cs := [.int .i64 a2.b, .int .i64 a2.a, .int .i64 ((-a2.most) - 1)]) rfl (fun _ => by kernel_rfl) fun b5 w13 N5 => ?_)
                                replace H := H.made' (k := 3) (t := 26) (enc := encBound) (l := ([(⟨a2.b, a2.a, (-a2.most) - 1⟩ : Bound)] : List Bound)) N5 N5.blk (fun _ => rfl) rfl (by first | decide | omega | (simp; done) | (simp; omega))
                                replace R0 := H.ext
                                refine LW.pure rfl rfl (RV.build (vs := [.int .i64 a0.layers, .slice (some ⟨b5, 0, none⟩) 1 ((([(⟨a2.b, a2.a, (-a2.most) - 1⟩ : Bound)] : List Bound)).length)]) (cs := [.int .i64 a0.layers, .slice (some ⟨b5, 0, none⟩) 1 ((([(⟨a2.b, a2.a, (-a2.most) - 1⟩ : Bound)] : List Bound)).length)]) rfl (fun _ => by kernel_rfl)) ?_
                                refine LW.go rfl rfl (OW.call Tc45 (evs_cast rfl (by first | rfl | (simp; done) | (simp; omega))) (core_Both_ok (a0 := a0) (a1 := (⟨a0.layers, ([(⟨a2.b, a2.a, (-a2.most) - 1⟩ : Bound)] : List Bound)⟩ : Core)) (h_a0_bounds.ext R0) (H.own 0 rfl).sl hr2) ?_)
                                rintro _ w14 ⟨A40_0_bounds, c40_0_bounds, rfl, E8⟩
                                refine ⟨_, rfl, ?_⟩
                                replace H : Hp w w14 [.own A40_0_bounds c40_0_bounds 26 3 (List.map encBound r2.1.bounds), .own (some ⟨b5, 0, none⟩) ((([(⟨a2.b, a2.a, (-a2.most) - 1⟩ : Bound)] : List Bound)).length) 26 3 (List.map encBound (([(⟨a2.b, a2.a, (-a2.most) - 1⟩ : Bound)] : List Bound))), .blk b1 24 [.int .i64 a0.layers, .slice A_a0_bounds a0.bounds.length c_a0_bounds], .blk b2 26 [.int .i64 a2.a, .int .i64 a2.b, .int .i64 a2.most]] := H.append E8
                                replace R0 := H.ext
                                refine LW.pure rfl rfl (RV.move rfl) ?_
                                refine LW.pure rfl rfl (RV.extract rfl rfl) ?_
                                refine LW.pure rfl rfl (RV.extract rfl rfl) ?_
                                refine LW.go rfl rfl (OW.alloc Tz24 fun b6 w15 N6 => ?_)
                                replace H := H.new N6 N6.blk
                                replace R0 := H.ext
                                refine LW.go rfl rfl (OW.store Tk24 rfl rfl (H.blk 0 rfl) (off := 0) (vs := [.int .i64 r2.1.layers, .slice A40_0_bounds r2.1.bounds.length c40_0_bounds]) rfl rfl rfl rfl rfl fun w16 S2 => ?_)
                                replace H : Hp w w16 [.blk b6 24 [.int .i64 r2.1.layers, .slice A40_0_bounds r2.1.bounds.length c40_0_bounds], .own A40_0_bounds c40_0_bounds 26 3 (List.map encBound r2.1.bounds), .own (some ⟨b5, 0, none⟩) ((([(⟨a2.b, a2.a, (-a2.most) - 1⟩ : Bound)] : List Bound)).length) 26 3 (List.map encBound (([(⟨a2.b, a2.a, (-a2.most) - 1⟩ : Bound)] : List Bound))), .blk b1 24 [.int .i64 a0.layers, .slice A_a0_bounds a0.bounds.length c_a0_bounds], .blk b2 26 [.int .i64 a2.a, .int .i64 a2.b, .int .i64 a2.most]] := H.stored 0 rfl S2
                                replace R0 := H.ext
                                refine LW.pure rfl rfl (RV.assign rfl) ?_
                                refine LW.nil (hK25 _ _ ?_)
                                refine CW.seq fun K26 hK26 => ?_
                                refine CW.seq fun K27 hK27 => ?_
                                refine CW.region ?_
                                refine LW.pure rfl rfl (RV.move rfl) ?_
                                refine LW.pure rfl rfl (RV.nei rfl rfl) ?_
                                refine LW.nil (hK27 _ _ ?_)
                                by_cases hp9 : r2.2 = 0
                                ·
                                  replace F := ite_y hp9 F
                                  have hq9 := dec_t hp9
                                  refine CW.condF rfl (not_f hq9) ?_
                                  refine CW.skip (hK26 _ _ ?_)
                                  refine CW.seq fun K28 hK28 => ?_
                                  obtain ⟨r3, hr3, F⟩ := bnd_some F
                                  refine CW.region ?_
                                  refine LW.pure rfl rfl (RV.loadA [.int .i64 r2.1.layers, .slice A40_0_bounds r2.1.bounds.length c40_0_bounds] Tk24 rfl (H.blk 0 rfl).cells rfl rfl) ?_
                                  refine LW.go rfl rfl (OW.call Tc34 rfl (core_IsPossible_ok (a0 := r2.1) (H.own 1 rfl).sl hr3) ?_)
                                  rintro _ w17 ⟨rfl, E9⟩
                                  refine ⟨_, rfl, ?_⟩
                                  replace H := H.grow E9
                                  replace R0 := H.ext
                                  refine LW.pure rfl rfl (RV.move rfl) ?_
                                  refine LW.pure rfl rfl (RV.extract rfl rfl) ?_
                                  refine LW.pure rfl rfl (RV.extract rfl rfl) ?_
                                  refine LW.pure rfl rfl (RV.assign rfl) ?_
                                  refine LW.pure rfl rfl (RV.assign rfl) ?_
                                  refine LW.nil (hK28 _ _ ?_)
                                  refine CW.seq fun K29 hK29 => ?_
                                  by_cases hp10 : r3.2 = 0
                                  ·
                                    replace F := ite_y hp10 F
                                    have hq10 := dec_t hp10
                                    refine CW.region ?_
                                    refine LW.pure rfl rfl (RV.move rfl) ?_
                                    refine LW.pure rfl rfl (RV.eqi rfl rfl) ?_
                                    refine LW.pure rfl rfl (RV.move rfl) ?_
                                    refine LW.pureYB rfl rfl rfl rfl hq10 (RV.move rfl) ?_
                                    refine LW.pureYB rfl rfl rfl rfl hq10 (RV.move rfl) ?_
                                    refine LW.pureYB rfl rfl rfl rfl hq10 (RV.not rfl) ?_
                                    refine LW.pureYB rfl rfl rfl rfl hq10 (RV.eqb Tb4 rfl rfl) ?_
                                    refine LW.pure rfl rfl (RV.pickTB rfl hq10 rfl) ?_
                                    refine LW.pure rfl rfl (RV.assign rfl) ?_
                                    refine LW.nil (hK29 _ _ ?_)
                                    refine CW.ret ?_
                                    obtain rfl := Option.some.inj F
                                    refine ⟨_, (ResOK.one rfl), ?_⟩
                                    refine ⟨(by first | rfl | simp), R0⟩
                                  ·
                                    replace F := ite_n hp10 F
                                    have hq10 := dec_f hp10
                                    refine CW.region ?_
                                    refine LW.pure rfl rfl (RV.move rfl) ?_
                                    refine LW.pure rfl rfl (RV.eqi rfl rfl) ?_
                                    refine LW.pure rfl rfl (RV.move rfl) ?_
                                    refine LW.noB rfl rfl rfl rfl (ne_beq (v := false) hq10 rfl) ?_
                                    refine LW.noB rfl rfl rfl rfl (ne_beq (v := false) hq10 rfl) ?_
                                    refine LW.noB rfl rfl rfl rfl (ne_beq (v := false) hq10 rfl) ?_
                                    refine LW.noB rfl rfl rfl rfl (ne_beq (v := false) hq10 rfl) ?_
                                    refine LW.pure rfl rfl (RV.pickFB rfl hq10 rfl) ?_
                                    refine LW.pure rfl rfl (RV.assign rfl) ?_
                                    refine LW.nil (hK29 _ _ ?_)
                                    refine CW.ret ?_
                                    obtain rfl := Option.some.inj F
                                    refine ⟨_, (ResOK.one rfl), ?_⟩
                                    refine ⟨(by first | rfl | simp), R0⟩
                                ·
                                  replace F := ite_n hp9 F
                                  have hq9 := dec_f hp9
                                  refine CW.condT rfl (not_t hq9) ?_
                                  refine CW.seq fun K30 hK30 => ?_
                                  refine CW.region ?_
                                  refine LW.pure rfl rfl (RV.assign rfl) ?_
                                  refine LW.nil (hK30 _ _ ?_)
                                  refine CW.ret ?_
                                  obtain rfl := Option.some.inj F
                                  refine ⟨_, (ResOK.one rfl), ?_⟩
                                  refine ⟨(by first | rfl | simp), R0⟩
                            ·
                              intro K31 hK31 jK256
                              by_cases hp11 : r1.2 = 0
                              ·
                                replace F := ite_y hp11 F
                                have hq11 := dec_t hp11
                                refine CW.region ?_
                                refine LW.pure rfl rfl (RV.move rfl) ?_
                                refine LW.pure rfl rfl (RV.nei rfl rfl) ?_
                                refine LW.pure rfl rfl (RV.move rfl) ?_
                                refine LW.pureYB rfl rfl rfl rfl (not_f hq11) (RV.fieldAddr Tf26_2 rfl) ?_
                                refine LW.pureYB rfl rfl rfl rfl (not_f hq11) (RV.load1 Tk3 rfl ((H.blk 1 rfl).cells.off 2) rfl) ?_
                                refine LW.pureYB rfl rfl rfl rfl (not_f hq11) (RV.eqi rfl rfl) ?_
                                refine LW.pure rfl rfl (RV.pickFB rfl (not_f hq11) rfl) ?_
                                refine LW.nil (jK256 _ _ ⟨_, ?_, ⟨(decide (a2.most = 10000)), F, rfl, H⟩⟩)
                                exact ⟨rfl, rfl, rfl, rfl, rfl, trivial⟩
                              ·
                                replace F := ite_n hp11 F
                                have hq11 := dec_f hp11
                                refine CW.region ?_
                                refine LW.pure rfl rfl (RV.move rfl) ?_
                                refine LW.pure rfl rfl (RV.nei rfl rfl) ?_
                                refine LW.pure rfl rfl (RV.move rfl) ?_
                                refine LW.noB rfl rfl rfl rfl (ne_beq (v := true) (not_t hq11) rfl) ?_
                                refine LW.noB rfl rfl rfl rfl (ne_beq (v := true) (not_t hq11) rfl) ?_
                                refine LW.noB rfl rfl rfl rfl (ne_beq (v := true) (not_t hq11) rfl) ?_
                                refine LW.pure rfl rfl (RV.pickTB rfl (not_t hq11) rfl) ?_
                                refine LW.nil (jK256 _ _ ⟨_, ?_, ⟨true, F, rfl, H⟩⟩)
                                exact ⟨rfl, rfl, rfl, rfl, rfl, trivial⟩
                        ·
                          intro K32 hK32 jK257
                          by_cases hp12 : r4.2 = 0
                          ·
                            replace F := ite_y hp12 F
                            have hq12 := dec_t hp12
                            by_cases hp13 : r5.2 = 0
                            ·
                              replace F := ite_y hp13 F
                              have hq13 := dec_t hp13
                              by_cases hp14 : r5.1 = true
                              ·
                                replace F := ite_y hp14 F
                                have hq14 : r5.1 = true := hp14
                                refine CW.region ?_
                                refine LW.pure rfl rfl (RV.move rfl) ?_
                                refine LW.pure rfl rfl (RV.nei rfl rfl) ?_
                                refine LW.pure rfl rfl (RV.move rfl) ?_
                                refine LW.pureYB rfl rfl rfl rfl (not_f hq12) (RV.move rfl) ?_
                                refine LW.pureYB rfl rfl rfl rfl (not_f hq12) (RV.nei rfl rfl) ?_
                                refine LW.pure rfl rfl (RV.pickFB rfl (not_f hq12) rfl) ?_
                                refine LW.pure rfl rfl (RV.move rfl) ?_
                                refine LW.pureYB rfl rfl rfl rfl (not_f hq13) (RV.move rfl) ?_
                                refine LW.pureYB rfl rfl rfl rfl (not_f hq13) (RV.not rfl) ?_
                                refine LW.pure rfl rfl (RV.pickFB rfl (not_f hq13) rfl) ?_
                                refine LW.pure rfl rfl (RV.move rfl) ?_
                                refine LW.pureYB rfl rfl rfl rfl (not_f hq14) (RV.fieldAddr Tf24_1 rfl) ?_
                                refine LW.pureYB rfl rfl rfl rfl (not_f hq14) (RV.load1 Tk22 rfl ((H.blk 0 rfl).cells.off 1) rfl) ?_
                                refine LW.pureYB rfl rfl rfl rfl (not_f hq14) (RV.len Ts22 rfl) ?_
                                refine LW.pureYB rfl rfl rfl rfl (not_f hq14) (RV.fieldAddr Tf24_1 rfl) ?_
                                refine LW.pureYB rfl rfl rfl rfl (not_f hq14) (RV.load1 Tk22 rfl ((H.blk 2 rfl).cells.off 1) rfl) ?_
                                refine LW.pureYB rfl rfl rfl rfl (not_f hq14) (RV.len Ts22 rfl) ?_
                                refine LW.pureYB rfl rfl rfl rfl (not_f hq14) (RV.gtr rfl rfl) ?_
                                refine LW.pure rfl rfl (RV.pickFB rfl (not_f hq14) rfl) ?_
                                replace H := H.pick (L' := [.blk b1 24 [.int .i64 a0.layers, .slice A_a0_bounds a0.bounds.length c_a0_bounds], .blk b2 26 [.int .i64 a2.a, .int .i64 a2.b, .int .i64 a2.most]]) [2, 3] (by decide) rfl
                                replace R0 := H.ext
                                refine LW.nil (jK257 _ _ ⟨_, ?_, ⟨(decide (((a0.bounds.length : Int)) < ((r4.1.bounds.length : Int)))), F, rfl, H⟩⟩)
                                exact ⟨rfl, rfl, rfl, rfl, trivial⟩
                              ·
                                replace F := ite_n hp14 F
                                have hq14 : r5.1 = false := raw_f hp14
                                refine CW.region ?_
                                refine LW.pure rfl rfl (RV.move rfl) ?_
                                refine LW.pure rfl rfl (RV.nei rfl rfl) ?_
                                refine LW.pure rfl rfl (RV.move rfl) ?_
                                refine LW.pureYB rfl rfl rfl rfl (not_f hq12) (RV.move rfl) ?_
                                refine LW.pureYB rfl rfl rfl rfl (not_f hq12) (RV.nei rfl rfl) ?_
                                refine LW.pure rfl rfl (RV.pickFB rfl (not_f hq12) rfl) ?_
                                refine LW.pure rfl rfl (RV.move rfl) ?_
                                refine LW.pureYB rfl rfl rfl rfl (not_f hq13) (RV.move rfl) ?_
                                refine LW.pureYB rfl rfl rfl rfl (not_f hq13) (RV.not rfl) ?_
                                refine LW.pure rfl rfl (RV.pickFB rfl (not_f hq13) rfl) ?_
                                refine LW.pure rfl rfl (RV.move rfl) ?_
                                refine LW.noB rfl rfl rfl rfl (ne_beq (v := true) (not_t hq14) rfl) ?_
                                refine LW.noB rfl rfl rfl rfl (ne_beq (v := true) (not_t hq14) rfl) ?_
                                refine LW.noB rfl rfl rfl rfl (ne_beq (v := true) (not_t hq14) rfl) ?_
                                refine LW.noB rfl rfl rfl rfl (ne_beq (v := true) (not_t hq14) rfl) ?_
                                refine LW.noB rfl rfl rfl rfl (ne_beq (v := true) (not_t hq14) rfl) ?_
                                refine LW.noB rfl rfl rfl rfl (ne_beq (v := true) (not_t hq14) rfl) ?_
                                refine LW.noB rfl rfl rfl rfl (ne_beq (v := true) (not_t hq14) rfl) ?_
                                refine LW.pure rfl rfl (RV.pickTB rfl (not_t hq14) rfl) ?_
                                replace H := H.pick (L' := [.blk b1 24 [.int .i64 a0.layers, .slice A_a0_bounds a0.bounds.length c_a0_bounds], .blk b2 26 [.int .i64 a2.a, .int .i64 a2.b, .int .i64 a2.most]]) [2, 3] (by decide) rfl
                                replace R0 := H.ext
                                refine LW.nil (jK257 _ _ ⟨_, ?_, ⟨true, F, rfl, H⟩⟩)
                                exact ⟨rfl, rfl, rfl, rfl, trivial⟩
                            ·
                              replace F := ite_n hp13 F
                              have hq13 := dec_f hp13
                              refine CW.region ?_
                              refine LW.pure rfl rfl (RV.move rfl) ?_
                              refine LW.pure rfl rfl (RV.nei rfl rfl) ?_
                              refine LW.pure rfl rfl (RV.move rfl) ?_
                              refine LW.pureYB rfl rfl rfl rfl (not_f hq12) (RV.move rfl) ?_
                              refine LW.pureYB rfl rfl rfl rfl (not_f hq12) (RV.nei rfl rfl) ?_
                              refine LW.pure rfl rfl (RV.pickFB rfl (not_f hq12) rfl) ?_
                              refine LW.pure rfl rfl (RV.move rfl) ?_
                              refine LW.noB rfl rfl rfl rfl (ne_beq (v := true) (not_t hq13) rfl) ?_
                              refine LW.noB rfl rfl rfl rfl (ne_beq (v := true) (not_t hq13) rfl) ?_
                              refine LW.pure rfl rfl (RV.pickTB rfl (not_t hq13) rfl) ?_
                              refine LW.pure rfl rfl (RV.move rfl) ?_
                              refine LW.noB rfl rfl rfl rfl (ne_beq (v := true) rfl rfl) ?_
                              refine LW.noB rfl rfl rfl rfl (ne_beq (v := true) rfl rfl) ?_
                              refine LW.noB rfl rfl rfl rfl (ne_beq (v := true) rfl rfl) ?_
                              refine LW.noB rfl rfl rfl rfl (ne_beq (v := true) rfl rfl) ?_
                              refine LW.noB rfl rfl rfl rfl (ne_beq (v := true) rfl rfl) ?_
                              refine LW.noB rfl rfl rfl rfl (ne_beq (v := true) rfl rfl) ?_
                              refine LW.noB rfl rfl rfl rfl (ne_beq (v := true) rfl rfl) ?_
                              refine LW.pure rfl rfl (RV.pickTB rfl rfl rfl) ?_
                              replace H := H.pick (L' := [.blk b1 24 [.int .i64 a0.layers, .slice A_a0_bounds a0.bounds.length c_a0_bounds], .blk b2 26 [.int .i64 a2.a, .int .i64 a2.b, .int .i64 a2.most]]) [2, 3] (by decide) rfl
                              replace R0 := H.ext
                              refine LW.nil (jK257 _ _ ⟨_, ?_, ⟨true, F, rfl, H⟩⟩)
                              exact ⟨rfl, rfl, rfl, rfl, trivial⟩
                          ·
                            replace F := ite_n hp12 F
                            have hq12 := dec_f hp12
                            refine CW.region ?_
                            refine LW.pure rfl rfl (RV.move rfl) ?_
                            refine LW.pure rfl rfl (RV.nei rfl rfl) ?_
                            refine LW.pure rfl rfl (RV.move rfl) ?_
                            refine LW.noB rfl rfl rfl rfl (ne_beq (v := true) (not_t hq12) rfl) ?_
                            refine LW.noB rfl rfl rfl rfl (ne_beq (v := true) (not_t hq12) rfl) ?_
                            refine LW.pure rfl rfl (RV.pickTB rfl (not_t hq12) rfl) ?_
                            refine LW.pure rfl rfl (RV.move rfl) ?_
                            refine LW.noB rfl rfl rfl rfl (ne_beq (v := true) rfl rfl) ?_
                            refine LW.noB rfl rfl rfl rfl (ne_beq (v := true) rfl rfl) ?_
                            refine LW.pure rfl rfl (RV.pickTB rfl rfl rfl) ?_
                            refine LW.pure rfl rfl (RV.move rfl) ?_
                            refine LW.noB rfl rfl rfl rfl (ne_beq (v := true) rfl rfl) ?_
                            refine LW.noB rfl rfl rfl rfl (ne_beq (v := true) rfl rfl) ?_
                            refine LW.noB rfl rfl rfl rfl (ne_beq (v := true) rfl rfl) ?_
                            refine LW.noB rfl rfl rfl rfl (ne_beq (v := true) rfl rfl) ?_
                            refine LW.noB rfl rfl rfl rfl (ne_beq (v := true) rfl rfl) ?_
                            refine LW.noB rfl rfl rfl rfl (ne_beq (v := true) rfl rfl) ?_
                            refine LW.noB rfl rfl rfl rfl (ne_beq (v := true) rfl rfl) ?_
                            refine LW.pure rfl rfl (RV.pickTB rfl rfl rfl) ?_
                            replace H := H.pick (L' := [.blk b1 24 [.int .i64 a0.layers, .slice A_a0_bounds a0.bounds.length c_a0_bounds], .blk b2 26 [.int .i64 a2.a, .int .i64 a2.b, .int .i64 a2.most]]) [2, 3] (by decide) rfl
                            replace R0 := H.ext
                            refine LW.nil (jK257 _ _ ⟨_, ?_, ⟨true, F, rfl, H⟩⟩)
                            exact ⟨rfl, rfl, rfl, rfl, trivial⟩
                      ·
                        intro K33 hK33 jK258
                        refine CW.seq fun K34 hK34 => ?_
                        obtain ⟨r6, hr6, F⟩ := bnd_some F
                        refine CW.region ?_
                        refine LW.pure rfl rfl (RV.loadA [.int .i64 a0.layers, .slice A_a0_bounds a0.bounds.length c_a0_bounds] Tk24 rfl (H.blk 1 rfl).cells rfl rfl) ?_
                        refine LW.pure rfl rfl (RV.move rfl) ?_
                        refine LW.go rfl rfl (OW.call Tc33 rfl (core_CheckDates_ok (a0 := a0) (a1 := a1) (h_a0_bounds.ext R0) (h_a1.ext R0) hr6) ?_)
                        rintro _ w18 ⟨rfl, E10⟩
                        refine ⟨_, rfl, ?_⟩
                        replace H := H.grow E10
                        replace R0 := H.ext
                        refine LW.pure rfl rfl (RV.assign rfl) ?_
                        refine LW.nil (hK34 _ _ ?_)
                        refine CW.seqJ (fun ρ wl8 => (∃ (t112_1 : Bool), top_TopDates_k7 a0 a1 a2 r7 r6 t112_1 = some res ∧ ρ = [(1, .slice A_a1 a1.length c_a1), (3, .pointer (some (⟨b1, 0, none⟩))), (5, .pointer (some (⟨b2, 0, none⟩))), (6, .bool false), (16, .slice A31_0 r7.1.length c31_0), (17, .int .i64 r6), (112, .bool t112_1)] ∧ Hp w wl8 [.own A31_0 c31_0 26 3 (List.map encBound r7.1), .blk b1 24 [.int .i64 a0.layers, .slice A_a0_bounds a0.bounds.length c_a0_bounds], .blk b2 26 [.int .i64 a2.a, .int .i64 a2.b, .int .i64 a2.most]])) ?_ ?_
                        ·
                          rintro _ wl8 ⟨t112_1, F, rfl, H⟩
                          have R0 := H.ext
                          unfold top_TopDates_k7 at F
                          by_cases hp15 : t112_1 = true
                          ·
                            replace F := ite_y hp15 F
                            have hq15 : t112_1 = true := hp15
                            refine CW.condT rfl hq15 ?_
                            refine CW.seq fun K35 hK35 => ?_
                            refine CW.region ?_
                            refine LW.pure rfl rfl (RV.assign rfl) ?_
                            refine LW.nil (hK35 _ _ ?_)
                            refine CW.seqJ (fun ρ wl9 => (∃ (t18_1 : Bool), top_TopDates_k4 a0 a2 r6 t18_1 = some res ∧ ρ = [(3, .pointer (some (⟨b1, 0, none⟩))), (5, .pointer (some (⟨b2, 0, none⟩))), (6, .bool false), (17, .int .i64 r6), (18, .bool t18_1)] ∧ Hp w wl9 [.blk b1 24 [.int .i64 a0.layers, .slice A_a0_bounds a0.bounds.length c_a0_bounds], .blk b2 26 [.int .i64 a2.a, .int .i64 a2.b, .int .i64 a2.most]])) ?_ ?_
                            ·
                              rintro _ wl9 ⟨t18_1, F, rfl, H⟩
                              have R0 := H.ext
                              unfold top_TopDates_k4 at F
                              refine CW.seq fun K36 hK36 => ?_
                              refine CW.region ?_
                              refine LW.pure rfl rfl (RV.move rfl) ?_
                              refine LW.pure rfl rfl (RV.move rfl) ?_
                              refine LW.pure rfl rfl (RV.eqi rfl rfl) ?_
                              refine LW.pure rfl rfl (RV.neb Tb4 rfl rfl) ?_
                              refine LW.nil (hK36 _ _ ?_)
                              by_cases hp16 : (t18_1 == (decide (r6 = 0))) = true
                              ·
                                replace F := ite_y hp16 F
                                have hq16 : (t18_1 == (decide (r6 = 0))) = true := hp16
                                refine CW.condF rfl (not_f hq16) ?_
                                refine CW.skip (jK258 _ _ ⟨_, ?_, ⟨F, rfl, H⟩⟩)
                                exact ⟨rfl, rfl, rfl, trivial⟩
                              ·
                                replace F := ite_n hp16 F
                                have hq16 : (t18_1 == (decide (r6 = 0))) = false := raw_f hp16
                                refine CW.condT rfl (not_t hq16) ?_
                                refine CW.seq fun K37 hK37 => ?_
                                refine CW.region ?_
                                refine LW.pure rfl rfl (RV.assign rfl) ?_
                                refine LW.nil (hK37 _ _ ?_)
                                refine CW.ret ?_
                                obtain rfl := Option.some.inj F
                                refine ⟨_, (ResOK.one rfl), ?_⟩
                                refine ⟨(by first | rfl | simp), R0⟩
                            ·
                              intro K38 hK38 jK291
                              refine CW.seq fun K39 hK39 => ?_
                              refine CW.region ?_
                              refine LW.pure rfl rfl (RV.assign rfl) ?_
                              refine LW.nil (hK39 _ _ ?_)
                              refine CW.block ?_
                              refine CW.loop (fun meas ρ wl10 => ∃ (t18_3 : Bool) (t19_1 : Int), top_TopDates_L1 a0 a1 a2 r7 r6 meas t18_3 t19_1 = some res ∧ ρ = [(1, .slice A_a1 a1.length c_a1), (3, .pointer (some (⟨b1, 0, none⟩))), (5, .pointer (some (⟨b2, 0, none⟩))), (6, .bool false), (16, .slice A31_0 r7.1.length c31_0), (17, .int .i64 r6), (18, .bool t18_3), (19, .int .i64 t19_1)] ∧ Hp w wl10 [.own A31_0 c31_0 26 3 (List.map encBound r7.1), .blk b1 24 [.int .i64 a0.layers, .slice A_a0_bounds a0.bounds.length c_a0_bounds], .blk b2 26 [.int .i64 a2.a, .int .i64 a2.b, .int .i64 a2.most]]) FU ⟨_, ?_, true, ((0 : Int)), F, rfl, H⟩ ?_
                              · exact ⟨rfl, rfl, rfl, rfl, (look_slice rfl (by first | rfl | (simp; done) | omega | (simp; omega))), rfl, rfl, rfl, trivial⟩
                              rintro mk1 _ wl10 ⟨t18_3, t19_1, F, rfl, H⟩
                              have R0 := H.ext
                              replace F := top_TopDates_L1_s F
                              obtain ⟨mk1, rfl, F⟩ := F
                              generalize hrec1 : top_TopDates_L1 a0 a1 a2 r7 r6 mk1 = rec1 at F
                              unfold top_TopDates_B1 at F
                              refine CW.seq fun K40 hK40 => ?_
                              refine CW.seq fun K41 hK41 => ?_
                              refine CW.region ?_
                              refine LW.pure rfl rfl (RV.move rfl) ?_
                              refine LW.pure rfl rfl (RV.move rfl) ?_
                              refine LW.pure rfl rfl (RV.len Ts22 rfl) ?_
                              refine LW.pure rfl rfl (RV.lss rfl rfl) ?_
                              refine LW.nil (hK41 _ _ ?_)
                              by_cases hp17 : t19_1 < ((r7.1.length : Int))
                              ·
                                replace F := ite_y hp17 F
                                have hq17 := dec_t hp17
                                refine CW.condT rfl hq17 ?_
                                refine CW.skip (hK40 _ _ ?_)
                                refine CW.seqJ (fun ρ wl11 => (∃ (t18_2 : Bool), top_TopDates_k5 t19_1 rec1 t18_2 = some res ∧ ρ = [(1, .slice A_a1 a1.length c_a1), (3, .pointer (some (⟨b1, 0, none⟩))), (5, .pointer (some (⟨b2, 0, none⟩))), (6, .bool false), (16, .slice A31_0 r7.1.length c31_0), (17, .int .i64 r6), (18, .bool t18_2), (19, .int .i64 t19_1)] ∧ Hp w wl11 [.own A31_0 c31_0 26 3 (List.map encBound r7.1), .blk b1 24 [.int .i64 a0.layers, .slice A_a0_bounds a0.bounds.length c_a0_bounds], .blk b2 26 [.int .i64 a2.a, .int .i64 a2.b, .int .i64 a2.most]])) ?_ ?_
                                ·
                                  rintro _ wl11 ⟨t18_2, F, rfl, H⟩
                                  have R0 := H.ext
                                  unfold top_TopDates_k5 at F
                                  obtain ⟨hg3, F⟩ := gd_some F
                                  refine CW.region ?_
                                  refine LW.pure rfl rfl (RV.move rfl) ?_
                                  refine LW.pure rfl rfl (RV.add rfl rfl hg3) ?_
                                  refine LW.pure rfl rfl (RV.assign rfl) ?_
                                  refine LW.nil ?_
                                  subst hrec1
                                  refine ⟨mk1, Nat.lt_succ_self _, _, ?_, t18_2, (t19_1 + 1), F, rfl, H⟩
                                  exact ⟨rfl, rfl, rfl, rfl, (look_slice rfl (by first | rfl | (simp; done) | omega | (simp; omega))), rfl, rfl, rfl, trivial⟩
                                ·
                                  intro K42 hK42 jK316
                                  refine CW.block ?_
                                  refine CW.seq fun K43 hK43 => ?_
                                  refine CW.seqJ (fun ρ wl12 => (∃ (t152_1 : Bool), top_TopDates_k6 a1 r7 t18_3 t19_1 rec1 t152_1 = some res ∧ ρ = [(1, .slice A_a1 a1.length c_a1), (3, .pointer (some (⟨b1, 0, none⟩))), (5, .pointer (some (⟨b2, 0, none⟩))), (6, .bool false), (16, .slice A31_0 r7.1.length c31_0), (17, .int .i64 r6), (18, .bool t18_3), (19, .int .i64 t19_1), (152, .bool t152_1)] ∧ Hp w wl12 [.own A31_0 c31_0 26 3 (List.map encBound r7.1), .blk b1 24 [.int .i64 a0.layers, .slice A_a0_bounds a0.bounds.length c_a0_bounds], .blk b2 26 [.int .i64 a2.a, .int .i64 a2.b, .int .i64 a2.most]])) ?_ ?_
                                  ·
                                    rintro _ wl12 ⟨t152_1, F, rfl, H⟩
                                    have R0 := H.ext
                                    unfold top_TopDates_k6 at F
                                    by_cases hp18 : t152_1 = true
                                    ·
                                      replace F := ite_y hp18 F
                                      have hq18 : t152_1 = true := hp18
                                      refine CW.condT rfl hq18 ?_
                                      refine CW.seq fun K44 hK44 => ?_
                                      refine CW.region ?_
                                      refine LW.pure rfl rfl (RV.assign rfl) ?_
                                      refine LW.nil (hK44 _ _ ?_)
                                      refine CW.ret ?_
                                      obtain rfl := Option.some.inj F
                                      refine ⟨_, (ResOK.one rfl), ?_⟩
                                      refine ⟨(by first | rfl | simp), R0⟩
                                    ·
                                      replace F := ite_n hp18 F
                                      have hq18 : t152_1 = false := raw_f hp18
                                      refine CW.condF rfl hq18 ?_
                                      refine CW.skip (hK43 _ _ ?_)
                                      by_cases hp19 : t18_3 = true
                                      ·
                                        replace F := ite_y hp19 F
                                        have hq19 : t18_3 = true := hp19
                                        obtain ⟨x1, hbx1, hx1, F⟩ := ix_some F
                                        obtain ⟨x2, hbx2, hx2, F⟩ := ix_some F
                                        obtain ⟨x3, hbx3, hx3, F⟩ := ix_some F
                                        obtain ⟨x4, hbx4, hx4, F⟩ := ix_some F
                                        obtain ⟨hg4, F⟩ := gd_some F
                                        obtain ⟨x5, hbx5, hx5, F⟩ := ix_some F
                                        refine CW.draw [] (fun _ => True) (.cons 0 1 (.cons 1 1 (.cons 2 1 (.cons 3 1 (.cons 4 1 (.cons 5 1 (.cons 6 1 (.cons 7 1 (.cons 8 1 (.cons 9 1 (.cons 10 1 (.cons 11 1 (.cons 12 1 (.cons 13 1 (.cons 14 1 (.cons 15 1 (.cons 16 1 (.cons 17 1 (.cons 18 1 (.cons 19 1 (.cons 20 1 (.cons 21 1 (.cons 22 1 (.cons 23 1 (.cons 24 1 (.cons 25 1 (.cons 26 1 .nil))))))))))))))))))))))))))) mixed (by kernel_rfl) fun w19 E11 => ?_
                                        replace H := H.grow E11
                                        replace R0 := H.ext
                                        refine DW.fix rfl rfl rfl (fun _ EQ => RV.move rfl) ?_
                                        refine DW.fix rfl rfl rfl (fun _ EQ => RV.move rfl) ?_
                                        refine DW.fixYB rfl rfl rfl rfl rfl hq19 (fun _ EQ => RV.move rfl) ?_
                                        refine DW.fixYB rfl rfl rfl rfl rfl hq19 (fun _ EQ => RV.move rfl) ?_
                                        refine DW.fixYB rfl rfl rfl rfl rfl hq19 (fun _ EQ => RV.move rfl) ?_
                                        refine DW.fixYB rfl rfl rfl rfl rfl hq19 (fun _ EQ => RV.indexAddr Ts22 rfl rfl hbx1 ((H.own 0 rfl).sl.addr_ hx1)) ?_
                                        refine DW.fixYB rfl rfl rfl rfl rfl hq19 (fun _ EQ => RV.fieldAddr Tf26_1 rfl) ?_
                                        refine DW.fixYB rfl rfl rfl rfl rfl hq19 (fun _ EQ => RV.load1 Tk3 rfl ((((H.grow EQ).own 0 rfl).sl.at_ hx1).off 1) rfl) ?_
                                        refine DW.fixYB rfl rfl rfl rfl rfl hq19 (fun _ EQ => RV.indexAddr Ts43 rfl rfl hbx2 (h_a1.addr_ hx2)) ?_
                                        refine DW.fixYB rfl rfl rfl rfl rfl hq19 (fun _ EQ => RV.load1 Tk3 rfl ((h_a1.at_ hx2).ext (R0.trans EQ)) rfl) ?_
                                        refine DW.fixYB rfl rfl rfl rfl rfl hq19 (fun _ EQ => RV.move rfl) ?_
                                        refine DW.fixYB rfl rfl rfl rfl rfl hq19 (fun _ EQ => RV.move rfl) ?_
                                        refine DW.fixYB rfl rfl rfl rfl rfl hq19 (fun _ EQ => RV.move rfl) ?_
                                        refine DW.fixYB rfl rfl rfl rfl rfl hq19 (fun _ EQ => RV.indexAddr Ts22 rfl rfl hbx3 ((H.own 0 rfl).sl.addr_ hx3)) ?_
                                        refine DW.fixYB rfl rfl rfl rfl rfl hq19 (fun _ EQ => RV.fieldAddr Tf26_0 rfl) ?_
                                        refine DW.fixYB rfl rfl rfl rfl rfl hq19 (fun _ EQ => RV.load1 Tk3 rfl ((((H.grow EQ).own 0 rfl).sl.at_ hx3).off 0) rfl) ?_
                                        refine DW.fixYB rfl rfl rfl rfl rfl hq19 (fun _ EQ => RV.indexAddr Ts43 rfl rfl hbx4 (h_a1.addr_ hx4)) ?_
                                        refine DW.fixYB rfl rfl rfl rfl rfl hq19 (fun _ EQ => RV.load1 Tk3 rfl ((h_a1.at_ hx4).ext (R0.trans EQ)) rfl) ?_
                                        refine DW.fixYB rfl rfl rfl rfl rfl hq19 (fun _ EQ => RV.sub rfl rfl hg4) ?_
                                        refine DW.fixYB rfl rfl rfl rfl rfl hq19 (fun _ EQ => RV.move rfl) ?_
                                        refine DW.fixYB rfl rfl rfl rfl rfl hq19 (fun _ EQ => RV.move rfl) ?_
                                        refine DW.fixYB rfl rfl rfl rfl rfl hq19 (fun _ EQ => RV.indexAddr Ts22 rfl rfl hbx5 ((H.own 0 rfl).sl.addr_ hx5)) ?_
                                        refine DW.fixYB rfl rfl rfl rfl rfl hq19 (fun _ EQ => RV.fieldAddr Tf26_2 rfl) ?_
                                        refine DW.fixYB rfl rfl rfl rfl rfl hq19 (fun _ EQ => RV.load1 Tk3 rfl ((((H.grow EQ).own 0 rfl).sl.at_ hx5).off 2) rfl) ?_
                                        refine DW.fixYB rfl rfl rfl rfl rfl hq19 (fun _ EQ => RV.leq rfl rfl) ?_
                                        refine DW.fix rfl rfl rfl (fun _ EQ => RV.pickTB rfl hq19 rfl) ?_
                                        refine DW.fix rfl rfl rfl (fun _ EQ => RV.assign rfl) ?_
                                        refine DW.nil (jK316 _ _ ⟨_, ?_, ⟨(decide ((x2 - x4) ≤ x5.most)), F, rfl, H⟩⟩)
                                        exact ⟨rfl, rfl, rfl, rfl, (look_slice rfl (by first | rfl | (simp; done) | omega | (simp; omega))), rfl, rfl, rfl, trivial⟩
                                      ·
                                        replace F := ite_n hp19 F
                                        have hq19 : t18_3 = false := raw_f hp19
                                        refine CW.draw [] (fun _ => True) (.cons 0 1 (.cons 1 1 (.cons 2 1 (.cons 3 1 (.cons 4 1 (.cons 5 1 (.cons 6 1 (.cons 7 1 (.cons 8 1 (.cons 9 1 (.cons 10 1 (.cons 11 1 (.cons 12 1 (.cons 13 1 (.cons 14 1 (.cons 15 1 (.cons 16 1 (.cons 17 1 (.cons 18 1 (.cons 19 1 (.cons 20 1 (.cons 21 1 (.cons 22 1 (.cons 23 1 (.cons 24 1 (.cons 25 1 (.cons 26 1 .nil))))))))))))))))))))))))))) mixed (by kernel_rfl) fun w20 E12 => ?_
                                        replace H := H.grow E12
                                        replace R0 := H.ext
                                        refine DW.fix rfl rfl rfl (fun _ EQ => RV.move rfl) ?_
                                        refine DW.fix rfl rfl rfl (fun _ EQ => RV.move rfl) ?_
                                        refine DW.fixNB rfl rfl rfl rfl rfl (ne_beq (v := false) hq19 rfl) ?_
                                        refine DW.fixNB rfl rfl rfl rfl rfl (ne_beq (v := false) hq19 rfl) ?_
                                        refine DW.fixNB rfl rfl rfl rfl rfl (ne_beq (v := false) hq19 rfl) ?_
                                        refine DW.fixNB rfl rfl rfl rfl rfl (ne_beq (v := false) hq19 rfl) ?_
                                        refine DW.fixNB rfl rfl rfl rfl rfl (ne_beq (v := false) hq19 rfl) ?_
                                        refine DW.fixNB rfl rfl rfl rfl rfl (ne_beq (v := false) hq19 rfl) ?_
                                        refine DW.fixNB rfl rfl rfl rfl rfl (ne_beq (v := false) hq19 rfl) ?_
                                        refine DW.fixNB rfl rfl rfl rfl rfl (ne_beq (v := false) hq19 rfl) ?_
                                        refine DW.fixNB rfl rfl rfl rfl rfl (ne_beq (v := false) hq19 rfl) ?_
                                        refine DW.fixNB rfl rfl rfl rfl rfl (ne_beq (v := false) hq19 rfl) ?_
                                        refine DW.fixNB rfl rfl rfl rfl rfl (ne_beq (v := false) hq19 rfl) ?_
                                        refine DW.fixNB rfl rfl rfl rfl rfl (ne_beq (v := false) hq19 rfl) ?_
                                        refine DW.fixNB rfl rfl rfl rfl rfl (ne_beq (v := false) hq19 rfl) ?_
                                        refine DW.fixNB rfl rfl rfl rfl rfl (ne_beq (v := false) hq19 rfl) ?_
                                        refine DW.fixNB rfl rfl rfl rfl rfl (ne_beq (v := false) hq19 rfl) ?_
                                        refine DW.fixNB rfl rfl rfl rfl rfl (ne_beq (v := false) hq19 rfl) ?_
                                        refine DW.fixNB rfl rfl rfl rfl rfl (ne_beq (v := false) hq19 rfl) ?_
                                        refine DW.fixNB rfl rfl rfl rfl rfl (ne_beq (v := false) hq19 rfl) ?_
                                        refine DW.fixNB rfl rfl rfl rfl rfl (ne_beq (v := false) hq19 rfl) ?_
                                        refine DW.fixNB rfl rfl rfl rfl rfl (ne_beq (v := false) hq19 rfl) ?_
                                        refine DW.fixNB rfl rfl rfl rfl rfl (ne_beq (v := false) hq19 rfl) ?_
                                        refine DW.fixNB rfl rfl rfl rfl rfl (ne_beq (v := false) hq19 rfl) ?_
                                        refine DW.fixNB rfl rfl rfl rfl rfl (ne_beq (v := false) hq19 rfl) ?_
                                        refine DW.fix rfl rfl rfl (fun _ EQ => RV.pickFB rfl hq19 rfl) ?_
                                        refine DW.fix rfl rfl rfl (fun _ EQ => RV.assign rfl) ?_
                                        refine DW.nil (jK316 _ _ ⟨_, ?_, ⟨false, F, rfl, H⟩⟩)
                                        exact ⟨rfl, rfl, rfl, rfl, (look_slice rfl (by first | rfl | (simp; done) | omega | (simp; omega))), rfl, rfl, rfl, trivial⟩
                                  ·
                                    intro K45 hK45 jK319
                                    obtain ⟨x6, hbx6, hx6, F⟩ := ix_some F
                                    by_cases hp20 : x6.a < 0
                                    ·
                                      replace F := ite_y hp20 F
                                      have hq20 := dec_t hp20
                                      refine CW.region ?_
                                      refine LW.pure rfl rfl (RV.move rfl) ?_
                                      refine LW.pure rfl rfl (RV.move rfl) ?_
                                      refine LW.pure rfl rfl (RV.indexAddr Ts22 rfl rfl hbx6 ((H.own 0 rfl).sl.addr_ hx6)) ?_
                                      refine LW.pure rfl rfl (RV.fieldAddr Tf26_0 rfl) ?_
                                      refine LW.pure rfl rfl (RV.load1 Tk3 rfl (((H.own 0 rfl).sl.at_ hx6).off 0) rfl) ?_
                                      refine LW.pure rfl rfl (RV.lss rfl rfl) ?_
                                      refine LW.pure rfl rfl (RV.move rfl) ?_
                                      refine LW.noB rfl rfl rfl rfl (ne_beq (v := true) hq20 rfl) ?_
                                      refine LW.noB rfl rfl rfl rfl (ne_beq (v := true) hq20 rfl) ?_
                                      refine LW.noB rfl rfl rfl rfl (ne_beq (v := true) hq20 rfl) ?_
                                      refine LW.noB rfl rfl rfl rfl (ne_beq (v := true) hq20 rfl) ?_
                                      refine LW.noB rfl rfl rfl rfl (ne_beq (v := true) hq20 rfl) ?_
                                      refine LW.noB rfl rfl rfl rfl (ne_beq (v := true) hq20 rfl) ?_
                                      refine LW.noB rfl rfl rfl rfl (ne_beq (v := true) hq20 rfl) ?_
                                      refine LW.noB rfl rfl rfl rfl (ne_beq (v := true) hq20 rfl) ?_
                                      refine LW.pure rfl rfl (RV.pickTB rfl hq20 rfl) ?_
                                      refine LW.pure rfl rfl (RV.move rfl) ?_
                                      refine LW.noB rfl rfl rfl rfl (ne_beq (v := true) rfl rfl) ?_
                                      refine LW.noB rfl rfl rfl rfl (ne_beq (v := true) rfl rfl) ?_
                                      refine LW.noB rfl rfl rfl rfl (ne_beq (v := true) rfl rfl) ?_
                                      refine LW.noB rfl rfl rfl rfl (ne_beq (v := true) rfl rfl) ?_
                                      refine LW.noB rfl rfl rfl rfl (ne_beq (v := true) rfl rfl) ?_
                                      refine LW.noB rfl rfl rfl rfl (ne_beq (v := true) rfl rfl) ?_
                                      refine LW.pure rfl rfl (RV.pickTB rfl rfl rfl) ?_
                                      refine LW.pure rfl rfl (RV.move rfl) ?_
                                      refine LW.noB rfl rfl rfl rfl (ne_beq (v := true) rfl rfl) ?_
                                      refine LW.noB rfl rfl rfl rfl (ne_beq (v := true) rfl rfl) ?_
                                      refine LW.noB rfl rfl rfl rfl (ne_beq (v := true) rfl rfl) ?_
                                      refine LW.noB rfl rfl rfl rfl (ne_beq (v := true) rfl rfl) ?_
                                      refine LW.noB rfl rfl rfl rfl (ne_beq (v := true) rfl rfl) ?_
                                      refine LW.noB rfl rfl rfl rfl (ne_beq (v := true) rfl rfl) ?_
                                      refine LW.noB rfl rfl rfl rfl (ne_beq (v := true) rfl rfl) ?_
                                      refine LW.noB rfl rfl rfl rfl (ne_beq (v := true) rfl rfl) ?_
                                      refine LW.pure rfl rfl (RV.pickTB rfl rfl rfl) ?_
                                      refine LW.nil (jK319 _ _ ⟨_, ?_, ⟨true, F, rfl, H⟩⟩)
                                      exact ⟨rfl, rfl, rfl, rfl, (look_slice rfl (by first | rfl | (simp; done) | omega | (simp; omega))), rfl, rfl, rfl, rfl, trivial⟩
                                    ·
                                      replace F := ite_n hp20 F
                                      have hq20 := dec_f hp20
                                      obtain ⟨x7, hbx7, hx7, F⟩ := ix_some F
                                      by_cases hp21 : ((a1.length : Int)) ≤ x7.a
                                      ·
                                        replace F := ite_y hp21 F
                                        have hq21 := dec_t hp21
                                        refine CW.region ?_
                                        refine LW.pure rfl rfl (RV.move rfl) ?_
                                        refine LW.pure rfl rfl (RV.move rfl) ?_
                                        refine LW.pure rfl rfl (RV.indexAddr Ts22 rfl rfl hbx6 ((H.own 0 rfl).sl.addr_ hx6)) ?_
                                        refine LW.pure rfl rfl (RV.fieldAddr Tf26_0 rfl) ?_
                                        refine LW.pure rfl rfl (RV.load1 Tk3 rfl (((H.own 0 rfl).sl.at_ hx6).off 0) rfl) ?_
                                        refine LW.pure rfl rfl (RV.lss rfl rfl) ?_
                                        refine LW.pure rfl rfl (RV.move rfl) ?_
                                        refine LW.pureYB rfl rfl rfl rfl hq20 (RV.move rfl) ?_
                                        refine LW.pureYB rfl rfl rfl rfl hq20 (RV.move rfl) ?_
                                        refine LW.pureYB rfl rfl rfl rfl hq20 (RV.indexAddr Ts22 rfl rfl hbx7 ((H.own 0 rfl).sl.addr_ hx7)) ?_
                                        refine LW.pureYB rfl rfl rfl rfl hq20 (RV.fieldAddr Tf26_0 rfl) ?_
                                        refine LW.pureYB rfl rfl rfl rfl hq20 (RV.load1 Tk3 rfl (((H.own 0 rfl).sl.at_ hx7).off 0) rfl) ?_
                                        refine LW.pureYB rfl rfl rfl rfl hq20 (RV.move rfl) ?_
                                        refine LW.pureYB rfl rfl rfl rfl hq20 (RV.len Ts43 rfl) ?_
                                        refine LW.pureYB rfl rfl rfl rfl hq20 (RV.geq rfl rfl) ?_
                                        refine LW.pure rfl rfl (RV.pickFB rfl hq20 rfl) ?_
                                        refine LW.pure rfl rfl (RV.move rfl) ?_
                                        refine LW.noB rfl rfl rfl rfl (ne_beq (v := true) hq21 rfl) ?_
                                        refine LW.noB rfl rfl rfl rfl (ne_beq (v := true) hq21 rfl) ?_
                                        refine LW.noB rfl rfl rfl rfl (ne_beq (v := true) hq21 rfl) ?_
                                        refine LW.noB rfl rfl rfl rfl (ne_beq (v := true) hq21 rfl) ?_
                                        refine LW.noB rfl rfl rfl rfl (ne_beq (v := true) hq21 rfl) ?_
                                        refine LW.noB rfl rfl rfl rfl (ne_beq (v := true) hq21 rfl) ?_
                                        refine LW.pure rfl rfl (RV.pickTB rfl hq21 rfl) ?_
                                        refine LW.pure rfl rfl (RV.move rfl) ?_
                                        refine LW.noB rfl rfl rfl rfl (ne_beq (v := true) rfl rfl) ?_
                                        refine LW.noB rfl rfl rfl rfl (ne_beq (v := true) rfl rfl) ?_
                                        refine LW.noB rfl rfl rfl rfl (ne_beq (v := true) rfl rfl) ?_
                                        refine LW.noB rfl rfl rfl rfl (ne_beq (v := true) rfl rfl) ?_
                                        refine LW.noB rfl rfl rfl rfl (ne_beq (v := true) rfl rfl) ?_
                                        refine LW.noB rfl rfl rfl rfl (ne_beq (v := true) rfl rfl) ?_
                                        refine LW.noB rfl rfl rfl rfl (ne_beq (v := true) rfl rfl) ?_
                                        refine LW.noB rfl rfl rfl rfl (ne_beq (v := true) rfl rfl) ?_
                                        refine LW.pure rfl rfl (RV.pickTB rfl rfl rfl) ?_
                                        refine LW.nil (jK319 _ _ ⟨_, ?_, ⟨true, F, rfl, H⟩⟩)
                                        exact ⟨rfl, rfl, rfl, rfl, (look_slice rfl (by first | rfl | (simp; done) | omega | (simp; omega))), rfl, rfl, rfl, rfl, trivial⟩
                                      ·
                                        replace F := ite_n hp21 F
                                        have hq21 := dec_f hp21
                                        obtain ⟨x8, hbx8, hx8, F⟩ := ix_some F
                                        by_cases hp22 : x8.b < 0
                                        ·
                                          replace F := ite_y hp22 F
                                          have hq22 := dec_t hp22
                                          refine CW.region ?_
                                          refine LW.pure rfl rfl (RV.move rfl) ?_
                                          refine LW.pure rfl rfl (RV.move rfl) ?_
                                          refine LW.pure rfl rfl (RV.indexAddr Ts22 rfl rfl hbx6 ((H.own 0 rfl).sl.addr_ hx6)) ?_
                                          refine LW.pure rfl rfl (RV.fieldAddr Tf26_0 rfl) ?_
                                          refine LW.pure rfl rfl (RV.load1 Tk3 rfl (((H.own 0 rfl).sl.at_ hx6).off 0) rfl) ?_
                                          refine LW.pure rfl rfl (RV.lss rfl rfl) ?_
                                          refine LW.pure rfl rfl (RV.move rfl) ?_
                                          refine LW.pureYB rfl rfl rfl rfl hq20 (RV.move rfl) ?_
                                          refine LW.pureYB rfl rfl rfl rfl hq20 (RV.move rfl) ?_
                                          refine LW.pureYB rfl rfl rfl rfl hq20 (RV.indexAddr Ts22 rfl rfl hbx7 ((H.own 0 rfl).sl.addr_ hx7)) ?_
                                          refine LW.pureYB rfl rfl rfl rfl hq20 (RV.fieldAddr Tf26_0 rfl) ?_
                                          refine LW.pureYB rfl rfl rfl rfl hq20 (RV.load1 Tk3 rfl (((H.own 0 rfl).sl.at_ hx7).off 0) rfl) ?_
                                          refine LW.pureYB rfl rfl rfl rfl hq20 (RV.move rfl) ?_
                                          refine LW.pureYB rfl rfl rfl rfl hq20 (RV.len Ts43 rfl) ?_
                                          refine LW.pureYB rfl rfl rfl rfl hq20 (RV.geq rfl rfl) ?_
                                          refine LW.pure rfl rfl (RV.pickFB rfl hq20 rfl) ?_
                                          refine LW.pure rfl rfl (RV.move rfl) ?_
                                          refine LW.pureYB rfl rfl rfl rfl hq21 (RV.move rfl) ?_
                                          refine LW.pureYB rfl rfl rfl rfl hq21 (RV.move rfl) ?_
                                          refine LW.pureYB rfl rfl rfl rfl hq21 (RV.indexAddr Ts22 rfl rfl hbx8 ((H.own 0 rfl).sl.addr_ hx8)) ?_
                                          refine LW.pureYB rfl rfl rfl rfl hq21 (RV.fieldAddr Tf26_1 rfl) ?_
                                          refine LW.pureYB rfl rfl rfl rfl hq21 (RV.load1 Tk3 rfl (((H.own 0 rfl).sl.at_ hx8).off 1) rfl) ?_
                                          refine LW.pureYB rfl rfl rfl rfl hq21 (RV.lss rfl rfl) ?_
                                          refine LW.pure rfl rfl (RV.pickFB rfl hq21 rfl) ?_
                                          refine LW.pure rfl rfl (RV.move rfl) ?_
                                          refine LW.noB rfl rfl rfl rfl (ne_beq (v := true) hq22 rfl) ?_
                                          refine LW.noB rfl rfl rfl rfl (ne_beq (v := true) hq22 rfl) ?_
                                          refine LW.noB rfl rfl rfl rfl (ne_beq (v := true) hq22 rfl) ?_
                                          refine LW.noB rfl rfl rfl rfl (ne_beq (v := true) hq22 rfl) ?_
                                          refine LW.noB rfl rfl rfl rfl (ne_beq (v := true) hq22 rfl) ?_
                                          refine LW.noB rfl rfl rfl rfl (ne_beq (v := true) hq22 rfl) ?_
                                          refine LW.noB rfl rfl rfl rfl (ne_beq (v := true) hq22 rfl) ?_
                                          refine LW.noB rfl rfl rfl rfl (ne_beq (v := true) hq22 rfl) ?_
                                          refine LW.pure rfl rfl (RV.pickTB rfl hq22 rfl) ?_
                                          refine LW.nil (jK319 _ _ ⟨_, ?_, ⟨true, F, rfl, H⟩⟩)
                                          exact ⟨rfl, rfl, rfl, rfl, (look_slice rfl (by first | rfl | (simp; done) | omega | (simp; omega))), rfl, rfl, rfl, rfl, trivial⟩
                                        ·
                                          replace F := ite_n hp22 F
                                          have hq22 := dec_f hp22
                                          obtain ⟨x9, hbx9, hx9, F⟩ := ix_some F
                                          refine CW.region ?_
                                          refine LW.pure rfl rfl (RV.move rfl) ?_
                                          refine LW.pure rfl rfl (RV.move rfl) ?_
                                          refine LW.pure rfl rfl (RV.indexAddr Ts22 rfl rfl hbx6 ((H.own 0 rfl).sl.addr_ hx6)) ?_
                                          refine LW.pure rfl rfl (RV.fieldAddr Tf26_0 rfl) ?_
                                          refine LW.pure rfl rfl (RV.load1 Tk3 rfl (((H.own 0 rfl).sl.at_ hx6).off 0) rfl) ?_
                                          refine LW.pure rfl rfl (RV.lss rfl rfl) ?_
                                          refine LW.pure rfl rfl (RV.move rfl) ?_
                                          refine LW.pureYB rfl rfl rfl rfl hq20 (RV.move rfl) ?_
                                          refine LW.pureYB rfl rfl rfl rfl hq20 (RV.move rfl) ?_
                                          refine LW.pureYB rfl rfl rfl rfl hq20 (RV.indexAddr Ts22 rfl rfl hbx7 ((H.own 0 rfl).sl.addr_ hx7)) ?_
                                          refine LW.pureYB rfl rfl rfl rfl hq20 (RV.fieldAddr Tf26_0 rfl) ?_
                                          refine LW.pureYB rfl rfl rfl rfl hq20 (RV.load1 Tk3 rfl (((H.own 0 rfl).sl.at_ hx7).off 0) rfl) ?_
                                          refine LW.pureYB rfl rfl rfl rfl hq20 (RV.move rfl) ?_
                                          refine LW.pureYB rfl rfl rfl rfl hq20 (RV.len Ts43 rfl) ?_
                                          refine LW.pureYB rfl rfl rfl rfl hq20 (RV.geq rfl rfl) ?_
                                          refine LW.pure rfl rfl (RV.pickFB rfl hq20 rfl) ?_
                                          refine LW.pure rfl rfl (RV.move rfl) ?_
                                          refine LW.pureYB rfl rfl rfl rfl hq21 (RV.move rfl) ?_
                                          refine LW.pureYB rfl rfl rfl rfl hq21 (RV.move rfl) ?_
                                          refine LW.pureYB rfl rfl rfl rfl hq21 (RV.indexAddr Ts22 rfl rfl hbx8 ((H.own 0 rfl).sl.addr_ hx8)) ?_
                                          refine LW.pureYB rfl rfl rfl rfl hq21 (RV.fieldAddr Tf26_1 rfl) ?_
                                          refine LW.pureYB rfl rfl rfl rfl hq21 (RV.load1 Tk3 rfl (((H.own 0 rfl).sl.at_ hx8).off 1) rfl) ?_
                                          refine LW.pureYB rfl rfl rfl rfl hq21 (RV.lss rfl rfl) ?_
                                          refine LW.pure rfl rfl (RV.pickFB rfl hq21 rfl) ?_
                                          refine LW.pure rfl rfl (RV.move rfl) ?_
                                          refine LW.pureYB rfl rfl rfl rfl hq22 (RV.move rfl) ?_
                                          refine LW.pureYB rfl rfl rfl rfl hq22 (RV.move rfl) ?_
                                          refine LW.pureYB rfl rfl rfl rfl hq22 (RV.indexAddr Ts22 rfl rfl hbx9 ((H.own 0 rfl).sl.addr_ hx9)) ?_
                                          refine LW.pureYB rfl rfl rfl rfl hq22 (RV.fieldAddr Tf26_1 rfl) ?_
                                          refine LW.pureYB rfl rfl rfl rfl hq22 (RV.load1 Tk3 rfl (((H.own 0 rfl).sl.at_ hx9).off 1) rfl) ?_
                                          refine LW.pureYB rfl rfl rfl rfl hq22 (RV.move rfl) ?_
                                          refine LW.pureYB rfl rfl rfl rfl hq22 (RV.len Ts43 rfl) ?_
                                          refine LW.pureYB rfl rfl rfl rfl hq22 (RV.geq rfl rfl) ?_
                                          refine LW.pure rfl rfl (RV.pickFB rfl hq22 rfl) ?_
                                          refine LW.nil (jK319 _ _ ⟨_, ?_, ⟨(decide (((a1.length : Int)) ≤ x9.b)), F, rfl, H⟩⟩)
                                          exact ⟨rfl, rfl, rfl, rfl, (look_slice rfl (by first | rfl | (simp; done) | omega | (simp; omega))), rfl, rfl, rfl, rfl, trivial⟩
                              ·
                                replace F := ite_n hp17 F
                                have hq17 := dec_f hp17
                                refine CW.condF rfl hq17 ?_
                                replace H := H.pick (L' := [.blk b1 24 [.int .i64 a0.layers, .slice A_a0_bounds a0.bounds.length c_a0_bounds], .blk b2 26 [.int .i64 a2.a, .int .i64 a2.b, .int .i64 a2.most]]) [1, 2] (by decide) rfl
                                replace R0 := H.ext
                                refine CW.exit (jK291 _ _ ⟨_, ?_, ⟨t18_3, F, rfl, H⟩⟩)
                                exact ⟨rfl, rfl, rfl, rfl, rfl, trivial⟩
                          ·
                            replace F := ite_n hp15 F
                            have hq15 : t112_1 = false := raw_f hp15
                            refine CW.condF rfl hq15 ?_
                            replace H := H.pick (L' := [.blk b1 24 [.int .i64 a0.layers, .slice A_a0_bounds a0.bounds.length c_a0_bounds], .blk b2 26 [.int .i64 a2.a, .int .i64 a2.b, .int .i64 a2.most]]) [1, 2] (by decide) rfl
                            replace R0 := H.ext
                            refine CW.skip (jK258 _ _ ⟨_, ?_, ⟨F, rfl, H⟩⟩)
                            exact ⟨rfl, rfl, rfl, trivial⟩
                        ·
                          intro K46 hK46 jK320
                          by_cases hp23 : r6 = 0
                          ·
                            replace F := ite_y hp23 F
                            have hq23 := dec_t hp23
                            refine CW.region ?_
                            refine LW.pure rfl rfl (RV.move rfl) ?_
                            refine LW.pure rfl rfl (RV.eqi rfl rfl) ?_
                            refine LW.pure rfl rfl (RV.move rfl) ?_
                            refine LW.noB rfl rfl rfl rfl (ne_beq (v := true) hq23 rfl) ?_
                            refine LW.noB rfl rfl rfl rfl (ne_beq (v := true) hq23 rfl) ?_
                            refine LW.pure rfl rfl (RV.pickTB rfl hq23 rfl) ?_
                            refine LW.nil (jK320 _ _ ⟨_, ?_, ⟨true, F, rfl, H⟩⟩)
                            exact ⟨rfl, rfl, rfl, rfl, (look_slice rfl (by first | rfl | (simp; done) | omega | (simp; omega))), rfl, rfl, trivial⟩
                          ·
                            replace F := ite_n hp23 F
                            have hq23 := dec_f hp23
                            refine CW.region ?_
                            refine LW.pure rfl rfl (RV.move rfl) ?_
                            refine LW.pure rfl rfl (RV.eqi rfl rfl) ?_
                            refine LW.pure rfl rfl (RV.move rfl) ?_
                            refine LW.pureYB rfl rfl rfl rfl hq23 (RV.move rfl) ?_
                            refine LW.pureYB rfl rfl rfl rfl hq23 (RV.eqi rfl rfl) ?_
                            refine LW.pure rfl rfl (RV.pickFB rfl hq23 rfl) ?_
                            refine LW.nil (jK320 _ _ ⟨_, ?_, ⟨(decide (r6 = 7)), F, rfl, H⟩⟩)
                            exact ⟨rfl, rfl, rfl, rfl, (look_slice rfl (by first | rfl | (simp; done) | omega | (simp; omega))), rfl, rfl, trivial⟩
                    ·
                      replace F := ite_n hp6 F
                      have hq6 := dec_f hp6
                      refine CW.condT rfl (not_t hq6) ?_
                      refine CW.seq fun K47 hK47 => ?_
                      refine CW.region ?_
                      refine LW.pure rfl rfl (RV.assign rfl) ?_
                      refine LW.nil (hK47 _ _ ?_)
                      refine CW.ret ?_
                      obtain rfl := Option.some.inj F
                      refine ⟨_, (ResOK.one rfl), ?_⟩
                      refine ⟨(by first | rfl | simp), R0⟩
                  ·
                    replace F := ite_n hp5 F
                    have hq5 : r8.2.1 = false := raw_f hp5
                    refine CW.condT rfl (not_t hq5) ?_
                    refine CW.seq fun K48 hK48 => ?_
                    refine CW.region ?_
                    refine LW.pure rfl rfl (RV.move rfl) ?_
                    refine LW.pure rfl rfl (RV.eqi rfl rfl) ?_
                    refine LW.pure rfl rfl (RV.assign rfl) ?_
                    refine LW.nil (hK48 _ _ ?_)
                    refine CW.ret ?_
                    obtain rfl := Option.some.inj F
                    refine ⟨_, (ResOK.one rfl), ?_⟩
                    refine ⟨(by first | rfl | simp), R0⟩
              ·
                intro K49 hK49 jK323
                by_cases hp24 : (r8.2.1 == r9.2.1) = true
                ·
                  replace F := ite_y hp24 F
                  have hq24 : (r8.2.1 == r9.2.1) = true := hp24
                  refine CW.region ?_
                  refine LW.pure rfl rfl (RV.move rfl) ?_
                  refine LW.pure rfl rfl (RV.move rfl) ?_
                  refine LW.pure rfl rfl (RV.eqb Tb4 rfl rfl) ?_
                  refine LW.pure rfl rfl (RV.move rfl) ?_
                  refine LW.noB rfl rfl rfl rfl (ne_beq (v := true) hq24 rfl) ?_
                  refine LW.noB rfl rfl rfl rfl (ne_beq (v := true) hq24 rfl) ?_
                  refine LW.noU rfl rfl rfl rfl ?_
                  refine LW.noU rfl rfl rfl rfl ?_
                  refine LW.noU rfl rfl rfl rfl ?_
                  refine LW.noU rfl rfl rfl rfl ?_
                  refine LW.noB rfl rfl rfl rfl (ne_beq (v := true) hq24 rfl) ?_
                  refine LW.pure rfl rfl (RV.pickTB rfl hq24 rfl) ?_
                  refine LW.pure rfl rfl (RV.move rfl) ?_
                  refine LW.noB rfl rfl rfl rfl (ne_beq (v := true) rfl rfl) ?_
                  refine LW.noB rfl rfl rfl rfl (ne_beq (v := true) rfl rfl) ?_
                  refine LW.noU rfl rfl rfl rfl ?_
                  refine LW.noU rfl rfl rfl rfl ?_
                  refine LW.noU rfl rfl rfl rfl ?_
                  refine LW.noU rfl rfl rfl rfl ?_
                  refine LW.noB rfl rfl rfl rfl (ne_beq (v := true) rfl rfl) ?_
                  refine LW.pure rfl rfl (RV.pickTB rfl rfl rfl) ?_
                  replace H := H.pick (L' := [.blk b1 24 [.int .i64 a0.layers, .slice A_a0_bounds a0.bounds.length c_a0_bounds], .blk b2 26 [.int .i64 a2.a, .int .i64 a2.b, .int .i64 a2.most]]) [2, 3] (by decide) rfl
                  replace R0 := H.ext
                  refine LW.nil (jK323 _ _ ⟨_, ?_, ⟨true, F, rfl, H⟩⟩)
                  exact ⟨rfl, rfl, rfl, rfl, rfl, rfl, trivial⟩
                ·
                  replace F := ite_n hp24 F
                  have hq24 : (r8.2.1 == r9.2.1) = false := raw_f hp24
                  by_cases hp25 : r8.2.1 = true
                  ·
                    replace F := ite_y hp25 F
                    have hq25 : r8.2.1 = true := hp25
                    obtain ⟨r10, hr10, F⟩ := bnd_some F
                    by_cases hp26 : r10 = 0
                    ·
                      replace F := ite_y hp26 F
                      have hq26 := dec_t hp26
                      by_cases hp27 : r9.2.1 = true
                      ·
                        replace F := ite_y hp27 F
                        have hq27 : r9.2.1 = true := hp27
                        obtain ⟨r11, hr11, F⟩ := bnd_some F
                        refine CW.region ?_
                        refine LW.pure rfl rfl (RV.move rfl) ?_
                        refine LW.pure rfl rfl (RV.move rfl) ?_
                        refine LW.pure rfl rfl (RV.eqb Tb4 rfl rfl) ?_
                        refine LW.pure rfl rfl (RV.move rfl) ?_
                        refine LW.pureYB rfl rfl rfl rfl hq24 (RV.move rfl) ?_
                        refine LW.pureYB rfl rfl rfl rfl hq24 (RV.move rfl) ?_
                        refine LW.pureYB rfl rfl rfl rfl hq25 (RV.loadA [.int .i64 a0.layers, .slice A_a0_bounds a0.bounds.length c_a0_bounds] Tk24 rfl (H.blk 2 rfl).cells rfl rfl) ?_
                        refine LW.pureYB rfl rfl rfl rfl hq25 (RV.move rfl) ?_
                        refine LW.yesB rfl rfl rfl rfl hq25 (OW.call Tc33 rfl (core_CheckDates_ok (a0 := a0) (a1 := r8.1) (h_a0_bounds.ext R0) (H.own 0 rfl).sl hr10) ?_)
                        rintro _ w21 ⟨rfl, E13⟩
                        refine ⟨_, rfl, ?_⟩
                        replace H := H.grow E13
                        replace R0 := H.ext
                        refine LW.pureYB rfl rfl rfl rfl hq25 (RV.nei rfl rfl) ?_
                        refine LW.pureYB rfl rfl rfl rfl hq24 (RV.pickTB rfl hq25 rfl) ?_
                        refine LW.pure rfl rfl (RV.pickFB rfl hq24 rfl) ?_
                        refine LW.pure rfl rfl (RV.move rfl) ?_
                        refine LW.pureYB rfl rfl rfl rfl (not_f hq26) (RV.move rfl) ?_
                        refine LW.pureYB rfl rfl rfl rfl (not_f hq26) (RV.move rfl) ?_
                        refine LW.pureYB rfl rfl rfl rfl hq27 (RV.loadA [.int .i64 a0.layers, .slice A_a0_bounds a0.bounds.length c_a0_bounds] Tk24 rfl (H.blk 2 rfl).cells rfl rfl) ?_
                        refine LW.pureYB rfl rfl rfl rfl hq27 (RV.move rfl) ?_
                        refine LW.yesB rfl rfl rfl rfl hq27 (OW.call Tc40 rfl (core_CheckClash_ok (a0 := a0) (a1 := r9.1) (h_a0_bounds.ext R0) (H.own 1 rfl).sl hr11) ?_)
                        rintro _ w22 ⟨rfl, E14⟩
                        refine ⟨_, rfl, ?_⟩
                        replace H := H.grow E14
                        replace R0 := H.ext
                        refine LW.pureYB rfl rfl rfl rfl hq27 (RV.nei rfl rfl) ?_
                        refine LW.pureYB rfl rfl rfl rfl (not_f hq26) (RV.pickTB rfl hq27 rfl) ?_
                        refine LW.pure rfl rfl (RV.pickFB rfl (not_f hq26) rfl) ?_
                        replace H := H.pick (L' := [.blk b1 24 [.int .i64 a0.layers, .slice A_a0_bounds a0.bounds.length c_a0_bounds], .blk b2 26 [.int .i64 a2.a, .int .i64 a2.b, .int .i64 a2.most]]) [2, 3] (by decide) rfl
                        replace R0 := H.ext
                        refine LW.nil (jK323 _ _ ⟨_, ?_, ⟨(!(decide (r11 = 0))), F, rfl, H⟩⟩)
                        exact ⟨rfl, rfl, rfl, rfl, rfl, rfl, trivial⟩
                      ·
                        replace F := ite_n hp27 F
                        have hq27 : r9.2.1 = false := raw_f hp27
                        refine CW.region ?_
                        refine LW.pure rfl rfl (RV.move rfl) ?_
                        refine LW.pure rfl rfl (RV.move rfl) ?_
                        refine LW.pure rfl rfl (RV.eqb Tb4 rfl rfl) ?_
                        refine LW.pure rfl rfl (RV.move rfl) ?_
                        refine LW.pureYB rfl rfl rfl rfl hq24 (RV.move rfl) ?_
                        refine LW.pureYB rfl rfl rfl rfl hq24 (RV.move rfl) ?_
                        refine LW.pureYB rfl rfl rfl rfl hq25 (RV.loadA [.int .i64 a0.layers, .slice A_a0_bounds a0.bounds.length c_a0_bounds] Tk24 rfl (H.blk 2 rfl).cells rfl rfl) ?_
                        refine LW.pureYB rfl rfl rfl rfl hq25 (RV.move rfl) ?_
                        refine LW.yesB rfl rfl rfl rfl hq25 (OW.call Tc33 rfl (core_CheckDates_ok (a0 := a0) (a1 := r8.1) (h_a0_bounds.ext R0) (H.own 0 rfl).sl hr10) ?_)
                        rintro _ w23 ⟨rfl, E15⟩
                        refine ⟨_, rfl, ?_⟩
                        replace H := H.grow E15
                        replace R0 := H.ext
                        refine LW.pureYB rfl rfl rfl rfl hq25 (RV.nei rfl rfl) ?_
                        refine LW.pureYB rfl rfl rfl rfl hq24 (RV.pickTB rfl hq25 rfl) ?_
                        refine LW.pure rfl rfl (RV.pickFB rfl hq24 rfl) ?_
                        refine LW.pure rfl rfl (RV.move rfl) ?_
                        refine LW.pureYB rfl rfl rfl rfl (not_f hq26) (RV.move rfl) ?_
                        refine LW.pureYB rfl rfl rfl rfl (not_f hq26) (RV.move rfl) ?_
                        refine LW.noB rfl rfl rfl rfl (ne_beq (v := false) hq27 rfl) ?_
                        refine LW.noB rfl rfl rfl rfl (ne_beq (v := false) hq27 rfl) ?_
                        refine LW.noB rfl rfl rfl rfl (ne_beq (v := false) hq27 rfl) ?_
                        refine LW.noB rfl rfl rfl rfl (ne_beq (v := false) hq27 rfl) ?_
                        refine LW.pureYB rfl rfl rfl rfl (not_f hq26) (RV.pickFB rfl hq27 rfl) ?_
                        refine LW.pure rfl rfl (RV.pickFB rfl (not_f hq26) rfl) ?_
                        replace H := H.pick (L' := [.blk b1 24 [.int .i64 a0.layers, .slice A_a0_bounds a0.bounds.length c_a0_bounds], .blk b2 26 [.int .i64 a2.a, .int .i64 a2.b, .int .i64 a2.most]]) [2, 3] (by decide) rfl
                        replace R0 := H.ext
                        refine LW.nil (jK323 _ _ ⟨_, ?_, ⟨false, F, rfl, H⟩⟩)
                        exact ⟨rfl, rfl, rfl, rfl, rfl, rfl, trivial⟩
                    ·
                      replace F := ite_n hp26 F
                      have hq26 := dec_f hp26
                      refine CW.region ?_
                      refine LW.pure rfl rfl (RV.move rfl) ?_
                      refine LW.pure rfl rfl (RV.move rfl) ?_
                      refine LW.pure rfl rfl (RV.eqb Tb4 rfl rfl) ?_
                      refine LW.pure rfl rfl (RV.move rfl) ?_
                      refine LW.pureYB rfl rfl rfl rfl hq24 (RV.move rfl) ?_
                      refine LW.pureYB rfl rfl rfl rfl hq24 (RV.move rfl) ?_
                      refine LW.pureYB rfl rfl rfl rfl hq25 (RV.loadA [.int .i64 a0.layers, .slice A_a0_bounds a0.bounds.length c_a0_bounds] Tk24 rfl (H.blk 2 rfl).cells rfl rfl) ?_
                      refine LW.pureYB rfl rfl rfl rfl hq25 (RV.move rfl) ?_
                      refine LW.yesB rfl rfl rfl rfl hq25 (OW.call Tc33 rfl (core_CheckDates_ok (a0 := a0) (a1 := r8.1) (h_a0_bounds.ext R0) (H.own 0 rfl).sl hr10) ?_)
                      rintro _ w24 ⟨rfl, E16⟩
                      refine ⟨_, rfl, ?_⟩
                      replace H := H.grow E16
                      replace R0 := H.ext
                      refine LW.pureYB rfl rfl rfl rfl hq25 (RV.nei rfl rfl) ?_
                      refine LW.pureYB rfl rfl rfl rfl hq24 (RV.pickTB rfl hq25 rfl) ?_
                      refine LW.pure rfl rfl (RV.pickFB rfl hq24 rfl) ?_
                      refine LW.pure rfl rfl (RV.move rfl) ?_
                      refine LW.noB rfl rfl rfl rfl (ne_beq (v := true) (not_t hq26) rfl) ?_
                      refine LW.noB rfl rfl rfl rfl (ne_beq (v := true) (not_t hq26) rfl) ?_
                      refine LW.noU rfl rfl rfl rfl ?_
                      refine LW.noU rfl rfl rfl rfl ?_
                      refine LW.noU rfl rfl rfl rfl ?_
                      refine LW.noU rfl rfl rfl rfl ?_
                      refine LW.noB rfl rfl rfl rfl (ne_beq (v := true) (not_t hq26) rfl) ?_
                      refine LW.pure rfl rfl (RV.pickTB rfl (not_t hq26) rfl) ?_
                      replace H := H.pick (L' := [.blk b1 24 [.int .i64 a0.layers, .slice A_a0_bounds a0.bounds.length c_a0_bounds], .blk b2 26 [.int .i64 a2.a, .int .i64 a2.b, .int .i64 a2.most]]) [2, 3] (by decide) rfl
                      replace R0 := H.ext
                      refine LW.nil (jK323 _ _ ⟨_, ?_, ⟨true, F, rfl, H⟩⟩)
                      exact ⟨rfl, rfl, rfl, rfl, rfl, rfl, trivial⟩
                  ·
                    replace F := ite_n hp25 F
                    have hq25 : r8.2.1 = false := raw_f hp25
                    by_cases hp28 : r9.2.1 = true
                    ·
                      replace F := ite_y hp28 F
                      have hq28 : r9.2.1 = true := hp28
                      obtain ⟨r12, hr12, F⟩ := bnd_some F
                      refine CW.region ?_
                      refine LW.pure rfl rfl (RV.move rfl) ?_
                      refine LW.pure rfl rfl (RV.move rfl) ?_
                      refine LW.pure rfl rfl (RV.eqb Tb4 rfl rfl) ?_
                      refine LW.pure rfl rfl (RV.move rfl) ?_
                      refine LW.pureYB rfl rfl rfl rfl hq24 (RV.move rfl) ?_
                      refine LW.pureYB rfl rfl rfl rfl hq24 (RV.move rfl) ?_
                      refine LW.noB rfl rfl rfl rfl (ne_beq (v := false) hq25 rfl) ?_
                      refine LW.noB rfl rfl rfl rfl (ne_beq (v := false) hq25 rfl) ?_
                      refine LW.noB rfl rfl rfl rfl (ne_beq (v := false) hq25 rfl) ?_
                      refine LW.noB rfl rfl rfl rfl (ne_beq (v := false) hq25 rfl) ?_
                      refine LW.pureYB rfl rfl rfl rfl hq24 (RV.pickFB rfl hq25 rfl) ?_
                      refine LW.pure rfl rfl (RV.pickFB rfl hq24 rfl) ?_
                      refine LW.pure rfl rfl (RV.move rfl) ?_
                      refine LW.pureYB rfl rfl rfl rfl rfl (RV.move rfl) ?_
                      refine LW.pureYB rfl rfl rfl rfl rfl (RV.move rfl) ?_
                      refine LW.pureYB rfl rfl rfl rfl hq28 (RV.loadA [.int .i64 a0.layers, .slice A_a0_bounds a0.bounds.length c_a0_bounds] Tk24 rfl (H.blk 2 rfl).cells rfl rfl) ?_
                      refine LW.pureYB rfl rfl rfl rfl hq28 (RV.move rfl) ?_
                      refine LW.yesB rfl rfl rfl rfl hq28 (OW.call Tc40 rfl (core_CheckClash_ok (a0 := a0) (a1 := r9.1) (h_a0_bounds.ext R0) (H.own 1 rfl).sl hr12) ?_)
                      rintro _ w25 ⟨rfl, E17⟩
                      refine ⟨_, rfl, ?_⟩
                      replace H := H.grow E17
                      replace R0 := H.ext
                      refine LW.pureYB rfl rfl rfl rfl hq28 (RV.nei rfl rfl) ?_
                      refine LW.pureYB rfl rfl rfl rfl rfl (RV.pickTB rfl hq28 rfl) ?_
                      refine LW.pure rfl rfl (RV.pickFB rfl rfl rfl) ?_
                      replace H := H.pick (L' := [.blk b1 24 [.int .i64 a0.layers, .slice A_a0_bounds a0.bounds.length c_a0_bounds], .blk b2 26 [.int .i64 a2.a, .int .i64 a2.b, .int .i64 a2.most]]) [2, 3] (by decide) rfl
                      replace R0 := H.ext
                      refine LW.nil (jK323 _ _ ⟨_, ?_, ⟨(!(decide (r12 = 0))), F, rfl, H⟩⟩)
                      exact ⟨rfl, rfl, rfl, rfl, rfl, rfl, trivial⟩
                    ·
                      replace F := ite_n hp28 F
                      have hq28 : r9.2.1 = false := raw_f hp28
                      refine CW.region ?_
                      refine LW.pure rfl rfl (RV.move rfl) ?_
                      refine LW.pure rfl rfl (RV.move rfl) ?_
                      refine LW.pure rfl rfl (RV.eqb Tb4 rfl rfl) ?_
                      refine LW.pure rfl rfl (RV.move rfl) ?_
                      refine LW.pureYB rfl rfl rfl rfl hq24 (RV.move rfl) ?_
                      refine LW.pureYB rfl rfl rfl rfl hq24 (RV.move rfl) ?_
                      refine LW.noB rfl rfl rfl rfl (ne_beq (v := false) hq25 rfl) ?_
                      refine LW.noB rfl rfl rfl rfl (ne_beq (v := false) hq25 rfl) ?_
                      refine LW.noB rfl rfl rfl rfl (ne_beq (v := false) hq25 rfl) ?_
                      refine LW.noB rfl rfl rfl rfl (ne_beq (v := false) hq25 rfl) ?_
                      refine LW.pureYB rfl rfl rfl rfl hq24 (RV.pickFB rfl hq25 rfl) ?_
                      refine LW.pure rfl rfl (RV.pickFB rfl hq24 rfl) ?_
                      refine LW.pure rfl rfl (RV.move rfl) ?_
                      refine LW.pureYB rfl rfl rfl rfl rfl (RV.move rfl) ?_
                      refine LW.pureYB rfl rfl rfl rfl rfl (RV.move rfl) ?_
                      refine LW.noB rfl rfl rfl rfl (ne_beq (v := false) hq28 rfl) ?_
                      refine LW.noB rfl rfl rfl rfl (ne_beq (v := false) hq28 rfl) ?_
                      refine LW.noB rfl rfl rfl rfl (ne_beq (v := false) hq28 rfl) ?_
                      refine LW.noB rfl rfl rfl rfl (ne_beq (v := false) hq28 rfl) ?_
                      refine LW.pureYB rfl rfl rfl rfl rfl (RV.pickFB rfl hq28 rfl) ?_
                      refine LW.pure rfl rfl (RV.pickFB rfl rfl rfl) ?_
                      replace H := H.pick (L' := [.blk b1 24 [.int .i64 a0.layers, .slice A_a0_bounds a0.bounds.length c_a0_bounds], .blk b2 26 [.int .i64 a2.a, .int .i64 a2.b, .int .i64 a2.most]]) [2, 3] (by decide) rfl
                      replace R0 := H.ext
                      refine LW.nil (jK323 _ _ ⟨_, ?_, ⟨false, F, rfl, H⟩⟩)
                      exact ⟨rfl, rfl, rfl, rfl, rfl, rfl, trivial⟩
          ·
            intro K50 hK50 jK324
            by_cases hp29 : r8.2.2 = 0
            ·
              replace F := ite_y hp29 F
              have hq29 := dec_t hp29
              refine CW.region ?_
              refine LW.pure rfl rfl (RV.move rfl) ?_
              refine LW.pure rfl rfl (RV.nei rfl rfl) ?_
              refine LW.pure rfl rfl (RV.move rfl) ?_
              refine LW.pureYB rfl rfl rfl rfl (not_f hq29) (RV.move rfl) ?_
              refine LW.pureYB rfl rfl rfl rfl (not_f hq29) (RV.nei rfl rfl) ?_
              refine LW.pure rfl rfl (RV.pickFB rfl (not_f hq29) rfl) ?_
              replace H := H.pick (L' := [.own A24_0 c24_0 3 1 (List.map encN r8.1), .own A26_0 c26_0 3 1 (List.map encN r9.1), .blk b1 24 [.int .i64 a0.layers, .slice A_a0_bounds a0.bounds.length c_a0_bounds], .blk b2 26 [.int .i64 a2.a, .int .i64 a2.b, .int .i64 a2.most]]) [1, 0, 2, 3] (by decide) rfl
              replace R0 := H.ext
              refine LW.nil (jK324 _ _ ⟨_, ?_, ⟨(!(decide (r9.2.2 = 0))), F, rfl, H⟩⟩)
              exact ⟨rfl, rfl, rfl, rfl, (look_slice rfl (by first | rfl | (simp; done) | omega | (simp; omega))), rfl, rfl, (look_slice rfl (by first | rfl | (simp; done) | omega | (simp; omega))), rfl, rfl, rfl, trivial⟩
            ·
              replace F := ite_n hp29 F
              have hq29 := dec_f hp29
              refine CW.region ?_
              refine LW.pure rfl rfl (RV.move rfl) ?_
              refine LW.pure rfl rfl (RV.nei rfl rfl) ?_
              refine LW.pure rfl rfl (RV.move rfl) ?_
              refine LW.noB rfl rfl rfl rfl (ne_beq (v := true) (not_t hq29) rfl) ?_
              refine LW.noB rfl rfl rfl rfl (ne_beq (v := true) (not_t hq29) rfl) ?_
              refine LW.pure rfl rfl (RV.pickTB rfl (not_t hq29) rfl) ?_
              replace H := H.pick (L' := [.own A24_0 c24_0 3 1 (List.map encN r8.1), .own A26_0 c26_0 3 1 (List.map encN r9.1), .blk b1 24 [.int .i64 a0.layers, .slice A_a0_bounds a0.bounds.length c_a0_bounds], .blk b2 26 [.int .i64 a2.a, .int .i64 a2.b, .int .i64 a2.most]]) [1, 0, 2, 3] (by decide) rfl
              replace R0 := H.ext
              refine LW.nil (jK324 _ _ ⟨_, ?_, ⟨true, F, rfl, H⟩⟩)
              exact ⟨rfl, rfl, rfl, rfl, (look_slice rfl (by first | rfl | (simp; done) | omega | (simp; omega))), rfl, rfl, (look_slice rfl (by first | rfl | (simp; done) | omega | (simp; omega))), rfl, rfl, rfl, trivial⟩
      ·
        intro K51 hK51 jK325
        obtain ⟨r13, hr13, F⟩ := bnd_some F
        by_cases hp30 : r13 = true
        ·
          replace F := ite_y hp30 F
          have hq30 : r13 = true := hp30
          refine CW.region ?_
          refine LW.pure rfl rfl (RV.loadA [.int .i64 a0.layers, .slice A_a0_bounds a0.bounds.length c_a0_bounds] Tk24 rfl (H.blk 0 rfl).cells rfl rfl) ?_
          refine LW.go rfl rfl (OW.call Tc17 rfl (law03_Long_ok (a0 := a0) (h_a0_bounds.ext R0) hr13) ?_)
          rintro _ w26 ⟨rfl, E18⟩
          refine ⟨_, rfl, ?_⟩
          replace H := H.grow E18
          replace R0 := H.ext
          refine LW.pure rfl rfl (RV.move rfl) ?_
          refine LW.noB rfl rfl rfl rfl (ne_beq (v := true) hq30 rfl) ?_
          refine LW.noB rfl rfl rfl rfl (ne_beq (v := true) hq30 rfl) ?_
          refine LW.noB rfl rfl rfl rfl (ne_beq (v := true) hq30 rfl) ?_
          refine LW.pure rfl rfl (RV.pickTB rfl hq30 rfl) ?_
          refine LW.nil (jK325 _ _ ⟨_, ?_, ⟨true, F, rfl, H⟩⟩)
          exact ⟨rfl, rfl, rfl, rfl, rfl, trivial⟩
        ·
          replace F := ite_n hp30 F
          have hq30 : r13 = false := raw_f hp30
          refine CW.region ?_
          refine LW.pure rfl rfl (RV.loadA [.int .i64 a0.layers, .slice A_a0_bounds a0.bounds.length c_a0_bounds] Tk24 rfl (H.blk 0 rfl).cells rfl rfl) ?_
          refine LW.go rfl rfl (OW.call Tc17 rfl (law03_Long_ok (a0 := a0) (h_a0_bounds.ext R0) hr13) ?_)
          rintro _ w27 ⟨rfl, E19⟩
          refine ⟨_, rfl, ?_⟩
          replace H := H.grow E19
          replace R0 := H.ext
          refine LW.pure rfl rfl (RV.move rfl) ?_
          refine LW.pureYB rfl rfl rfl rfl hq30 (RV.move rfl) ?_
          refine LW.pureYB rfl rfl rfl rfl hq30 (RV.len Ts43 rfl) ?_
          refine LW.pureYB rfl rfl rfl rfl hq30 (RV.gtr rfl rfl) ?_
          refine LW.pure rfl rfl (RV.pickFB rfl hq30 rfl) ?_
          refine LW.nil (jK325 _ _ ⟨_, ?_, ⟨(decide ((100 : Int) < ((a1.length : Int)))), F, rfl, H⟩⟩)
          exact ⟨rfl, rfl, rfl, rfl, rfl, trivial⟩
  ·
    intro K52 hK52 jK326
    by_cases hp31 : r14.2.2 = 0
    ·
      replace F := ite_y hp31 F
      have hq31 := dec_t hp31
      by_cases hp32 : r14.2.1 = true
      ·
        replace F := ite_y hp32 F
        have hq32 : r14.2.1 = true := hp32
        refine CW.region ?_
        refine LW.pure rfl rfl (RV.move rfl) ?_
        refine LW.pure rfl rfl (RV.nei rfl rfl) ?_
        refine LW.pure rfl rfl (RV.move rfl) ?_
        refine LW.pureYB rfl rfl rfl rfl (not_f hq31) (RV.move rfl) ?_
        refine LW.pureYB rfl rfl rfl rfl (not_f hq31) (RV.not rfl) ?_
        refine LW.pure rfl rfl (RV.pickFB rfl (not_f hq31) rfl) ?_
        refine LW.pure rfl rfl (RV.move rfl) ?_
        refine LW.pureYB rfl rfl rfl rfl (not_f hq32) (RV.move rfl) ?_
        refine LW.pureYB rfl rfl rfl rfl (not_f hq32) (RV.nei rfl rfl) ?_
        refine LW.pure rfl rfl (RV.pickFB rfl (not_f hq32) rfl) ?_
        replace H := H.pick (L' := [.blk b1 24 [.int .i64 a0.layers, .slice A_a0_bounds a0.bounds.length c_a0_bounds], .blk b2 26 [.int .i64 a2.a, .int .i64 a2.b, .int .i64 a2.most]]) [2, 1] (by decide) rfl
        replace R0 := H.ext
        refine LW.nil (jK326 _ _ ⟨_, ?_, ⟨(!(decide (r14.1 = 7))), F, rfl, H⟩⟩)
        exact ⟨rfl, rfl, rfl, rfl, rfl, trivial⟩
      ·
        replace F := ite_n hp32 F
        have hq32 : r14.2.1 = false := raw_f hp32
        refine CW.region ?_
        refine LW.pure rfl rfl (RV.move rfl) ?_
        refine LW.pure rfl rfl (RV.nei rfl rfl) ?_
        refine LW.pure rfl rfl (RV.move rfl) ?_
        refine LW.pureYB rfl rfl rfl rfl (not_f hq31) (RV.move rfl) ?_
        refine LW.pureYB rfl rfl rfl rfl (not_f hq31) (RV.not rfl) ?_
        refine LW.pure rfl rfl (RV.pickFB rfl (not_f hq31) rfl) ?_
        refine LW.pure rfl rfl (RV.move rfl) ?_
        refine LW.noB rfl rfl rfl rfl (ne_beq (v := true) (not_t hq32) rfl) ?_
        refine LW.noB rfl rfl rfl rfl (ne_beq (v := true) (not_t hq32) rfl) ?_
        refine LW.pure rfl rfl (RV.pickTB rfl (not_t hq32) rfl) ?_
        replace H := H.pick (L' := [.blk b1 24 [.int .i64 a0.layers, .slice A_a0_bounds a0.bounds.length c_a0_bounds], .blk b2 26 [.int .i64 a2.a, .int .i64 a2.b, .int .i64 a2.most]]) [2, 1] (by decide) rfl
        replace R0 := H.ext
        refine LW.nil (jK326 _ _ ⟨_, ?_, ⟨true, F, rfl, H⟩⟩)
        exact ⟨rfl, rfl, rfl, rfl, rfl, trivial⟩
    ·
      replace F := ite_n hp31 F
      have hq31 := dec_f hp31
      refine CW.region ?_
      refine LW.pure rfl rfl (RV.move rfl) ?_
      refine LW.pure rfl rfl (RV.nei rfl rfl) ?_
      refine LW.pure rfl rfl (RV.move rfl) ?_
      refine LW.noB rfl rfl rfl rfl (ne_beq (v := true) (not_t hq31) rfl) ?_
      refine LW.noB rfl rfl rfl rfl (ne_beq (v := true) (not_t hq31) rfl) ?_
      refine LW.pure rfl rfl (RV.pickTB rfl (not_t hq31) rfl) ?_
      refine LW.pure rfl rfl (RV.move rfl) ?_
      refine LW.noB rfl rfl rfl rfl (ne_beq (v := true) rfl rfl) ?_
      refine LW.noB rfl rfl rfl rfl (ne_beq (v := true) rfl rfl) ?_
      refine LW.pure rfl rfl (RV.pickTB rfl rfl rfl) ?_
      replace H := H.pick (L' := [.blk b1 24 [.int .i64 a0.layers, .slice A_a0_bounds a0.bounds.length c_a0_bounds], .blk b2 26 [.int .i64 a2.a, .int .i64 a2.b, .int .i64 a2.most]]) [2, 1] (by decide) rfl
      replace R0 := H.ext
      refine LW.nil (jK326 _ _ ⟨_, ?_, ⟨true, F, rfl, H⟩⟩)
      exact ⟨rfl, rfl, rfl, rfl, rfl, trivial⟩
end Go.D3

set_option linter.unusedVariables false
set_option linter.unusedSimpArgs false
namespace Go.D3
open Go.Tb Go.Core
theorem tighter_eq (t o : Tight) : core_tight_tighter t o = some (tighter t o) := by
  unfold core_tight_tighter core_tight_tighter_k1 tighter
  cases t with
  | mk k m => cases o with
    | mk k2 m2 =>
      cases k <;> cases k2 <;> simp
      split <;> rfl
theorem over_eq (t o : Tight) (h : InR (t.most + o.most)) : core_tight_over t o = some (tover t o) := by
  unfold core_tight_over tover
  cases t with
  | mk k m =>
    cases k
    · simp only [Bool.false_eq_true, if_false, Bool.false_and]; rw [gd_pos h]
    · simp only [if_true, Bool.true_and]; rw [gd_pos h]
end Go.D3
namespace Go.Core
open Go.Tb Go.D3
theorem Sq.atC {n : Nat} {m : TM} (h : Sq n m) {i j : Nat} (hi : i < n) (hj : j < n) : ∃ r, m[i]? = some r ∧ r[j]? = some (mg m i j) := by
  obtain ⟨r, hr⟩ := ex_at (l := m) (j := i) (by rw [h.len]; exact hi)
  obtain ⟨t, ht⟩ := ex_at (l := r) (j := j) (by rw [h.rowAt hr]; exact hj)
  exact ⟨r, hr, by rw [mg_of hr ht]; exact ht⟩
end Go.Core
namespace Go.D3
open Go.Tb Go.Core
theorem fwJ_eq {c : Core} (hv : validate c = 0) {p : Nat → Int} (hp : Pot c p) {k i : Nat} (hk : k < c.layers.toNat) (hi : i < c.layers.toNat) (rec2 : Int → TM → Option TM) :
    core_table_L1 c (k : Int) (i : Int) rec2 FU 0 (fwI c.layers.toNat (tK c k) k i) = core_table_k3 (i : Int) rec2 (fwI c.layers.toNat (tK c k) k (i + 1)) := by
  have hvo := validate_ok hv
  refine for_loop0 c.layers.toNat (fun j => fwJ (fwI c.layers.toNat (tK c k) k i) k i j) (fun n m t => core_table_L1 c (k : Int) (i : Int) rec2 n t m) _ (fun n j hj => ?_) (fun n => ?_) (by omega)
  · have hI := tR_inv hv hp hk hi (Nat.le_of_lt hj)
    show core_table_B1 c (k : Int) (i : Int) rec2 (core_table_L1 c (k : Int) (i : Int) rec2 n) _ _ = core_table_L1 c (k : Int) (i : Int) rec2 n _ (fwAt (fwJ (fwI c.layers.toNat (tK c k) k i) k i j) k i j)
    generalize fwJ (fwI c.layers.toNat (tK c k) k i) k i j = m at *
    obtain ⟨r1, h1, h1j⟩ := hI.sq.atC hi hj
    obtain ⟨r1', h1', h1k⟩ := hI.sq.atC hi hk
    obtain ⟨r2, h2, h2j⟩ := hI.sq.atC hk hj
    rw [h1] at h1'
    cases h1'
    have b1 := hI.bnd i k hi hk
    have b2 := hI.bnd k j hk hj
    unfold core_table_B1
    rw [if_pos (by omega), ix_nat h1, ix_nat h1, ix_nat h1j, ix_nat h1, ix_nat h1k, ix_nat h2, ix_nat h2j, bnd_eq (over_eq _ _ (by omega)), bnd_eq (tighter_eq _ _), ix_nat h1j, gd_pos (by omega), fwAt_of h1 h1 h1j h1 h1k h2 h2j]; rfl
  · show core_table_B1 c (k : Int) (i : Int) rec2 (core_table_L1 c (k : Int) (i : Int) rec2 n) _ _ = _
    unfold core_table_B1
    rw [if_neg (by omega)]; rfl
theorem fwI_eq {c : Core} (hv : validate c = 0) {p : Nat → Int} (hp : Pot c p) {k : Nat} (hk : k < c.layers.toNat) (rec1 : Int → TM → Option TM) :
    core_table_L2 c (k : Int) rec1 FU 0 (tK c k) = core_table_k2 (k : Int) rec1 (tK c (k + 1)) := by
  have hvo := validate_ok hv
  refine for_loop0 c.layers.toNat (fun i => fwI c.layers.toNat (tK c k) k i) (fun n m t => core_table_L2 c (k : Int) rec1 n t m) _ (fun n i hi => ?_) (fun n => ?_) (by omega)
  · show core_table_B2 c (k : Int) rec1 (core_table_L2 c (k : Int) rec1 n) _ _ = _
    unfold core_table_B2
    rw [if_pos (by omega), fwJ_eq hv hp hk hi]
    unfold core_table_k3
    rw [gd_pos (by omega)]; rfl
  · show core_table_B2 c (k : Int) rec1 (core_table_L2 c (k : Int) rec1 n) _ _ = _
    unfold core_table_B2
    rw [if_neg (by omega)]; rfl
theorem fwK_eq {c : Core} (hv : validate c = 0) {p : Nat → Int} (hp : Pot c p) : core_table_L3 c FU 0 (tK c 0) = some (table c) := by
  have hvo := validate_ok hv
  refine for_loop0 c.layers.toNat (fun k => tK c k) (fun n m t => core_table_L3 c n t m) _ (fun n k hk => ?_) (fun n => ?_) (by omega)
  · show core_table_B3 c (core_table_L3 c n) _ _ = _
    unfold core_table_B3
    rw [if_pos (by omega), fwI_eq hv hp hk]
    unfold core_table_k2
    rw [gd_pos (by omega)]; rfl
  · show core_table_B3 c (core_table_L3 c n) _ _ = _
    unfold core_table_B3
    rw [if_neg (by omega)]; rfl
theorem tB_eq {c : Core} (hv : validate c = 0) {p : Nat → Int} (hp : Pot c p) : core_table_L4 c FU 0 (tI c.layers.toNat c.layers.toNat) = some (table c) := by
  have hvo := validate_ok hv
  rw [← fwK_eq hv hp]
  refine for_loop0 c.bounds.length (fun j => tB c.layers.toNat c.bounds j) (fun n m t => core_table_L4 c n t m) _ (fun n j hj => ?_) (fun n => ?_) (by omega)
  · obtain ⟨x, hx⟩ := ex_at hj
    have hb := bound_ok hv hx
    have hI := tB_inv hv hp j
    show core_table_B4 c (core_table_L4 c n) _ _ = _
    rw [tB_succ hx]
    generalize tB c.layers.toNat c.bounds j = m at *
    obtain ⟨r1, h1, h1j⟩ := hI.sq.atC (i := x.a.toNat) (j := x.b.toNat) (by omega) (by omega)
    unfold core_table_B4
    rw [if_pos (by omega), ix_nat hx, ix_eq hb.1 h1, ix_eq hb.1 h1, ix_eq hb.2.2.1 h1j, bnd_eq (tighter_eq _ _), ix_eq hb.2.2.1 h1j, gd_pos (by omega), put_of h1]; rfl
  · show core_table_B4 c (core_table_L4 c n) _ _ = _
    unfold core_table_B4
    rw [if_neg (by omega)]; rfl
theorem table_eq {c : Core} (hv : validate c = 0) {p : Nat → Int} (hp : Pot c p) : core_table c = some (table c) := by
  have hvo := validate_ok hv
  unfold core_table
  rw [gd_pos (by omega), ← tB_eq hv hp]
  refine for_loop0 c.layers.toNat (fun i => tI c.layers.toNat i) (fun n m t => core_table_L5 c n t m) _ (fun n i hi => ?_) (fun n => ?_) (by omega)
  · have hl := tI_len c.layers.toNat i
    obtain ⟨r, hr⟩ := ex_at (l := tI c.layers.toNat i) (j := i) (by omega)
    show core_table_B5 c (core_table_L5 c n) _ _ = core_table_L5 c n _ ((tI c.layers.toNat i).set i ((List.replicate c.layers.toNat ⟨false, 0⟩).set i ⟨true, 0⟩))
    generalize tI c.layers.toNat i = m at *
    have h2 : (m.set i (List.replicate c.layers.toNat (⟨false, 0⟩ : Tight)))[i]? = some (List.replicate c.layers.toNat ⟨false, 0⟩) := List.getElem?_set_self (by omega)
    have h3 : (List.replicate c.layers.toNat (⟨false, 0⟩ : Tight))[i]? = some ⟨false, 0⟩ := by simp [List.getElem?_replicate, hi]
    unfold core_table_B5
    rw [if_pos (by simp; omega), gd_pos (by omega), ix_nat hr, Int.toNat_natCast, ix_nat h2, ix_nat h3, gd_pos (by omega), List.set_set]; rfl
  · show core_table_B5 c (core_table_L5 c n) _ _ = _
    unfold core_table_B5
    rw [if_neg (by simp)]; rfl
theorem tables_eq {c : Core} (hv : validate c = 0) : core_tables c = some (tables c) := by
  unfold core_tables tables
  rw [bnd_eq (clashes_eq hv)]
  cases hc : clashes c
  · rw [if_neg (by simp), bnd_eq (table_eq hv (pot_of hv hc))]; rfl
  · rfl
end Go.D3

set_option linter.unusedVariables false
set_option linter.unusedSimpArgs false
namespace Go.D3
open Go.Tb Go.Core Go.D3s
section
variable (f : Nat → Nat → Bool) (g : Nat → Nat → Int)
def one (a b : Nat) : List Bound := if (!decide (a = b) && f a b) = true then [⟨(a : Int), (b : Int), g a b⟩] else []
def rowP (a : Nat) : Nat → List Bound
  | 0 => []
  | b + 1 => rowP a b ++ one f g a b
def allP (n : Nat) : Nat → List Bound
  | 0 => []
  | a + 1 => allP n a ++ rowP f g a n
def colP (b : Nat) : Nat → List Bound
  | 0 => []
  | a + 1 => colP b a ++ one f g a b
def allC (n : Nat) : Nat → List Bound
  | 0 => []
  | b + 1 => allC n b ++ colP f g b n
def isP (n m : Nat) (x : Bound) : Prop := ∃ a b : Nat, a < n ∧ b < m ∧ a ≠ b ∧ f a b = true ∧ x = ⟨(a : Int), (b : Int), g a b⟩
variable {f g}
theorem mem_one {a b : Nat} {x : Bound} : x ∈ one f g a b ↔ a ≠ b ∧ f a b = true ∧ x = ⟨(a : Int), (b : Int), g a b⟩ := by
  unfold one
  split
  · rename_i h
    simp only [Bool.and_eq_true, Bool.not_eq_true', decide_eq_false_iff_not] at h
    simp [h]
  · rename_i h
    simp only [Bool.and_eq_true, Bool.not_eq_true', decide_eq_false_iff_not] at h
    constructor
    · intro hx; simp at hx
    · rintro ⟨h1, h2, _⟩; exact absurd ⟨h1, h2⟩ h
theorem mem_rowP {a : Nat} {x : Bound} : ∀ {m : Nat}, x ∈ rowP f g a m ↔ ∃ b, b < m ∧ a ≠ b ∧ f a b = true ∧ x = ⟨(a : Int), (b : Int), g a b⟩
  | 0 => by simp [rowP]
  | m + 1 => by
    unfold rowP
    rw [List.mem_append, mem_rowP, mem_one]
    constructor
    · rintro (⟨b, h1, h2⟩ | h)
      · exact ⟨b, by omega, h2⟩
      · exact ⟨m, by omega, h⟩
    · rintro ⟨b, h1, h2⟩
      by_cases hb : b = m
      · subst hb; exact .inr h2
      · exact .inl ⟨b, by omega, h2⟩
theorem mem_colP {b : Nat} {x : Bound} : ∀ {n : Nat}, x ∈ colP f g b n ↔ ∃ a, a < n ∧ a ≠ b ∧ f a b = true ∧ x = ⟨(a : Int), (b : Int), g a b⟩
  | 0 => by simp [colP]
  | n + 1 => by
    unfold colP
    rw [List.mem_append, mem_colP, mem_one]
    constructor
    · rintro (⟨a, h1, h2⟩ | h)
      · exact ⟨a, by omega, h2⟩
      · exact ⟨n, by omega, h⟩
    · rintro ⟨a, h1, h2⟩
      by_cases hb : a = n
      · subst hb; exact .inr h2
      · exact .inl ⟨a, by omega, h2⟩
theorem mem_allP {m : Nat} {x : Bound} : ∀ {n : Nat}, x ∈ allP f g m n ↔ isP f g n m x
  | 0 => by simp [allP, isP]
  | n + 1 => by
    unfold allP
    rw [List.mem_append, mem_allP, mem_rowP]
    constructor
    · rintro (⟨a, b, h1, h2⟩ | ⟨b, h1, h2⟩)
      · exact ⟨a, b, by omega, h2⟩
      · exact ⟨n, b, by omega, h1, h2⟩
    · rintro ⟨a, b, h1, h2, h3⟩
      by_cases ha : a = n
      · subst ha; exact .inr ⟨b, h2, h3⟩
      · exact .inl ⟨a, b, by omega, h2, h3⟩
theorem mem_allC {n : Nat} {x : Bound} : ∀ {m : Nat}, x ∈ allC f g n m ↔ isP f g n m x
  | 0 => by simp [allC, isP]
  | m + 1 => by
    unfold allC
    rw [List.mem_append, mem_allC, mem_colP]
    constructor
    · rintro (⟨a, b, h1, h2, h3⟩ | ⟨a, h1, h2⟩)
      · exact ⟨a, b, h1, by omega, h3⟩
      · exact ⟨a, m, h1, by omega, h2⟩
    · rintro ⟨a, b, h1, h2, h3⟩
      by_cases hb : b = m
      · subst hb; exact .inr ⟨a, h1, h3⟩
      · exact .inl ⟨a, b, h1, by omega, h3⟩
def stP (x y : Bound) : Prop := x.a < y.a ∨ (x.a = y.a ∧ x.b < y.b)
def stC (x y : Bound) : Prop := x.b < y.b ∨ (x.b = y.b ∧ x.a < y.a)
theorem one_pair {R : Bound → Bound → Prop} (a b : Nat) : (one f g a b).Pairwise R := by
  unfold one; split <;> simp
theorem rowP_st (a : Nat) : ∀ m, (rowP f g a m).Pairwise stP
  | 0 => by simp [rowP]
  | m + 1 => by
    unfold rowP
    refine List.pairwise_append.2 ⟨rowP_st a m, one_pair _ _, fun x hx y hy => ?_⟩
    obtain ⟨b, h1, _, _, rfl⟩ := mem_rowP.1 hx
    obtain ⟨_, _, rfl⟩ := mem_one.1 hy
    exact .inr ⟨rfl, by simp only; omega⟩
theorem allP_st (m : Nat) : ∀ n, (allP f g m n).Pairwise stP
  | 0 => by simp [allP]
  | n + 1 => by
    unfold allP
    refine List.pairwise_append.2 ⟨allP_st m n, rowP_st n m, fun x hx y hy => ?_⟩
    obtain ⟨a, b, h1, _, _, _, rfl⟩ := mem_allP.1 hx
    obtain ⟨b', _, _, _, rfl⟩ := mem_rowP.1 hy
    exact .inl (by simp only; omega)
theorem colP_st (b : Nat) : ∀ n, (colP f g b n).Pairwise stC
  | 0 => by simp [colP]
  | n + 1 => by
    unfold colP
    refine List.pairwise_append.2 ⟨colP_st b n, one_pair _ _, fun x hx y hy => ?_⟩
    obtain ⟨a, h1, _, _, rfl⟩ := mem_colP.1 hx
    obtain ⟨_, _, rfl⟩ := mem_one.1 hy
    exact .inr ⟨rfl, by simp only; omega⟩
theorem allC_st (n : Nat) : ∀ m, (allC f g n m).Pairwise stC
  | 0 => by simp [allC]
  | m + 1 => by
    unfold allC
    refine List.pairwise_append.2 ⟨allC_st n m, colP_st m n, fun x hx y hy => ?_⟩
    obtain ⟨a, b, _, h1, _, _, rfl⟩ := mem_allC.1 hx
    obtain ⟨a', _, _, _, rfl⟩ := mem_colP.1 hy
    exact .inl (by simp only; omega)
theorem sort_allC (n : Nat) : DistB (allC f g n n) ∧ sortB (allC f g n n) = allP f g n n := by
  have hP := allP_st (f := f) (g := g) n n
  have hC := allC_st (f := f) (g := g) n n
  have dC : DistB (allC f g n n) := hC.imp fun {x y} h e => by unfold stC at h; omega
  refine ⟨dC, ?_⟩
  have n1 : (allP f g n n).Nodup := hP.imp fun {x y} h e => by subst e; unfold stP at h; omega
  have n2 : (allC f g n n).Nodup := hC.imp fun {x y} h e => by subst e; unfold stC at h; omega
  have hp : (allP f g n n).Perm (allC f g n n) := (List.perm_ext_iff_of_nodup n1 n2).2 fun x => by rw [mem_allP, mem_allC]
  exact (sortB_of hp (hP.imp fun {x y} h => by unfold stP at h; unfold ltB; simp; omega) dC).symm
theorem one_len (a b : Nat) : (one f g a b).length ≤ 1 := by unfold one; split <;> simp
theorem colP_len (b : Nat) : ∀ n, (colP f g b n).length ≤ n
  | 0 => by simp [colP]
  | n + 1 => by unfold colP; rw [List.length_append]; have := colP_len b n; have := one_len (f := f) (g := g) n b; omega
theorem rowP_len (a : Nat) : ∀ n, (rowP f g a n).length ≤ n
  | 0 => by simp [rowP]
  | n + 1 => by unfold rowP; rw [List.length_append]; have := rowP_len a n; have := one_len (f := f) (g := g) a n; omega
theorem allC_len (n : Nat) : ∀ m, (allC f g n m).length ≤ m * n
  | 0 => by simp [allC]
  | m + 1 => by unfold allC; rw [List.length_append, Nat.succ_mul]; have := allC_len n m; have := colP_len (f := f) (g := g) m n; omega
theorem allP_len (n : Nat) : ∀ m, (allP f g n m).length ≤ m * n
  | 0 => by simp [allP]
  | m + 1 => by unfold allP; rw [List.length_append, Nat.succ_mul]; have := allP_len n m; have := rowP_len (f := f) (g := g) m n; omega
end
abbrev kT (c : Core) (a b : Nat) : Bool := (mg (table c) a b).known
abbrev mT (c : Core) (a b : Nat) : Int := (mg (table c) a b).most
def plainR (c : Core) : List Bound := allP (kT c) (mT c) c.layers.toNat c.layers.toNat
theorem small {n a : Nat} (hn : n ≤ 8) (ha : a ≤ n) : a * n ≤ 64 := by
  have h1 : a * n ≤ 8 * n := Nat.mul_le_mul_right n (by omega)
  omega
theorem table_inv {c : Core} (hv : validate c = 0) (hc : clashes c = false) : TInv c.layers.toNat (pot c) 2560000 (table c) := tK_inv hv (pot_of hv hc) (Nat.le_refl _)
theorem plain_eq {c : Core} (hv : validate c = 0) (hc : clashes c = false) : core_plain (table c) = some (plainR c) := by
  have hvo := validate_ok hv
  have hI := table_inv hv hc
  have hl := hI.sq.len
  have hn8 : c.layers.toNat ≤ 8 := by omega
  have hS := sort_allC (f := kT c) (g := mT c) c.layers.toNat
  unfold core_plain
  have hfin : core_plain_k2 (allC (kT c) (mT c) c.layers.toNat c.layers.toNat) = some (plainR c) := by
    have hlC := allC_len (f := kT c) (g := mT c) c.layers.toNat c.layers.toNat
    have hlP := allP_len (f := kT c) (g := mT c) c.layers.toNat c.layers.toNat
    have hsm := small hn8 (Nat.le_refl _)
    have e : slices_SortFunc_order (allC (kT c) (mT c) c.layers.toNat c.layers.toNat) = some (plainR c) := by
      unfold slices_SortFunc_order
      rw [gd_pos ⟨by omega, hS.1⟩, hS.2]; rfl
    have hll : (allC (kT c) (mT c) c.layers.toNat c.layers.toNat).length = (plainR c).length := by
      unfold plainR
      rw [← hS.2]
      exact (List.mergeSort_perm _ _).length_eq.symm
    unfold core_plain_k2
    rw [bnd_eq e]
    have hpl : (plainR c).length ≤ 64 := by unfold plainR; omega
    refine for_loop0 (plainR c).length (fun i => (plainR c).take i) (fun n l t => core_plain_L1 (allC (kT c) (mT c) c.layers.toNat c.layers.toNat) (plainR c) n t l) _ (fun n i hi => ?_) (fun n => ?_) (by omega)
    · obtain ⟨x, hx⟩ := ex_at hi
      show core_plain_B1 _ (plainR c) (core_plain_L1 _ (plainR c) n) _ _ = _
      unfold core_plain_B1
      have ht : ((plainR c).take i).length ≤ i := by rw [List.length_take]; omega
      rw [if_pos (by omega), ix_nat hx, gd_pos (by simp only [List.length_singleton]; omega), gd_pos (by omega), List.take_add_one, hx]; rfl
    · show core_plain_B1 _ (plainR c) (core_plain_L1 _ (plainR c) n) _ _ = _
      unfold core_plain_B1 core_plain_k1
      rw [if_neg (by omega), List.take_length]
  rw [← hfin]
  refine for_loop0 c.layers.toNat (fun b => allC (kT c) (mT c) c.layers.toNat b) (fun n l t => core_plain_L3 (table c) n t l) _ (fun n b hb => ?_) (fun n => ?_) (by omega)
  · show core_plain_B3 (table c) (core_plain_L3 (table c) n) _ _ = _
    unfold core_plain_B3
    rw [if_pos (by omega)]
    have hlC := allC_len (f := kT c) (g := mT c) c.layers.toNat b
    have hsm := small hn8 (Nat.le_of_lt hb)
    have h := for_loop0 c.layers.toNat (fun a => allC (kT c) (mT c) c.layers.toNat b ++ colP (kT c) (mT c) b a) (fun k l t => core_plain_L2 (table c) (b : Int) (core_plain_L3 (table c) n) k t l) (core_plain_k3 (b : Int) (core_plain_L3 (table c) n) (allC (kT c) (mT c) c.layers.toNat (b + 1))) (fun k a ha => ?_) (fun k => ?_) (by omega)
    · have h' : core_plain_L2 (table c) (b : Int) (core_plain_L3 (table c) n) FU 0 (allC (kT c) (mT c) c.layers.toNat b ++ colP (kT c) (mT c) b 0) = _ := h
      rw [show allC (kT c) (mT c) c.layers.toNat b ++ colP (kT c) (mT c) b 0 = allC (kT c) (mT c) c.layers.toNat b from List.append_nil _] at h'
      rw [h']
      unfold core_plain_k3
      rw [gd_pos (by omega)]; rfl
    · obtain ⟨r, hr, hrb⟩ := hI.sq.atC (i := a) (j := b) (by omega) hb
      have hcl := colP_len (f := kT c) (g := mT c) b a
      have hll : (allC (kT c) (mT c) c.layers.toNat b ++ colP (kT c) (mT c) b a).length ≤ 80 := by rw [List.length_append]; omega
      show core_plain_B2 (table c) (b : Int) _ (core_plain_L2 (table c) (b : Int) _ k) _ _ = core_plain_L2 (table c) (b : Int) _ k _ (allC (kT c) (mT c) c.layers.toNat b ++ (colP (kT c) (mT c) b a ++ one (kT c) (mT c) a b))
      rw [← List.append_assoc]
      generalize allC (kT c) (mT c) c.layers.toNat b ++ colP (kT c) (mT c) b a = l at hll ⊢
      unfold core_plain_B2 core_plain_k5 core_plain_k4 one
      rw [if_pos (by omega)]
      by_cases hab : a = b
      · subst hab
        rw [if_pos rfl, if_neg (by simp), gd_pos (by omega)]
        simp
      · rw [if_neg (by omega), ix_nat hr, ix_nat hrb]
        cases hk : (mg (table c) a b).known
        · rw [if_neg (by simp), gd_pos (by omega)]
          simp [kT, hk]
        · rw [if_pos rfl, ix_nat hr, ix_nat hrb, gd_pos (by simp only [List.length_singleton]; omega), gd_pos (by omega)]
          simp [kT, hk, hab]
    · show core_plain_B2 (table c) (b : Int) _ (core_plain_L2 (table c) (b : Int) _ k) _ _ = _
      unfold core_plain_B2
      rw [if_neg (by omega)]; rfl
  · show core_plain_B3 (table c) (core_plain_L3 (table c) n) _ _ = _
    unfold core_plain_B3
    rw [if_neg (by omega)]
theorem rplain_eq {c : Core} (hv : validate c = 0) (hc : clashes c = false) : ref03_plain c = some (plainR c) := by
  have hvo := validate_ok hv
  have hn8 : c.layers.toNat ≤ 8 := by omega
  unfold ref03_plain
  rw [bnd_eq (walks_eq hv c.layers (by omega))]
  have hW := fun a b (ha : a < c.layers.toNat) (hb : b < c.layers.toNat) => table_wN hv hc ha hb
  have hp := fun a => wN_inv' hv a (k := c.layers.toNat) hn8
  unfold plainR
  refine for_loop0 c.layers.toNat (fun a => allP (kT c) (mT c) c.layers.toNat a) (fun n l t => ref03_plain_L2 c (wsT c c.layers.toNat c.layers.toNat, wkT c c.layers.toNat c.layers.toNat) n t l) _ (fun n a ha => ?_) (fun n => ?_) (by omega)
  · show ref03_plain_B2 c _ (ref03_plain_L2 c _ n) _ _ = _
    unfold ref03_plain_B2
    rw [if_pos (by omega)]
    have hlP := allP_len (f := kT c) (g := mT c) c.layers.toNat a
    have hsm := small hn8 (Nat.le_of_lt ha)
    have hs := wsT_at c c.layers.toNat c.layers.toNat (Nat.le_refl _) a ha
    have hk := wkT_at c c.layers.toNat c.layers.toNat (Nat.le_refl _) a ha
    generalize hR : ref03_plain_L2 c (wsT c c.layers.toNat c.layers.toNat, wkT c c.layers.toNat c.layers.toNat) n = R2
    have h := for_loop0 c.layers.toNat (fun b => allP (kT c) (mT c) c.layers.toNat a ++ rowP (kT c) (mT c) a b) (fun k l t => ref03_plain_L1 c (wsT c c.layers.toNat c.layers.toNat, wkT c c.layers.toNat c.layers.toNat) (a : Int) R2 k t l) (ref03_plain_k2 (a : Int) R2 (allP (kT c) (mT c) c.layers.toNat (a + 1))) (fun k b hb => ?_) (fun k => ?_) (by omega)
    · have h' : ref03_plain_L1 c (wsT c c.layers.toNat c.layers.toNat, wkT c c.layers.toNat c.layers.toNat) (a : Int) R2 FU 0 (allP (kT c) (mT c) c.layers.toNat a ++ rowP (kT c) (mT c) a 0) = _ := h
      rw [show allP (kT c) (mT c) c.layers.toNat a ++ rowP (kT c) (mT c) a 0 = allP (kT c) (mT c) c.layers.toNat a from List.append_nil _] at h'
      rw [h', ← hR]
      unfold ref03_plain_k2
      rw [gd_pos (by omega)]; rfl
    · obtain ⟨kb, hkb⟩ := ex_at (l := (wN c a c.layers.toNat).2) (j := b) (by rw [(hp a).l2]; omega)
      obtain ⟨sb, hsb⟩ := ex_at (l := (wN c a c.layers.toNat).1) (j := b) (by rw [(hp a).l1]; omega)
      have hw := hW a b ha hb
      have e1 : kn (wN c a c.layers.toNat) b = kb := by simp [kn, List.getD, hkb]
      have e2 : sm (wN c a c.layers.toNat) b = sb := by simp [sm, List.getD, hsb]
      rw [e1, e2] at hw
      have hcl := rowP_len (f := kT c) (g := mT c) a b
      have hll : (allP (kT c) (mT c) c.layers.toNat a ++ rowP (kT c) (mT c) a b).length ≤ 80 := by rw [List.length_append]; omega
      show ref03_plain_B1 c (wsT c c.layers.toNat c.layers.toNat, wkT c c.layers.toNat c.layers.toNat) (a : Int) R2 (ref03_plain_L1 c (wsT c c.layers.toNat c.layers.toNat, wkT c c.layers.toNat c.layers.toNat) (a : Int) R2 k) _ _ = ref03_plain_L1 c (wsT c c.layers.toNat c.layers.toNat, wkT c c.layers.toNat c.layers.toNat) (a : Int) R2 k _ (allP (kT c) (mT c) c.layers.toNat a ++ (rowP (kT c) (mT c) a b ++ one (kT c) (mT c) a b))
      rw [← List.append_assoc]
      generalize allP (kT c) (mT c) c.layers.toNat a ++ rowP (kT c) (mT c) a b = l at hll ⊢
      unfold ref03_plain_B1 ref03_plain_k4 ref03_plain_k3 one
      rw [if_pos (by omega)]
      by_cases hab : a = b
      · subst hab
        rw [if_pos rfl, if_neg (by simp), gd_pos (by omega)]
        simp
      · rw [if_neg (by omega), ix_nat hk, ix_nat hkb]
        cases hkk : kb
        · rw [hkk] at hw
          rw [if_neg (by simp), gd_pos (by omega)]
          simp [kT, hw.1]
        · rw [hkk] at hw
          rw [if_pos rfl, ix_nat hs, ix_nat hsb, gd_pos (by simp only [List.length_singleton]; omega), gd_pos (by omega)]
          simp [kT, mT, hw.1, hw.2 hw.1, hab]
    · show ref03_plain_B1 c _ (a : Int) R2 (ref03_plain_L1 c _ (a : Int) R2 k) _ _ = _
      unfold ref03_plain_B1
      rw [if_neg (by omega)]; rfl
  · show ref03_plain_B2 c _ (ref03_plain_L2 c _ n) _ _ = _
    unfold ref03_plain_B2
    rw [if_neg (by omega)]; rfl
def plainE (c : Core) : List Bound × Int := if validate c = 0 then (if clashes c = true then ([], 10) else (plainR c, 0)) else ([], validate c)
theorem Plain_eq (c : Core) (hl : c.bounds.length ≤ 100) : core_Plain c = some (plainE c) ∧ ref03_Plain c = some (plainE c) := by
  unfold core_Plain ref03_Plain plainE
  rw [bnd_eq (Validate_eq c hl), bnd_eq (rValidate_eq c hl)]
  by_cases hv : validate c = 0
  · rw [if_pos hv, if_pos hv, if_pos hv, bnd_eq (tables_eq hv), bnd_eq (rclashes_eq hv), ← clash_iff hv]
    unfold tables
    cases hc : clashes c
    · simp only [Bool.false_eq_true, if_false, if_true]
      rw [bnd_eq (plain_eq hv hc), bnd_eq (rplain_eq hv hc)]
      exact ⟨rfl, rfl⟩
    · simp
  · rw [if_neg hv, if_neg hv, if_neg hv]
    exact ⟨rfl, rfl⟩
def eqO : Option Bound → Option Bound → Bool
  | some x, some y => (x.a == y.a) && (x.b == y.b) && (x.most == y.most)
  | none, none => true
  | _, _ => false
def eqV (l l' : List Bound) : Bool := if (l.length : Int) = (l'.length : Int) then (List.range l.length).all (fun i => eqO l[i]? l'[i]?) else false
theorem at_eq {l l' : List Bound} {i : Nat} {x y : Bound} (hx : l[i]? = some x) (hy : l'[i]? = some y) : (((x.a == y.a) && (x.b == y.b) && (x.most == y.most)) = true) ↔ eqO l[i]? l'[i]? = true := by
  rw [hx, hy]; rfl
theorem SameB_eq (l l' : List Bound) (hl : l.length ≤ 1000000) : ref03_SameBounds l l' = some (eqV l l') ∧ slices_Equal_Bound l l' = some (eqV l l') := by
  unfold ref03_SameBounds slices_Equal_Bound eqV
  by_cases he : (l.length : Int) = (l'.length : Int)
  · rw [if_pos he, if_pos he, if_pos he]
    constructor
    · refine Eq.trans (scan_loop0 l.length (fun i => eqO l[i]? l'[i]?) (fun _ => ()) (fun n _ i => ref03_SameBounds_L1 l l' n i) (some true) (some false) (fun n i hi => ?_) (fun n => ?_) (by omega)) ?_
      · obtain ⟨x, hx⟩ := ex_at (l := l) (j := i) hi
        obtain ⟨y, hy⟩ := ex_at (l := l') (j := i) (by omega)
        show ref03_SameBounds_B1 l l' (ref03_SameBounds_L1 l l' n) _ = _
        unfold ref03_SameBounds_B1
        rw [if_pos (by omega), ix_nat hx, ix_nat hy]
        by_cases h : ((x.a == y.a) && (x.b == y.b) && (x.most == y.most)) = true
        · rw [if_pos h, if_pos ((at_eq hx hy).1 h), gd_pos (by omega)]; rfl
        · rw [if_neg h, if_neg (fun h' => h ((at_eq hx hy).2 h'))]
      · show ref03_SameBounds_B1 l l' (ref03_SameBounds_L1 l l' n) _ = _
        unfold ref03_SameBounds_B1
        rw [if_neg (by omega)]; rfl
      · by_cases h : ∀ j, j < l.length → eqO l[j]? l'[j]? = true
        · rw [if_pos h]
          congr 1; symm
          exact List.all_eq_true.2 fun j hj => h j (List.mem_range.1 hj)
        · rw [if_neg h]
          congr 1; symm
          cases ha : (List.range l.length).all (fun i => eqO l[i]? l'[i]?) with
          | false => rfl
          | true => exact absurd (fun j hj => List.all_eq_true.1 ha j (List.mem_range.2 hj)) h
    · refine Eq.trans (scan_loop0 l.length (fun i => eqO l[i]? l'[i]?) (fun _ => ()) (fun n _ i => slices_Equal_Bound_L1 l l' n i) (some true) (some false) (fun n i hi => ?_) (fun n => ?_) (by omega)) ?_
      · obtain ⟨x, hx⟩ := ex_at (l := l) (j := i) hi
        obtain ⟨y, hy⟩ := ex_at (l := l') (j := i) (by omega)
        show slices_Equal_Bound_B1 l l' (slices_Equal_Bound_L1 l l' n) _ = _
        unfold slices_Equal_Bound_B1
        rw [if_pos (by omega), ix_nat hx, ix_nat hy]
        by_cases h : ((x.a == y.a) && (x.b == y.b) && (x.most == y.most)) = true
        · rw [if_pos h, if_pos ((at_eq hx hy).1 h), gd_pos (by omega)]; rfl
        · rw [if_neg h, if_neg (fun h' => h ((at_eq hx hy).2 h'))]
      · show slices_Equal_Bound_B1 l l' (slices_Equal_Bound_L1 l l' n) _ = _
        unfold slices_Equal_Bound_B1
        rw [if_neg (by omega)]; rfl
      · by_cases h : ∀ j, j < l.length → eqO l[j]? l'[j]? = true
        · rw [if_pos h]
          congr 1; symm
          exact List.all_eq_true.2 fun j hj => h j (List.mem_range.1 hj)
        · rw [if_neg h]
          congr 1; symm
          cases ha : (List.range l.length).all (fun i => eqO l[i]? l'[i]?) with
          | false => rfl
          | true => exact absurd (fun j hj => List.all_eq_true.1 ha j (List.mem_range.2 hj)) h
  · rw [if_neg he, if_neg he, if_neg he]
    exact ⟨rfl, rfl⟩
theorem plainR_len {c : Core} (hv : validate c = 0) : (plainR c).length ≤ 64 := by
  have hvo := validate_ok hv
  have h1 := allP_len (f := kT c) (g := mT c) c.layers.toNat c.layers.toNat
  have h2 := small (n := c.layers.toNat) (by omega) (Nat.le_refl _)
  unfold plainR; omega
def sameE (c d : Core) : Bool × Int := if twoE c d = 0 then (if clashes c = true ∨ clashes d = true then (false, 10) else (eqV (plainR c) (plainR d), 0)) else (false, twoE c d)
theorem two0 {c d : Core} (h : twoE c d = 0) : validate c = 0 ∧ validate d = 0 := by
  unfold twoE at h
  split at h
  · rename_i h1
    split at h
    · rename_i h2; exact ⟨h1, h2⟩
    · rename_i h2; exact absurd h h2
  · rename_i h1; exact absurd h h1
theorem Same_eq {c d : Core} (hc : c.bounds.length ≤ 100) (hd : d.bounds.length ≤ 100) : core_Same c d = some (sameE c d) ∧ ref03_Same c d = some (sameE c d) := by
  obtain ⟨b1, b2⟩ := both_eq hc hd
  unfold core_Same ref03_Same sameE
  rw [bnd_eq b1, bnd_eq b2]
  by_cases h0 : twoE c d = 0
  · obtain ⟨v1, v2⟩ := two0 h0
    rw [if_pos h0, if_pos h0, if_pos h0, bnd_eq (clashes_eq v1), bnd_eq (rclashes_eq v1), ← clash_iff v1]
    unfold core_Same_k1 ref03_Same_k1
    cases h1 : clashes c
    · simp only [Bool.false_eq_true, if_false, false_or]
      rw [bnd_eq (clashes_eq v2), bnd_eq (rclashes_eq v2), ← clash_iff v2]
      cases h2 : clashes d
      · simp only [Bool.false_eq_true, if_false]
        have l1 := plainR_len v1
        have e := SameB_eq (plainR c) (plainR d) (by omega)
        rw [bnd_eq (table_eq v1 (pot_of v1 h1)), bnd_eq (plain_eq v1 h1), bnd_eq (table_eq v2 (pot_of v2 h2)), bnd_eq (plain_eq v2 h2), bnd_eq e.2, bnd_eq (rplain_eq v1 h1), bnd_eq (rplain_eq v2 h2), bnd_eq e.1]
        exact ⟨rfl, rfl⟩
      · simp
    · simp
  · rw [if_neg h0, if_neg h0, if_neg h0]
    exact ⟨rfl, rfl⟩
end Go.D3

set_option linter.unusedVariables false
set_option linter.unusedSimpArgs false
namespace Go.D3
open Go.Tb Go.Core
abbrev subC (c : Core) (bs : List Bound) : Core := ⟨c.layers, bs⟩
def del (l : List Bound) (i : Nat) : List Bound := l.take i ++ l.drop (i + 1)
def fl (d : Core) (y : Bound) : Bool := kT d y.a.toNat y.b.toNat && decide (mT d y.a.toNat y.b.toNat ≤ y.most)
def redS (c : Core) (bs : List Bound) (i : Nat) : List Bound :=
  match bs[i]? with
  | some y => if fl (subC c (del bs i)) y = true then del bs i else bs
  | none => bs
def redN (c : Core) : Nat → List Bound
  | 0 => c.bounds
  | j + 1 => redS c (redN c j) (c.bounds.length - 1 - j)
theorem sub_valid {c : Core} (hv : validate c = 0) {bs : List Bound} (hm : ∀ x ∈ bs, x ∈ c.bounds) (hl : bs.length ≤ c.bounds.length) : validate (subC c bs) = 0 := by
  have a := validate_ok hv
  unfold validate
  have e1 : within c.layers 1 8 = true := Go.Core.within_iff.2 ⟨a.1, a.2.1⟩
  show (if within c.layers 1 8 = false then (1 : Int) else if 20 < (bs.length : Int) then 3 else if bs.all (fun x => right x c.layers) then 0 else 1) = 0
  rw [if_neg (by rw [e1]; simp), if_neg (by omega), if_pos]
  rw [List.all_eq_true]
  exact fun x hx => a.2.2.2 x (hm x hx)
theorem sub_path {c d : Core} (hm : ∀ x ∈ d.bounds, x ∈ c.bounds) : ∀ {u v : Nat} {e : List Bound}, Path d u e v → Path c u e v
  | _, _, _, .nil a => .nil a
  | _, _, _, .cons hx h => .cons (hm _ hx) (sub_path hm h)
theorem sub_clash {c : Core} (hv : validate c = 0) (hc : clashes c = false) {bs : List Bound} (hm : ∀ x ∈ bs, x ∈ c.bounds) (hl : bs.length ≤ c.bounds.length) : clashes (subC c bs) = false := by
  cases h : clashes (subC c bs) with
  | false => rfl
  | true =>
    obtain ⟨u, e, hu, hp, hw⟩ := (clash_path (sub_valid hv hm hl)).1 h
    have : clashes c = true := (clash_path hv).2 ⟨u, e, hu, sub_path (d := subC c bs) hm hp, hw⟩
    rw [hc] at this; cases this
theorem del_mem {l : List Bound} {i : Nat} {x : Bound} (h : x ∈ del l i) : x ∈ l := by
  unfold del at h
  rcases List.mem_append.1 h with h | h
  · exact List.mem_of_mem_take h
  · exact List.mem_of_mem_drop h
theorem del_len {l : List Bound} {i : Nat} (h : i < l.length) : (del l i).length + 1 = l.length := by
  unfold del
  rw [List.length_append, List.length_take, List.length_drop]; omega
theorem mem_del {l : List Bound} {i : Nat} {x y : Bound} (hy : l[i]? = some y) (h : x ∈ l) : x ∈ del l i ∨ x = y := by
  obtain ⟨j, hj⟩ := List.getElem?_of_mem h
  by_cases e : j = i
  · subst e; rw [hj] at hy; exact .inr (Option.some.inj hy)
  · refine .inl ?_
    unfold del
    rw [List.mem_append]
    by_cases h1 : j < i
    · left
      have : (l.take i)[j]? = some x := by rw [List.getElem?_take, if_pos h1]; exact hj
      exact List.mem_of_getElem? this
    · right
      have : (l.drop (i + 1))[j - (i + 1)]? = some x := by rw [List.getElem?_drop, show i + 1 + (j - (i + 1)) = j by omega]; exact hj
      exact List.mem_of_getElem? this
theorem swap_path {c d : Core} {y : Bound} {e0 : List Bound} (hm : ∀ x ∈ c.bounds, x ∈ d.bounds ∨ x = y) (h0 : Path d y.a.toNat e0 y.b.toNat) (hw : wt e0 ≤ y.most) : ∀ {u v : Nat} {e : List Bound}, Path c u e v → ∃ e', Path d u e' v ∧ wt e' ≤ wt e
  | _, _, _, .nil a => ⟨[], .nil a, Int.le_refl _⟩
  | _, _, _, .cons (x := x) (es := es) hx h => by
    obtain ⟨e', h1, h2⟩ := swap_path hm h0 hw h
    rcases hm x hx with h3 | rfl
    · exact ⟨x :: e', .cons h3 h1, by show x.most + wt e' ≤ x.most + wt es; omega⟩
    · exact ⟨e0 ++ e', h0.append h1, by rw [wt_append]; show wt e0 + wt e' ≤ x.most + wt es; omega⟩
structure RI (c : Core) (j : Nat) (bs : List Bound) : Prop where
  mem : ∀ x ∈ bs, x ∈ c.bounds
  len1 : bs.length ≤ c.bounds.length
  len2 : c.bounds.length - j ≤ bs.length
  path : ∀ u v e, Path c u e v → ∃ e', Path (subC c bs) u e' v ∧ wt e' ≤ wt e
theorem RI.step {c : Core} (hv : validate c = 0) (hc : clashes c = false) {j : Nat} {bs : List Bound} (h : RI c j bs) (hj : j < c.bounds.length) : RI c (j + 1) (redS c bs (c.bounds.length - 1 - j)) := by
  have h2 := h.len2
  obtain ⟨y, hy⟩ := ex_at (l := bs) (j := c.bounds.length - 1 - j) (by omega)
  have hyl := lt_of_at hy
  have hdl := del_len hyl
  have hl1 := h.len1
  unfold redS
  rw [hy]
  simp only
  split
  · rename_i hf
    have hm : ∀ x ∈ del bs (c.bounds.length - 1 - j), x ∈ c.bounds := fun x hx => h.mem x (del_mem hx)
    have hl : (del bs (c.bounds.length - 1 - j)).length ≤ c.bounds.length := by omega
    have vd := sub_valid hv hm hl
    have cd := sub_clash hv hc hm hl
    have hyr := right_ok ((validate_ok hv).2.2.2 y (h.mem y (List.mem_of_getElem? hy)))
    refine ⟨hm, hl, by omega, fun u v e hp => ?_⟩
    obtain ⟨e1, p1, w1⟩ := h.path u v e hp
    unfold fl at hf
    rw [Bool.and_eq_true, decide_eq_true_eq] at hf
    obtain ⟨e0, p0, w0⟩ := (table_spec vd cd (i := y.a.toNat) (j := y.b.toNat) (by show y.a.toNat < c.layers.toNat; omega) (by show y.b.toNat < c.layers.toNat; omega)).1 hf.1
    obtain ⟨e2, p2, w2⟩ := swap_path (c := subC c bs) (d := subC c (del bs (c.bounds.length - 1 - j))) (fun x hx => mem_del hy hx) p0 (by rw [w0]; exact hf.2) p1
    exact ⟨e2, p2, by omega⟩
  · exact ⟨h.mem, h.len1, by omega, h.path⟩
theorem redN_RI {c : Core} (hv : validate c = 0) (hc : clashes c = false) : ∀ j, j ≤ c.bounds.length → RI c j (redN c j)
  | 0, _ => ⟨fun x hx => hx, Nat.le_refl _, Nat.sub_le _ _, fun u v e hp => ⟨e, hp, Int.le_refl _⟩⟩
  | j + 1, hj => (redN_RI hv hc j (by omega)).step hv hc (by omega)
section
variable {c : Core} (hv : validate c = 0) (hc : clashes c = false)
include hv hc
theorem follows_eq {y : Bound} (hy : right y c.layers = true) : core_follows (table c) y = some (fl c y) := by
  have hI := table_inv hv hc
  have hb := right_ok hy
  obtain ⟨r, hr, hrb⟩ := hI.sq.atC (i := y.a.toNat) (j := y.b.toNat) (by omega) (by omega)
  unfold core_follows fl
  rw [ix_eq hb.1 hr, ix_eq hb.2.2.1 hrb]
  cases h1 : (mg (table c) y.a.toNat y.b.toNat).known
  · simp [kT, h1]
  · rw [if_pos rfl, ix_eq hb.1 hr, ix_eq hb.2.2.1 hrb]
    simp [kT, mT, h1]
theorem rFollows_eq {y : Bound} (hy : right y c.layers = true) : ref03_Follows c y = some (fl c y, 0) := by
  have hvo := validate_ok hv
  have hb := right_ok hy
  have n8 : c.layers.toNat ≤ 8 := by omega
  have w1 : within y.a 0 (c.layers - 1) = true := Go.Core.within_iff.2 (by omega)
  have w2 : within y.b 0 (c.layers - 1) = true := Go.Core.within_iff.2 (by omega)
  have hl : ref03_layered c y.a y.b = some 0 := by
    unfold ref03_layered ref03_layered_k1
    rw [bnd_eq (rValidate_eq c (by omega)), if_pos hv, gd_pos (by omega), bnd_eq (rwithin_eq _ _ _), w1, if_pos rfl, gd_pos (by omega), bnd_eq (rwithin_eq _ _ _), w2, if_neg (by simp), bnd_eq (rclashes_eq hv), ← clash_iff hv, hc, if_neg (by simp)]
  have hx : y.a.toNat < c.layers.toNat := by omega
  have hz : y.b.toNat < c.layers.toNat := by omega
  have hp := wN_inv' hv y.a.toNat (k := c.layers.toNat) n8
  have hw := table_wN hv hc hx hz
  obtain ⟨k, hk⟩ := ex_at (l := (wN c y.a.toNat c.layers.toNat).2) (j := y.b.toNat) (by rw [hp.l2]; omega)
  obtain ⟨s, hs⟩ := ex_at (l := (wN c y.a.toNat c.layers.toNat).1) (j := y.b.toNat) (by rw [hp.l1]; omega)
  have e1 : kn (wN c y.a.toNat c.layers.toNat) y.b.toNat = k := by simp [kn, List.getD, hk]
  have e2 : sm (wN c y.a.toNat c.layers.toNat) y.b.toNat = s := by simp [sm, List.getD, hs]
  rw [e1, e2] at hw
  have hs1 := wsT_at c c.layers.toNat c.layers.toNat (Nat.le_refl _) y.a.toNat hx
  have hk1 := wkT_at c c.layers.toNat c.layers.toNat (Nat.le_refl _) y.a.toNat hx
  have hT : ref03_Tightest c y.a y.b = some (if kT c y.a.toNat y.b.toNat = true then (mT c y.a.toNat y.b.toNat, true, 0) else (0, false, 0)) := by
    unfold ref03_Tightest
    rw [bnd_eq hl, if_pos rfl, bnd_eq (walks_eq hv c.layers (by omega)), ix_eq hb.1 hk1, ix_eq hb.2.2.1 hk]
    cases hkk : k
    · rw [hkk] at hw
      rw [if_neg (by simp), show kT c y.a.toNat y.b.toNat = false from hw.1, if_neg (by simp)]
    · rw [hkk] at hw
      rw [if_pos rfl, ix_eq hb.1 hs1, ix_eq hb.2.2.1 hs, show kT c y.a.toNat y.b.toNat = true from hw.1, if_pos rfl, ← hw.2 hw.1]
  unfold ref03_Follows ref03_Follows_k1
  rw [bnd_eq (rValidate_eq c (by omega)), if_pos hv, gd_pos (by omega), bnd_eq (rwithin_eq _ _ _), w1, if_pos rfl, gd_pos (by omega), bnd_eq (rwithin_eq _ _ _), w2, if_neg (by simp), bnd_eq (isBound_eq y c.layers (by omega)), hy, if_pos rfl, bnd_eq hT]
  unfold fl
  cases h1 : kT c y.a.toNat y.b.toNat <;> simp
theorem reduce_loop : ∀ (d j : Nat), c.bounds.length = j + d → core_Reduce_L1 c ((backL c.bounds).drop j) (redN c j) = some (⟨c.layers, redN c c.bounds.length⟩, 0)
  | 0, j, hd => by
    have hj : j = c.bounds.length := by omega
    subst hj
    rw [List.drop_of_length_le (by rw [backL_len]; omega)]; rfl
  | d + 1, j, hd => by
    have hvo := validate_ok hv
    have hI := redN_RI hv hc j (by omega)
    have h2 := hI.len2
    have h1 := hI.len1
    obtain ⟨x, hx⟩ := ex_at (l := c.bounds) (j := c.bounds.length - 1 - j) (by omega)
    obtain ⟨y, hy⟩ := ex_at (l := redN c j) (j := c.bounds.length - 1 - j) (by omega)
    have hyl := lt_of_at hy
    have hdl := del_len hyl
    have hm : ∀ x ∈ del (redN c j) (c.bounds.length - 1 - j), x ∈ c.bounds := fun x hx => hI.mem x (del_mem hx)
    have hl : (del (redN c j) (c.bounds.length - 1 - j)).length ≤ c.bounds.length := by omega
    have vd := sub_valid hv hm hl
    have cd := sub_clash hv hc hm hl
    have hyr := hvo.2.2.2 y (hI.mem y (List.mem_of_getElem? hy))
    have ih := reduce_loop d (j + 1) (by omega)
    have e : redN c (j + 1) = if fl (subC c (del (redN c j) (c.bounds.length - 1 - j))) y = true then del (redN c j) (c.bounds.length - 1 - j) else redN c j := by
      show redS c (redN c j) (c.bounds.length - 1 - j) = _
      unfold redS
      rw [hy]
    rw [e] at ih
    rw [Tb.drop_at (backL_at hx (by omega))]
    show core_Reduce_B1 c (core_Reduce_L1 c ((backL c.bounds).drop (j + 1))) (((c.bounds.length - 1 - j : Nat) : Int), x) (redN c j) = _
    generalize redN c j = bs at *
    generalize c.bounds.length - 1 - j = i at *
    have ecl : slices_Clone_Bound bs = some bs := by unfold slices_Clone_Bound; rw [gd_pos (by simp; omega)]; rfl
    have edl : slices_Delete_Bound bs (i : Int) ((i : Int) + 1) = some (del bs i) := by
      unfold slices_Delete_Bound del
      rw [gd_pos (by omega), show ((i : Int) + 1).toNat = i + 1 by omega, Int.toNat_natCast]
    have etb : core_table ⟨c.layers, del bs i⟩ = some (table (subC c (del bs i))) := table_eq vd (pot_of vd cd)
    unfold core_Reduce_B1 core_Reduce_k1
    rw [bnd_eq ecl, gd_pos (by omega), bnd_eq edl, bnd_eq etb]
    show ix bs (i : Int) _ = _
    rw [ix_nat hy, bnd_eq (follows_eq vd cd hyr)]
    by_cases hf : fl (subC c (del bs i)) y = true
    · rw [if_pos hf] at ih ⊢; exact ih
    · rw [if_neg hf] at ih ⊢; exact ih
theorem rreduce_loop : ∀ (d j k : Nat), c.bounds.length = j + d → d < k → ref03_Reduce_L1 c k ((c.bounds.length : Int) - 1 - (j : Int)) c.layers (redN c j) = some (⟨c.layers, redN c c.bounds.length⟩, 0)
  | 0, j, k + 1, hd, hk => by
    have hj : j = c.bounds.length := by omega
    subst hj
    show ref03_Reduce_B1 c (ref03_Reduce_L1 c k) _ _ _ = _
    unfold ref03_Reduce_B1
    rw [if_neg (by omega)]; rfl
  | d + 1, j, k + 1, hd, hk => by
    have hvo := validate_ok hv
    have hI := redN_RI hv hc j (by omega)
    have h2 := hI.len2
    have h1 := hI.len1
    obtain ⟨y, hy⟩ := ex_at (l := redN c j) (j := c.bounds.length - 1 - j) (by omega)
    have hyl := lt_of_at hy
    have hdl := del_len hyl
    have hm : ∀ x ∈ del (redN c j) (c.bounds.length - 1 - j), x ∈ c.bounds := fun x hx => hI.mem x (del_mem hx)
    have hl : (del (redN c j) (c.bounds.length - 1 - j)).length ≤ c.bounds.length := by omega
    have vd := sub_valid hv hm hl
    have cd := sub_clash hv hc hm hl
    have hyr := hvo.2.2.2 y (hI.mem y (List.mem_of_getElem? hy))
    have ih := rreduce_loop d (j + 1) k (by omega) (by omega)
    have e : redN c (j + 1) = if fl (subC c (del (redN c j) (c.bounds.length - 1 - j))) y = true then del (redN c j) (c.bounds.length - 1 - j) else redN c j := by
      show redS c (redN c j) (c.bounds.length - 1 - j) = _
      unfold redS
      rw [hy]
    rw [e] at ih
    have ei : (c.bounds.length : Int) - 1 - (j : Int) = ((c.bounds.length - 1 - j : Nat) : Int) := by omega
    have ei2 : (c.bounds.length : Int) - 1 - ((j + 1 : Nat) : Int) = ((c.bounds.length - 1 - j : Nat) : Int) - 1 := by omega
    rw [ei2] at ih
    rw [ei]
    show ref03_Reduce_B1 c (ref03_Reduce_L1 c k) _ _ _ = _
    generalize redN c j = bs at *
    have hib : c.bounds.length - 1 - j ≤ 1000 := by omega
    generalize c.bounds.length - 1 - j = i at *
    have edl : ([] : List Bound) ++ List.take (Int.toNat (i : Int)) bs ++ List.drop (Int.toNat ((i : Int) + 1)) bs = del bs i := by
      unfold del
      rw [show ((i : Int) + 1).toNat = i + 1 by omega, Int.toNat_natCast, List.nil_append]
    unfold ref03_Reduce_B1 ref03_Reduce_k3
    rw [if_pos (by omega), gd_pos (by omega), gd_pos (by rw [List.length_take]; simp; omega), gd_pos (by omega), gd_pos (by omega), gd_pos (by rw [List.length_append, List.length_take, List.length_drop]; simp; omega), edl, ix_nat hy, bnd_eq (rFollows_eq (c := subC c (del bs i)) vd cd hyr)]
    unfold ref03_Reduce_k2
    by_cases hf : fl (subC c (del bs i)) y = true
    · rw [if_pos hf] at ih
      simp only [hf, if_true]
      rw [gd_pos (by omega)]; exact ih
    · rw [if_neg hf] at ih
      simp only [hf, if_false, Bool.false_eq_true]
      rw [gd_pos (by omega)]; exact ih
end
def reduceE (c : Core) : Core × Int := if validate c = 0 then (if clashes c = true then (⟨0, []⟩, 10) else (⟨c.layers, redN c c.bounds.length⟩, 0)) else (⟨0, []⟩, validate c)
theorem Reduce_eq (c : Core) (hl : c.bounds.length ≤ 100) : core_Reduce c = some (reduceE c) ∧ ref03_Reduce c = some (reduceE c) := by
  have ecl : slices_Clone_Bound c.bounds = some c.bounds := by unfold slices_Clone_Bound; rw [gd_pos (by simp; omega)]; rfl
  unfold core_Reduce ref03_Reduce reduceE
  rw [bnd_eq (Validate_eq c hl), bnd_eq (rValidate_eq c hl)]
  by_cases hv : validate c = 0
  · rw [if_pos hv, if_pos hv, if_pos hv, bnd_eq (clashes_eq hv), bnd_eq (rclashes_eq hv), ← clash_iff hv]
    cases hc : clashes c
    · simp only [Bool.false_eq_true, if_false]
      rw [bnd_eq ecl, bnd_eq (Copy_eq c (by omega)), gd_pos (by omega)]
      unfold core_Reduce_k3
      rw [gd_pos (by omega)]
      have h1 := reduce_loop hv hc c.bounds.length 0 (by omega)
      have h2 := rreduce_loop hv hc c.bounds.length 0 FU (by omega) (by have := FU_pos; omega)
      have e0 : (c.bounds.length : Int) - 1 - ((0 : Nat) : Int) = (c.bounds.length : Int) - 1 := by omega
      rw [e0] at h2
      exact ⟨h1, h2⟩
    · simp
  · rw [if_neg hv, if_neg hv, if_neg hv]
    exact ⟨rfl, rfl⟩
theorem allP_congr {f f' : Nat → Nat → Bool} {g g' : Nat → Nat → Int} {m : Nat} : ∀ n, (∀ a b, a < n → b < m → f a b = f' a b ∧ (f a b = true → g a b = g' a b)) → allP f g m n = allP f' g' m n
  | 0, _ => rfl
  | n + 1, h => by
    have row : ∀ k, k ≤ m → rowP f g n k = rowP f' g' n k := by
      intro k
      induction k with
      | zero => intro _; rfl
      | succ k ih =>
        intro hk
        have := h n k (by omega) (by omega)
        unfold rowP one
        rw [ih (by omega), ← this.1]
        cases hf : f n k
        · simp
        · rw [this.2 hf]
    unfold allP
    rw [allP_congr n (fun a b ha hb => h a b (by omega) hb), row m (Nat.le_refl _)]
theorem reduce_plain {c : Core} (hv : validate c = 0) (hc : clashes c = false) : validate (subC c (redN c c.bounds.length)) = 0 ∧ clashes (subC c (redN c c.bounds.length)) = false ∧ plainR (subC c (redN c c.bounds.length)) = plainR c := by
  have hI := redN_RI hv hc c.bounds.length (Nat.le_refl _)
  have vd := sub_valid hv hI.mem hI.len1
  have cd := sub_clash hv hc hI.mem hI.len1
  refine ⟨vd, cd, ?_⟩
  unfold plainR
  refine allP_congr _ fun a b ha hb => ?_
  obtain ⟨s1, s2⟩ := table_spec hv hc (i := a) (j := b) ha hb
  obtain ⟨t1, t2⟩ := table_spec vd cd (i := a) (j := b) ha hb
  have up : kT (subC c (redN c c.bounds.length)) a b = true → kT c a b = true ∧ mT c a b ≤ mT (subC c (redN c c.bounds.length)) a b := fun h => by
    obtain ⟨e, p, w⟩ := t1 h
    have := s2 e (sub_path (d := subC c (redN c c.bounds.length)) hI.mem p)
    exact ⟨this.1, by have := this.2; unfold mT; omega⟩
  have dn : kT c a b = true → kT (subC c (redN c c.bounds.length)) a b = true ∧ mT (subC c (redN c c.bounds.length)) a b ≤ mT c a b := fun h => by
    obtain ⟨e, p, w⟩ := s1 h
    obtain ⟨e', p', w'⟩ := hI.path a b e p
    have := t2 e' p'
    exact ⟨this.1, by have := this.2; unfold mT; omega⟩
  constructor
  · cases h1 : kT (subC c (redN c c.bounds.length)) a b with
    | true => exact (up h1).1.symm
    | false =>
      cases h2 : kT c a b with
      | false => rfl
      | true => rw [(dn h2).1] at h1; cases h1
  · intro h1
    have a1 := up h1
    have a2 := dn a1.1
    omega
theorem eqV_self (l : List Bound) : eqV l l = true := by
  unfold eqV
  rw [if_pos rfl, List.all_eq_true]
  intro j hj
  unfold eqO
  cases l[j]? with
  | none => rfl
  | some x => simp
theorem reduce_same {c : Core} (hv : validate c = 0) (hc : clashes c = false) (hl : c.bounds.length ≤ 100) : core_Same (subC c (redN c c.bounds.length)) c = some (true, 0) := by
  obtain ⟨v, cl, e⟩ := reduce_plain hv hc
  have hI := redN_RI hv hc c.bounds.length (Nat.le_refl _)
  have h1 := hI.len1
  rw [(Same_eq (c := subC c (redN c c.bounds.length)) (d := c) (by show (redN c c.bounds.length).length ≤ 100; omega) hl).1]
  unfold sameE
  rw [if_pos (show twoE (subC c (redN c c.bounds.length)) c = 0 by unfold twoE; rw [if_pos v, if_pos hv, if_pos rfl]), if_neg (by rw [cl, hc]; simp), e, eqV_self]
end Go.D3
