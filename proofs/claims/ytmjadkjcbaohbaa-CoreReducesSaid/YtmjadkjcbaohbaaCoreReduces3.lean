/- Lemmas and walks that the proof of this claim uses: D3m3, D3m4D, D3m4, D3m5, D3m7D, D3m7, TbCoreSpec6, D3p1, D3p2, D3p3, D3p4, D3p5, D3p6. -/
import Derived.Test.YtmjadkjcbaohbaaCoreReduces2
set_option linter.unusedVariables false
set_option linter.unusedSimpArgs false
namespace Go.D3
open Go.Tb Go.Proofs Go.RowKit Go.Core
theorem Tc21 : callable Try.prog 21 = true := by kernel_rfl
theorem Tc58 : callable Try.prog 58 = true := by kernel_rfl
theorem Tc60 : callable Try.prog 60 = true := by kernel_rfl
theorem Tc62 : callable Try.prog 62 = true := by kernel_rfl
theorem Tc63 : callable Try.prog 63 = true := by kernel_rfl
theorem Tc68 : callable Try.prog 68 = true := by kernel_rfl
theorem Tc81 : callable Try.prog 81 = true := by kernel_rfl
theorem Tk43 : tyK Try.prog 43 = some (false, 1) := by kernel_rfl
theorem Tk81 : tyK Try.prog 81 = some (false, 1) := by kernel_rfl
theorem Ts58 : tyS Try.prog 58 = some (43, 1, 24, [.slice none 0 0]) := by kernel_rfl
theorem Ts78 : tyS Try.prog 78 = some (81, 1, 24, [.slice none 0 0]) := by kernel_rfl
theorem Ts81 : tyS Try.prog 81 = some (4, 1, 1, [.bool false]) := by kernel_rfl
theorem Tz24 : tyZ Try.prog 24 = some (.agg #[.int .i64 0, .slice none 0 0]) := by kernel_rfl
set_option maxRecDepth 20000 in
set_option maxHeartbeats 1000000 in
theorem core_tables_ok {a0 : Core} {A_a0_bounds : Option Addr} {c_a0_bounds : Nat} {w : World} {res : (List (List Tight)) × Int} (h_a0_bounds : Sl w A_a0_bounds c_a0_bounds 3 (a0.bounds.map encBound)) (F : core_tables a0 = some res) : Calls Try.prog 60 #[.agg #[.int .i64 a0.layers, .slice A_a0_bounds a0.bounds.length c_a0_bounds]] w (fun e w' => ∃ (A0 : Option Addr) (c0 : Nat) (hs0 : List (Option Addr × Nat)), e = .returned (.tuple #[.slice A0 res.1.length c0, .int .i64 res.2]) ∧ Hp w w' [.tab A0 c0 76 hs0 75 2 (encM encTight res.1)]) := by
  refine calls_of_cw (args := [.agg #[.int .i64 a0.layers, .slice A_a0_bounds a0.bounds.length c_a0_bounds]]) Try.func60 rfl rfl rfl rfl ?_
  have H := Hp.start w
  have R0 := H.ext
  unfold core_tables at F
  refine CW.seq fun K1 hK1 => ?_
  refine CW.region ?_
  refine LW.go rfl rfl (OW.box rfl fun b1 w1 N1 => ?_)
  replace H := H.new N1 N1.blk
  replace R0 := H.ext
  refine LW.pure rfl rfl (RV.assign rfl) ?_
  refine LW.pure rfl rfl (RV.assign rfl) ?_
  refine LW.nil (hK1 _ _ ?_)
  refine CW.seq fun K2 hK2 => ?_
  refine CW.seq fun K3 hK3 => ?_
  obtain ⟨r1, hr1, F⟩ := bnd_some F
  refine CW.region ?_
  refine LW.pure rfl rfl (RV.loadA [.int .i64 a0.layers, .slice A_a0_bounds a0.bounds.length c_a0_bounds] Tk24 rfl (H.blk 0 rfl).cells rfl rfl) ?_
  refine LW.go rfl rfl (OW.call Tc68 rfl (core_clashes_ok (a0 := a0) (h_a0_bounds.ext R0) hr1) ?_)
  rintro _ w2 ⟨rfl, E1⟩
  refine ⟨_, rfl, ?_⟩
  replace H := H.grow E1
  replace R0 := H.ext
  refine LW.nil (hK3 _ _ ?_)
  by_cases hp1 : r1 = true
  ·
    replace F := ite_y hp1 F
    have hq1 : r1 = true := hp1
    refine CW.condT rfl hq1 ?_
    refine CW.seq fun K4 hK4 => ?_
    refine CW.region ?_
    refine LW.pure rfl rfl (RV.assign rfl) ?_
    refine LW.pure rfl rfl (RV.assign rfl) ?_
    refine LW.nil (hK4 _ _ ?_)
    refine CW.ret ?_
    obtain rfl := Option.some.inj F
    refine ⟨_, (ResOK.two rfl rfl), ?_⟩
    replace H := H.nilTab encTight 76 75 2
    replace R0 := H.ext
    replace H := H.pick (L' := [.tab none 0 76 ([]) 75 2 (encM encTight (([] : List (List Tight))))]) [0] (by decide) rfl
    replace R0 := H.ext
    exact ⟨none, 0, ([]), (by first | rfl | (simp; done) | (simp; omega)), H⟩
  ·
    replace F := ite_n hp1 F
    have hq1 : r1 = false := raw_f hp1
    refine CW.condF rfl hq1 ?_
    refine CW.skip (hK2 _ _ ?_)
    refine CW.seq fun K5 hK5 => ?_
    obtain ⟨r2, hr2, F⟩ := bnd_some F
    refine CW.region ?_
    refine LW.pure rfl rfl (RV.loadA [.int .i64 a0.layers, .slice A_a0_bounds a0.bounds.length c_a0_bounds] Tk24 rfl (H.blk 0 rfl).cells rfl rfl) ?_
    refine LW.go rfl rfl (OW.call Tc81 rfl (core_table_ok (a0 := a0) (h_a0_bounds.ext R0) hr2) ?_)
    rintro _ w3 ⟨A6_0, c6_0, hs6_0, rfl, E2⟩
    refine ⟨_, rfl, ?_⟩
    replace H : Hp w w3 [.tab A6_0 c6_0 76 hs6_0 75 2 (encM encTight r2), .blk b1 24 [.int .i64 a0.layers, .slice A_a0_bounds a0.bounds.length c_a0_bounds]] := H.append E2
    replace R0 := H.ext
    refine LW.pure rfl rfl (RV.assign rfl) ?_
    refine LW.pure rfl rfl (RV.assign rfl) ?_
    refine LW.nil (hK5 _ _ ?_)
    refine CW.ret ?_
    obtain rfl := Option.some.inj F
    refine ⟨_, (ResOK.two rfl rfl), ?_⟩
    replace H := H.pick (L' := [.tab A6_0 c6_0 76 hs6_0 75 2 (encM encTight r2)]) [0] (by decide) rfl
    replace R0 := H.ext
    exact ⟨A6_0, c6_0, hs6_0, (by first | rfl | (simp; done) | (simp; omega)), H⟩
set_option maxRecDepth 20000 in
set_option maxHeartbeats 1000000 in
theorem core_Tightest_ok {a0 : Core} {a1 : Int} {a2 : Int} {A_a0_bounds : Option Addr} {c_a0_bounds : Nat} {w : World} {res : Int × Bool × Int} (h_a0_bounds : Sl w A_a0_bounds c_a0_bounds 3 (a0.bounds.map encBound)) (F : core_Tightest a0 a1 a2 = some res) : Calls Try.prog 21 #[.agg #[.int .i64 a0.layers, .slice A_a0_bounds a0.bounds.length c_a0_bounds], .int .i64 a1, .int .i64 a2] w (Rt w (.tuple #[.int .i64 res.1, .bool res.2.1, .int .i64 res.2.2])) := by
  refine calls_of_cw (args := [.agg #[.int .i64 a0.layers, .slice A_a0_bounds a0.bounds.length c_a0_bounds], .int .i64 a1, .int .i64 a2]) Try.func21 rfl rfl rfl rfl ?_
  have H := Hp.start w
  have R0 := H.ext
  unfold core_Tightest at F
  refine CW.seq fun K1 hK1 => ?_
  refine CW.region ?_
  refine LW.go rfl rfl (OW.box rfl fun b1 w1 N1 => ?_)
  replace H := H.new N1 N1.blk
  replace R0 := H.ext
  refine LW.pure rfl rfl (RV.assign rfl) ?_
  refine LW.pure rfl rfl (RV.assign rfl) ?_
  refine LW.pure rfl rfl (RV.assign rfl) ?_
  refine LW.nil (hK1 _ _ ?_)
  refine CW.seq fun K2 hK2 => ?_
  refine CW.seq fun K3 hK3 => ?_
  obtain ⟨r2, hr2, F⟩ := bnd_some F
  refine CW.region ?_
  refine LW.pure rfl rfl (RV.loadA [.int .i64 a0.layers, .slice A_a0_bounds a0.bounds.length c_a0_bounds] Tk24 rfl (H.blk 0 rfl).cells rfl rfl) ?_
  refine LW.pure rfl rfl (RV.move rfl) ?_
  refine LW.pure rfl rfl (RV.move rfl) ?_
  refine LW.go rfl rfl (OW.buildSlice (e := 3) (vs := [.int .i64 a1, .int .i64 a2]) (cs := [.int .i64 a1, .int .i64 a2]) rfl (fun _ => by kernel_rfl) fun b2 w2 N2 => ?_)
  replace H := H.made' (k := 1) (t := 3) (enc := encN) (l := ([a1, a2] : List Int)) N2 N2.blk (fun _ => rfl) rfl (by first | decide | omega | (simp; done) | (simp; omega))
  replace R0 := H.ext
  refine LW.go rfl rfl (OW.call Tc58 rfl (core_layers_ok (a0 := a0) (a1 := ([a1, a2] : List Int)) (h_a0_bounds.ext R0) (H.own 0 rfl).sl hr2) ?_)
  rintro _ w3 ⟨rfl, E1⟩
  refine ⟨_, rfl, ?_⟩
  replace H := H.grow E1
  replace R0 := H.ext
  refine LW.pure rfl rfl (RV.assign rfl) ?_
  refine LW.nil (hK3 _ _ ?_)
  refine CW.seq fun K4 hK4 => ?_
  refine CW.region ?_
  refine LW.pure rfl rfl (RV.move rfl) ?_
  refine LW.pure rfl rfl (RV.nei rfl rfl) ?_
  refine LW.nil (hK4 _ _ ?_)
  by_cases hp1 : r2 = 0
  ·
    replace F := ite_y hp1 F
    have hq1 := dec_t hp1
    refine CW.condF rfl (not_f hq1) ?_
    refine CW.skip (hK2 _ _ ?_)
    refine CW.seq fun K5 hK5 => ?_
    obtain ⟨r1, hr1, F⟩ := bnd_some F
    refine CW.region ?_
    refine LW.pure rfl rfl (RV.loadA [.int .i64 a0.layers, .slice A_a0_bounds a0.bounds.length c_a0_bounds] Tk24 rfl (H.blk 1 rfl).cells rfl rfl) ?_
    refine LW.go rfl rfl (OW.call Tc60 rfl (core_tables_ok (a0 := a0) (h_a0_bounds.ext R0) hr1) ?_)
    rintro _ w4 ⟨A6_0, c6_0, hs6_0, rfl, E2⟩
    refine ⟨_, rfl, ?_⟩
    replace H : Hp w w4 [.tab A6_0 c6_0 76 hs6_0 75 2 (encM encTight r1.1), .own (some ⟨b2, 0, none⟩) ((([a1, a2] : List Int)).length) 3 1 (List.map encN (([a1, a2] : List Int))), .blk b1 24 [.int .i64 a0.layers, .slice A_a0_bounds a0.bounds.length c_a0_bounds]] := H.append E2
    replace R0 := H.ext
    refine LW.pure rfl rfl (RV.move rfl) ?_
    refine LW.pure rfl rfl (RV.extract rfl rfl) ?_
    refine LW.pure rfl rfl (RV.extract rfl rfl) ?_
    refine LW.pure rfl rfl (RV.assign rfl) ?_
    refine LW.pure rfl rfl (RV.assign rfl) ?_
    refine LW.nil (hK5 _ _ ?_)
    refine CW.seq fun K6 hK6 => ?_
    refine CW.seqJ (fun ρ wl1 => (∃ (t37_1 : Bool), core_Tightest_k1 a1 a2 r1 t37_1 = some res ∧ ρ = [(1, .int .i64 a1), (2, .int .i64 a2), (6, .int .i64 0), (7, .bool false), (8, .int .i64 0), (10, .slice A6_0 r1.1.length c6_0), (11, .int .i64 r1.2), (37, .bool t37_1)] ∧ Hp w wl1 [.tab A6_0 c6_0 76 hs6_0 75 2 (encM encTight r1.1)])) ?_ ?_
    ·
      rintro _ wl1 ⟨t37_1, F, rfl, H⟩
      have R0 := H.ext
      unfold core_Tightest_k1 at F
      by_cases hp2 : t37_1 = true
      ·
        replace F := ite_y hp2 F
        have hq2 : t37_1 = true := hp2
        refine CW.condT rfl hq2 ?_
        refine CW.seq fun K7 hK7 => ?_
        refine CW.region ?_
        refine LW.pure rfl rfl (RV.move rfl) ?_
        refine LW.pure rfl rfl (RV.assign rfl) ?_
        refine LW.pure rfl rfl (RV.assign rfl) ?_
        refine LW.pure rfl rfl (RV.assign rfl) ?_
        refine LW.nil (hK7 _ _ ?_)
        refine CW.ret ?_
        obtain rfl := Option.some.inj F
        refine ⟨_, (ResOK.three rfl rfl rfl), ?_⟩
        refine ⟨(by first | rfl | simp), R0⟩
      ·
        replace F := ite_n hp2 F
        have hq2 : t37_1 = false := raw_f hp2
        refine CW.condF rfl hq2 ?_
        refine CW.skip (hK6 _ _ ?_)
        refine CW.seq fun K8 hK8 => ?_
        obtain ⟨x1, hbx1, hx1, F⟩ := ix_some F
        obtain ⟨x2, hbx2, hx2, F⟩ := ix_some F
        refine CW.region ?_
        refine LW.pure rfl rfl (RV.move rfl) ?_
        refine LW.pure rfl rfl (RV.move rfl) ?_
        obtain ⟨B1, e1, hh1⟩ := (H.tab 0 rfl).hd hx1
        refine LW.pure rfl rfl (RV.indexAddr Ts69 rfl rfl hbx1 ((H.tab 0 rfl).addr_ hx1)) ?_
        refine LW.pure rfl rfl (RV.load1 Tk76 rfl ((H.tab 0 rfl).cell hx1 hh1) rfl) ?_
        refine LW.pure rfl rfl (RV.move rfl) ?_
        refine LW.pure rfl rfl (RV.indexAddr Ts76 rfl rfl hbx2 (((H.tab 0 rfl).rowO hx1 hh1).sl.addr_ hx2)) ?_
        refine LW.pure rfl rfl (RV.fieldAddr Tf75_1 rfl) ?_
        refine LW.pure rfl rfl (RV.load1 Tk3 rfl ((((H.tab 0 rfl).rowO hx1 hh1).sl.at_ hx2).off 1) rfl) ?_
        refine LW.pure rfl rfl (RV.assign rfl) ?_
        refine LW.pure rfl rfl (RV.assign rfl) ?_
        refine LW.pure rfl rfl (RV.assign rfl) ?_
        refine LW.nil (hK8 _ _ ?_)
        refine CW.ret ?_
        obtain rfl := Option.some.inj F
        refine ⟨_, (ResOK.three rfl rfl rfl), ?_⟩
        refine ⟨(by first | rfl | simp), R0⟩
    ·
      intro K9 hK9 jK19
      by_cases hp3 : r1.2 = 0
      ·
        replace F := ite_y hp3 F
        have hq3 := dec_t hp3
        obtain ⟨x3, hbx3, hx3, F⟩ := ix_some F
        obtain ⟨x4, hbx4, hx4, F⟩ := ix_some F
        refine CW.region ?_
        refine LW.pure rfl rfl (RV.move rfl) ?_
        refine LW.pure rfl rfl (RV.nei rfl rfl) ?_
        refine LW.pure rfl rfl (RV.move rfl) ?_
        refine LW.pureYB rfl rfl rfl rfl (not_f hq3) (RV.move rfl) ?_
        refine LW.pureYB rfl rfl rfl rfl (not_f hq3) (RV.move rfl) ?_
        obtain ⟨B2, e2, hh2⟩ := (H.tab 0 rfl).hd hx3
        refine LW.pureYB rfl rfl rfl rfl (not_f hq3) (RV.indexAddr Ts69 rfl rfl hbx3 ((H.tab 0 rfl).addr_ hx3)) ?_
        refine LW.pureYB rfl rfl rfl rfl (not_f hq3) (RV.load1 Tk76 rfl ((H.tab 0 rfl).cell hx3 hh2) rfl) ?_
        refine LW.pureYB rfl rfl rfl rfl (not_f hq3) (RV.move rfl) ?_
        refine LW.pureYB rfl rfl rfl rfl (not_f hq3) (RV.indexAddr Ts76 rfl rfl hbx4 (((H.tab 0 rfl).rowO hx3 hh2).sl.addr_ hx4)) ?_
        refine LW.pureYB rfl rfl rfl rfl (not_f hq3) (RV.fieldAddr Tf75_0 rfl) ?_
        refine LW.pureYB rfl rfl rfl rfl (not_f hq3) (RV.load1 Tk4 rfl ((((H.tab 0 rfl).rowO hx3 hh2).sl.at_ hx4).off 0) rfl) ?_
        refine LW.pureYB rfl rfl rfl rfl (not_f hq3) (RV.not rfl) ?_
        refine LW.pure rfl rfl (RV.pickFB rfl (not_f hq3) rfl) ?_
        replace H := H.pick (L' := [.tab A6_0 c6_0 76 hs6_0 75 2 (encM encTight r1.1)]) [0] (by decide) rfl
        replace R0 := H.ext
        refine LW.nil (jK19 _ _ ⟨_, ?_, ⟨(!x4.known), F, rfl, H⟩⟩)
        exact ⟨rfl, rfl, rfl, rfl, rfl, (look_slice rfl (by first | rfl | (simp; done) | (simp; omega))), rfl, rfl, trivial⟩
      ·
        replace F := ite_n hp3 F
        have hq3 := dec_f hp3
        refine CW.region ?_
        refine LW.pure rfl rfl (RV.move rfl) ?_
        refine LW.pure rfl rfl (RV.nei rfl rfl) ?_
        refine LW.pure rfl rfl (RV.move rfl) ?_
        refine LW.noB rfl rfl rfl rfl (ne_beq (v := true) (not_t hq3) rfl) ?_
        refine LW.noB rfl rfl rfl rfl (ne_beq (v := true) (not_t hq3) rfl) ?_
        refine LW.noB rfl rfl rfl rfl (ne_beq (v := true) (not_t hq3) rfl) ?_
        refine LW.noB rfl rfl rfl rfl (ne_beq (v := true) (not_t hq3) rfl) ?_
        refine LW.noB rfl rfl rfl rfl (ne_beq (v := true) (not_t hq3) rfl) ?_
        refine LW.noB rfl rfl rfl rfl (ne_beq (v := true) (not_t hq3) rfl) ?_
        refine LW.noB rfl rfl rfl rfl (ne_beq (v := true) (not_t hq3) rfl) ?_
        refine LW.noB rfl rfl rfl rfl (ne_beq (v := true) (not_t hq3) rfl) ?_
        refine LW.noB rfl rfl rfl rfl (ne_beq (v := true) (not_t hq3) rfl) ?_
        refine LW.pure rfl rfl (RV.pickTB rfl (not_t hq3) rfl) ?_
        replace H := H.pick (L' := [.tab A6_0 c6_0 76 hs6_0 75 2 (encM encTight r1.1)]) [0] (by decide) rfl
        replace R0 := H.ext
        refine LW.nil (jK19 _ _ ⟨_, ?_, ⟨true, F, rfl, H⟩⟩)
        exact ⟨rfl, rfl, rfl, rfl, rfl, (look_slice rfl (by first | rfl | (simp; done) | (simp; omega))), rfl, rfl, trivial⟩
  ·
    replace F := ite_n hp1 F
    have hq1 := dec_f hp1
    refine CW.condT rfl (not_t hq1) ?_
    refine CW.seq fun K10 hK10 => ?_
    refine CW.region ?_
    refine LW.pure rfl rfl (RV.move rfl) ?_
    refine LW.pure rfl rfl (RV.assign rfl) ?_
    refine LW.pure rfl rfl (RV.assign rfl) ?_
    refine LW.pure rfl rfl (RV.assign rfl) ?_
    refine LW.nil (hK10 _ _ ?_)
    refine CW.ret ?_
    obtain rfl := Option.some.inj F
    refine ⟨_, (ResOK.three rfl rfl rfl), ?_⟩
    refine ⟨(by first | rfl | simp), R0⟩
set_option maxRecDepth 20000 in
set_option maxHeartbeats 1000000 in
theorem law03_known_ok {w : World} {res : Bool} (F : law03_known = some res) : Calls Try.prog 18 #[] w (Rt w (.bool res)) := by
  refine calls_of_cw (args := []) Try.func18 rfl rfl rfl rfl ?_
  have H := Hp.start w
  have R0 := H.ext
  unfold law03_known at F
  refine CW.seq fun K1 hK1 => ?_
  refine CW.region ?_
  refine LW.pure rfl rfl (RV.assign rfl) ?_
  refine LW.nil (hK1 _ _ ?_)
  refine CW.seq fun K2 hK2 => ?_
  refine CW.region ?_
  refine LW.pure rfl rfl (RV.build (vs := [.int .i64 0, .int .i64 1, .int .i64 10]) (cs := [.int .i64 0, .int .i64 1, .int .i64 10]) rfl (fun _ => by kernel_rfl)) ?_
  refine LW.pure rfl rfl (RV.build (vs := [.int .i64 1, .int .i64 2, .int .i64 5]) (cs := [.int .i64 1, .int .i64 2, .int .i64 5]) rfl (fun _ => by kernel_rfl)) ?_
  refine LW.pure rfl rfl (RV.build (vs := [.int .i64 0, .int .i64 2, .int .i64 20]) (cs := [.int .i64 0, .int .i64 2, .int .i64 20]) rfl (fun _ => by kernel_rfl)) ?_
  refine LW.go rfl rfl (OW.buildSlice (e := 26) (vs := [.agg #[.int .i64 0, .int .i64 1, .int .i64 10], .agg #[.int .i64 1, .int .i64 2, .int .i64 5], .agg #[.int .i64 0, .int .i64 2, .int .i64 20]]) (cs := [.int .i64 0, .int .i64 1, .int .i64 10, .int .i64 1, .int .i64 2, .int .i64 5, .int .i64 0, .int .i64 2, .int .i64 20]) rfl (fun _ => by kernel_rfl) fun b1 w1 N1 => ?_)
  replace H := H.made' (k := 3) (t := 26) (enc := encBound) (l := ([(⟨0, 1, 10⟩ : Bound), (⟨1, 2, 5⟩ : Bound), (⟨0, 2, 20⟩ : Bound)] : List Bound)) N1 N1.blk (fun _ => rfl) rfl (by first | decide | omega | (simp; done) | (simp; omega))
  replace R0 := H.ext
  refine LW.pure rfl rfl (RV.build (vs := [.int .i64 3, .slice (some ⟨b1, 0, none⟩) 3 ((([(⟨0, 1, 10⟩ : Bound), (⟨1, 2, 5⟩ : Bound), (⟨0, 2, 20⟩ : Bound)] : List Bound)).length)]) (cs := [.int .i64 3, .slice (some ⟨b1, 0, none⟩) 3 ((([(⟨0, 1, 10⟩ : Bound), (⟨1, 2, 5⟩ : Bound), (⟨0, 2, 20⟩ : Bound)] : List Bound)).length)]) rfl (fun _ => by kernel_rfl)) ?_
  refine LW.go rfl rfl (OW.alloc Tz24 fun b2 w2 N2 => ?_)
  replace H := H.new N2 N2.blk
  replace R0 := H.ext
  refine LW.go rfl rfl (OW.store Tk24 rfl rfl (H.blk 0 rfl) (off := 0) (vs := [.int .i64 3, .slice (some ⟨b1, 0, none⟩) 3 ((([(⟨0, 1, 10⟩ : Bound), (⟨1, 2, 5⟩ : Bound), (⟨0, 2, 20⟩ : Bound)] : List Bound)).length)]) rfl rfl rfl rfl rfl fun w3 S1 => ?_)
  replace H : Hp w w3 [.blk b2 24 [.int .i64 3, .slice (some ⟨b1, 0, none⟩) 3 ((([(⟨0, 1, 10⟩ : Bound), (⟨1, 2, 5⟩ : Bound), (⟨0, 2, 20⟩ : Bound)] : List Bound)).length)], .own (some ⟨b1, 0, none⟩) ((([(⟨0, 1, 10⟩ : Bound), (⟨1, 2, 5⟩ : Bound), (⟨0, 2, 20⟩ : Bound)] : List Bound)).length) 26 3 (List.map encBound (([(⟨0, 1, 10⟩ : Bound), (⟨1, 2, 5⟩ : Bound), (⟨0, 2, 20⟩ : Bound)] : List Bound)))] := H.stored 0 rfl S1
  replace R0 := H.ext
  refine LW.nil (hK2 _ _ ?_)
  refine CW.seq fun K3 hK3 => ?_
  obtain ⟨r1, hr1, F⟩ := bnd_some F
  refine CW.region ?_
  refine LW.pure rfl rfl (RV.loadA [.int .i64 3, .slice (some ⟨b1, 0, none⟩) 3 ((([(⟨0, 1, 10⟩ : Bound), (⟨1, 2, 5⟩ : Bound), (⟨0, 2, 20⟩ : Bound)] : List Bound)).length)] Tk24 rfl (H.blk 0 rfl).cells rfl rfl) ?_
  refine LW.go rfl rfl (OW.call Tc21 rfl (core_Tightest_ok (a0 := (⟨3, ([(⟨0, 1, 10⟩ : Bound), (⟨1, 2, 5⟩ : Bound), (⟨0, 2, 20⟩ : Bound)] : List Bound)⟩ : Core)) (a1 := (0 : Int)) (a2 := (2 : Int)) (H.own 1 rfl).sl hr1) ?_)
  rintro _ w4 ⟨rfl, E1⟩
  refine ⟨_, rfl, ?_⟩
  replace H := H.grow E1
  replace R0 := H.ext
  refine LW.pure rfl rfl (RV.move rfl) ?_
  refine LW.pure rfl rfl (RV.extract rfl rfl) ?_
  refine LW.pure rfl rfl (RV.extract rfl rfl) ?_
  refine LW.pure rfl rfl (RV.extract rfl rfl) ?_
  refine LW.pure rfl rfl (RV.assign rfl) ?_
  refine LW.pure rfl rfl (RV.assign rfl) ?_
  refine LW.pure rfl rfl (RV.assign rfl) ?_
  refine LW.nil (hK3 _ _ ?_)
  refine CW.seq fun K4 hK4 => ?_
  by_cases hp1 : r1.2.2 = 0
  ·
    replace F := ite_y hp1 F
    have hq1 := dec_t hp1
    by_cases hp2 : r1.2.1 = true
    ·
      replace F := ite_y hp2 F
      have hq2 : r1.2.1 = true := hp2
      refine CW.region ?_
      refine LW.pure rfl rfl (RV.move rfl) ?_
      refine LW.pure rfl rfl (RV.eqi rfl rfl) ?_
      refine LW.pure rfl rfl (RV.move rfl) ?_
      refine LW.pureYB rfl rfl rfl rfl hq1 (RV.move rfl) ?_
      refine LW.pure rfl rfl (RV.pickTB rfl hq1 rfl) ?_
      refine LW.pure rfl rfl (RV.move rfl) ?_
      refine LW.pureYB rfl rfl rfl rfl hq2 (RV.move rfl) ?_
      refine LW.pureYB rfl rfl rfl rfl hq2 (RV.eqi rfl rfl) ?_
      refine LW.pure rfl rfl (RV.pickTB rfl hq2 rfl) ?_
      refine LW.pure rfl rfl (RV.assign rfl) ?_
      refine LW.nil (hK4 _ _ ?_)
      refine CW.ret ?_
      obtain rfl := Option.some.inj F
      refine ⟨_, (ResOK.one rfl), ?_⟩
      refine ⟨(by first | rfl | simp), R0⟩
    ·
      replace F := ite_n hp2 F
      have hq2 : r1.2.1 = false := raw_f hp2
      refine CW.region ?_
      refine LW.pure rfl rfl (RV.move rfl) ?_
      refine LW.pure rfl rfl (RV.eqi rfl rfl) ?_
      refine LW.pure rfl rfl (RV.move rfl) ?_
      refine LW.pureYB rfl rfl rfl rfl hq1 (RV.move rfl) ?_
      refine LW.pure rfl rfl (RV.pickTB rfl hq1 rfl) ?_
      refine LW.pure rfl rfl (RV.move rfl) ?_
      refine LW.noB rfl rfl rfl rfl (ne_beq (v := false) hq2 rfl) ?_
      refine LW.noB rfl rfl rfl rfl (ne_beq (v := false) hq2 rfl) ?_
      refine LW.pure rfl rfl (RV.pickFB rfl hq2 rfl) ?_
      refine LW.pure rfl rfl (RV.assign rfl) ?_
      refine LW.nil (hK4 _ _ ?_)
      refine CW.ret ?_
      obtain rfl := Option.some.inj F
      refine ⟨_, (ResOK.one rfl), ?_⟩
      refine ⟨(by first | rfl | simp), R0⟩
  ·
    replace F := ite_n hp1 F
    have hq1 := dec_f hp1
    refine CW.region ?_
    refine LW.pure rfl rfl (RV.move rfl) ?_
    refine LW.pure rfl rfl (RV.eqi rfl rfl) ?_
    refine LW.pure rfl rfl (RV.move rfl) ?_
    refine LW.noB rfl rfl rfl rfl (ne_beq (v := false) hq1 rfl) ?_
    refine LW.pure rfl rfl (RV.pickFB rfl hq1 rfl) ?_
    refine LW.pure rfl rfl (RV.move rfl) ?_
    refine LW.noB rfl rfl rfl rfl (ne_beq (v := false) rfl rfl) ?_
    refine LW.noB rfl rfl rfl rfl (ne_beq (v := false) rfl rfl) ?_
    refine LW.pure rfl rfl (RV.pickFB rfl rfl rfl) ?_
    refine LW.pure rfl rfl (RV.assign rfl) ?_
    refine LW.nil (hK4 _ _ ?_)
    refine CW.ret ?_
    obtain rfl := Option.some.inj F
    refine ⟨_, (ResOK.one rfl), ?_⟩
    refine ⟨(by first | rfl | simp), R0⟩
set_option maxRecDepth 20000 in
set_option maxHeartbeats 1000000 in
theorem ref03_within_ok {a0 : Int} {a1 : Int} {a2 : Int} {w : World} {res : Bool} (F : ref03_within a0 a1 a2 = some res) : Calls Try.prog 62 #[.int .i64 a0, .int .i64 a1, .int .i64 a2] w (Rt w (.bool res)) := by
  refine calls_of_cw (args := [.int .i64 a0, .int .i64 a1, .int .i64 a2]) Try.func62 rfl rfl rfl rfl ?_
  have H := Hp.start w
  have R0 := H.ext
  unfold ref03_within at F
  refine CW.seq fun K1 hK1 => ?_
  refine CW.region ?_
  refine LW.pure rfl rfl (RV.assign rfl) ?_
  refine LW.nil (hK1 _ _ ?_)
  refine CW.seq fun K2 hK2 => ?_
  by_cases hp1 : a1 ≤ a0
  ·
    replace F := ite_y hp1 F
    have hq1 := dec_t hp1
    refine CW.region ?_
    refine LW.pure rfl rfl (RV.move rfl) ?_
    refine LW.pure rfl rfl (RV.move rfl) ?_
    refine LW.pure rfl rfl (RV.geq rfl rfl) ?_
    refine LW.pure rfl rfl (RV.move rfl) ?_
    refine LW.pureYB rfl rfl rfl rfl hq1 (RV.move rfl) ?_
    refine LW.pureYB rfl rfl rfl rfl hq1 (RV.move rfl) ?_
    refine LW.pureYB rfl rfl rfl rfl hq1 (RV.leq rfl rfl) ?_
    refine LW.pure rfl rfl (RV.pickTB rfl hq1 rfl) ?_
    refine LW.pure rfl rfl (RV.assign rfl) ?_
    refine LW.nil (hK2 _ _ ?_)
    refine CW.ret ?_
    obtain rfl := Option.some.inj F
    refine ⟨_, (ResOK.one rfl), ?_⟩
    refine ⟨(by first | rfl | simp), R0⟩
  ·
    replace F := ite_n hp1 F
    have hq1 := dec_f hp1
    refine CW.region ?_
    refine LW.pure rfl rfl (RV.move rfl) ?_
    refine LW.pure rfl rfl (RV.move rfl) ?_
    refine LW.pure rfl rfl (RV.geq rfl rfl) ?_
    refine LW.pure rfl rfl (RV.move rfl) ?_
    refine LW.noB rfl rfl rfl rfl (ne_beq (v := false) hq1 rfl) ?_
    refine LW.noB rfl rfl rfl rfl (ne_beq (v := false) hq1 rfl) ?_
    refine LW.noB rfl rfl rfl rfl (ne_beq (v := false) hq1 rfl) ?_
    refine LW.pure rfl rfl (RV.pickFB rfl hq1 rfl) ?_
    refine LW.pure rfl rfl (RV.assign rfl) ?_
    refine LW.nil (hK2 _ _ ?_)
    refine CW.ret ?_
    obtain rfl := Option.some.inj F
    refine ⟨_, (ResOK.one rfl), ?_⟩
    refine ⟨(by first | rfl | simp), R0⟩
set_option maxRecDepth 20000 in
set_option maxHeartbeats 1000000 in
theorem ref03_isBound_ok {a0 : Bound} {a1 : Int} {w : World} {res : Bool} (F : ref03_isBound a0 a1 = some res) : Calls Try.prog 63 #[.agg #[.int .i64 a0.a, .int .i64 a0.b, .int .i64 a0.most], .int .i64 a1] w (Rt w (.bool res)) := by
  refine calls_of_cw (args := [.agg #[.int .i64 a0.a, .int .i64 a0.b, .int .i64 a0.most], .int .i64 a1]) Try.func63 rfl rfl rfl rfl ?_
  have H := Hp.start w
  have R0 := H.ext
  unfold ref03_isBound at F
  refine CW.seq fun K1 hK1 => ?_
  refine CW.region ?_
  refine LW.go rfl rfl (OW.box rfl fun b1 w1 N1 => ?_)
  replace H := H.new N1 N1.blk
  replace R0 := H.ext
  refine LW.pure rfl rfl (RV.assign rfl) ?_
  refine LW.nil (hK1 _ _ ?_)
  refine CW.seq fun K2 hK2 => ?_
  obtain ⟨hg1, F⟩ := gd_some F
  obtain ⟨r1, hr1, F⟩ := bnd_some F
  by_cases hp1 : r1 = true
  ·
    replace F := ite_y hp1 F
    have hq1 : r1 = true := hp1
    obtain ⟨hg2, F⟩ := gd_some F
    obtain ⟨r2, hr2, F⟩ := bnd_some F
    by_cases hp2 : r2 = true
    ·
      replace F := ite_y hp2 F
      have hq2 : r2 = true := hp2
      by_cases hp3 : a0.a = a0.b
      ·
        replace F := ite_y hp3 F
        have hq3 := dec_t hp3
        refine CW.region ?_
        refine LW.pure rfl rfl (RV.fieldAddr Tf26_0 rfl) ?_
        refine LW.pure rfl rfl (RV.load1 Tk3 rfl ((H.blk 0 rfl).cells.off 0) rfl) ?_
        refine LW.pure rfl rfl (RV.move rfl) ?_
        refine LW.pure rfl rfl (RV.sub rfl rfl hg1) ?_
        refine LW.go rfl rfl (OW.call Tc62 rfl (ref03_within_ok (a0 := a0.a) (a1 := (0 : Int)) (a2 := a1 - 1) hr1) ?_)
        rintro _ w2 ⟨rfl, E1⟩
        refine ⟨_, rfl, ?_⟩
        replace H := H.grow E1
        replace R0 := H.ext
        refine LW.pure rfl rfl (RV.move rfl) ?_
        refine LW.pureYB rfl rfl rfl rfl hq1 (RV.fieldAddr Tf26_1 rfl) ?_
        refine LW.pureYB rfl rfl rfl rfl hq1 (RV.load1 Tk3 rfl ((H.blk 0 rfl).cells.off 1) rfl) ?_
        refine LW.pureYB rfl rfl rfl rfl hq1 (RV.move rfl) ?_
        refine LW.pureYB rfl rfl rfl rfl hq1 (RV.sub rfl rfl hg2) ?_
        refine LW.yesB rfl rfl rfl rfl hq1 (OW.call Tc62 rfl (ref03_within_ok (a0 := a0.b) (a1 := (0 : Int)) (a2 := a1 - 1) hr2) ?_)
        rintro _ w3 ⟨rfl, E2⟩
        refine ⟨_, rfl, ?_⟩
        replace H := H.grow E2
        replace R0 := H.ext
        refine LW.pure rfl rfl (RV.pickTB rfl hq1 rfl) ?_
        refine LW.pure rfl rfl (RV.move rfl) ?_
        refine LW.pureYB rfl rfl rfl rfl hq2 (RV.fieldAddr Tf26_0 rfl) ?_
        refine LW.pureYB rfl rfl rfl rfl hq2 (RV.load1 Tk3 rfl ((H.blk 0 rfl).cells.off 0) rfl) ?_
        refine LW.pureYB rfl rfl rfl rfl hq2 (RV.fieldAddr Tf26_1 rfl) ?_
        refine LW.pureYB rfl rfl rfl rfl hq2 (RV.load1 Tk3 rfl ((H.blk 0 rfl).cells.off 1) rfl) ?_
        refine LW.pureYB rfl rfl rfl rfl hq2 (RV.nei rfl rfl) ?_
        refine LW.pure rfl rfl (RV.pickTB rfl hq2 rfl) ?_
        refine LW.pure rfl rfl (RV.move rfl) ?_
        refine LW.noB rfl rfl rfl rfl (ne_beq (v := false) (not_f hq3) rfl) ?_
        refine LW.noB rfl rfl rfl rfl (ne_beq (v := false) (not_f hq3) rfl) ?_
        refine LW.noB rfl rfl rfl rfl (ne_beq (v := false) (not_f hq3) rfl) ?_
        refine LW.pure rfl rfl (RV.pickFB rfl (not_f hq3) rfl) ?_
        refine LW.pure rfl rfl (RV.assign rfl) ?_
        refine LW.nil (hK2 _ _ ?_)
        refine CW.ret ?_
        obtain rfl := Option.some.inj F
        refine ⟨_, (ResOK.one rfl), ?_⟩
        refine ⟨(by first | rfl | simp), R0⟩
      ·
        replace F := ite_n hp3 F
        have hq3 := dec_f hp3
        obtain ⟨r3, hr3, F⟩ := bnd_some F
        refine CW.region ?_
        refine LW.pure rfl rfl (RV.fieldAddr Tf26_0 rfl) ?_
        refine LW.pure rfl rfl (RV.load1 Tk3 rfl ((H.blk 0 rfl).cells.off 0) rfl) ?_
        refine LW.pure rfl rfl (RV.move rfl) ?_
        refine LW.pure rfl rfl (RV.sub rfl rfl hg1) ?_
        refine LW.go rfl rfl (OW.call Tc62 rfl (ref03_within_ok (a0 := a0.a) (a1 := (0 : Int)) (a2 := a1 - 1) hr1) ?_)
        rintro _ w4 ⟨rfl, E3⟩
        refine ⟨_, rfl, ?_⟩
        replace H := H.grow E3
        replace R0 := H.ext
        refine LW.pure rfl rfl (RV.move rfl) ?_
        refine LW.pureYB rfl rfl rfl rfl hq1 (RV.fieldAddr Tf26_1 rfl) ?_
        refine LW.pureYB rfl rfl rfl rfl hq1 (RV.load1 Tk3 rfl ((H.blk 0 rfl).cells.off 1) rfl) ?_
        refine LW.pureYB rfl rfl rfl rfl hq1 (RV.move rfl) ?_
        refine LW.pureYB rfl rfl rfl rfl hq1 (RV.sub rfl rfl hg2) ?_
        refine LW.yesB rfl rfl rfl rfl hq1 (OW.call Tc62 rfl (ref03_within_ok (a0 := a0.b) (a1 := (0 : Int)) (a2 := a1 - 1) hr2) ?_)
        rintro _ w5 ⟨rfl, E4⟩
        refine ⟨_, rfl, ?_⟩
        replace H := H.grow E4
        replace R0 := H.ext
        refine LW.pure rfl rfl (RV.pickTB rfl hq1 rfl) ?_
        refine LW.pure rfl rfl (RV.move rfl) ?_
        refine LW.pureYB rfl rfl rfl rfl hq2 (RV.fieldAddr Tf26_0 rfl) ?_
        refine LW.pureYB rfl rfl rfl rfl hq2 (RV.load1 Tk3 rfl ((H.blk 0 rfl).cells.off 0) rfl) ?_
        refine LW.pureYB rfl rfl rfl rfl hq2 (RV.fieldAddr Tf26_1 rfl) ?_
        refine LW.pureYB rfl rfl rfl rfl hq2 (RV.load1 Tk3 rfl ((H.blk 0 rfl).cells.off 1) rfl) ?_
        refine LW.pureYB rfl rfl rfl rfl hq2 (RV.nei rfl rfl) ?_
        refine LW.pure rfl rfl (RV.pickTB rfl hq2 rfl) ?_
        refine LW.pure rfl rfl (RV.move rfl) ?_
        refine LW.pureYB rfl rfl rfl rfl (not_t hq3) (RV.fieldAddr Tf26_2 rfl) ?_
        refine LW.pureYB rfl rfl rfl rfl (not_t hq3) (RV.load1 Tk3 rfl ((H.blk 0 rfl).cells.off 2) rfl) ?_
        refine LW.yesB rfl rfl rfl rfl (not_t hq3) (OW.call Tc62 rfl (ref03_within_ok (a0 := a0.most) (a1 := (-10000 : Int)) (a2 := (10000 : Int)) hr3) ?_)
        rintro _ w6 ⟨rfl, E5⟩
        refine ⟨_, rfl, ?_⟩
        replace H := H.grow E5
        replace R0 := H.ext
        refine LW.pure rfl rfl (RV.pickTB rfl (not_t hq3) rfl) ?_
        refine LW.pure rfl rfl (RV.assign rfl) ?_
        refine LW.nil (hK2 _ _ ?_)
        refine CW.ret ?_
        obtain rfl := Option.some.inj F
        refine ⟨_, (ResOK.one rfl), ?_⟩
        refine ⟨(by first | rfl | simp), R0⟩
    ·
      replace F := ite_n hp2 F
      have hq2 : r2 = false := raw_f hp2
      refine CW.region ?_
      refine LW.pure rfl rfl (RV.fieldAddr Tf26_0 rfl) ?_
      refine LW.pure rfl rfl (RV.load1 Tk3 rfl ((H.blk 0 rfl).cells.off 0) rfl) ?_
      refine LW.pure rfl rfl (RV.move rfl) ?_
      refine LW.pure rfl rfl (RV.sub rfl rfl hg1) ?_
      refine LW.go rfl rfl (OW.call Tc62 rfl (ref03_within_ok (a0 := a0.a) (a1 := (0 : Int)) (a2 := a1 - 1) hr1) ?_)
      rintro _ w7 ⟨rfl, E6⟩
      refine ⟨_, rfl, ?_⟩
      replace H := H.grow E6
      replace R0 := H.ext
      refine LW.pure rfl rfl (RV.move rfl) ?_
      refine LW.pureYB rfl rfl rfl rfl hq1 (RV.fieldAddr Tf26_1 rfl) ?_
      refine LW.pureYB rfl rfl rfl rfl hq1 (RV.load1 Tk3 rfl ((H.blk 0 rfl).cells.off 1) rfl) ?_
      refine LW.pureYB rfl rfl rfl rfl hq1 (RV.move rfl) ?_
      refine LW.pureYB rfl rfl rfl rfl hq1 (RV.sub rfl rfl hg2) ?_
      refine LW.yesB rfl rfl rfl rfl hq1 (OW.call Tc62 rfl (ref03_within_ok (a0 := a0.b) (a1 := (0 : Int)) (a2 := a1 - 1) hr2) ?_)
      rintro _ w8 ⟨rfl, E7⟩
      refine ⟨_, rfl, ?_⟩
      replace H := H.grow E7
      replace R0 := H.ext
      refine LW.pure rfl rfl (RV.pickTB rfl hq1 rfl) ?_
      refine LW.pure rfl rfl (RV.move rfl) ?_
      refine LW.noB rfl rfl rfl rfl (ne_beq (v := false) hq2 rfl) ?_
      refine LW.noB rfl rfl rfl rfl (ne_beq (v := false) hq2 rfl) ?_
      refine LW.noB rfl rfl rfl rfl (ne_beq (v := false) hq2 rfl) ?_
      refine LW.noB rfl rfl rfl rfl (ne_beq (v := false) hq2 rfl) ?_
      refine LW.noB rfl rfl rfl rfl (ne_beq (v := false) hq2 rfl) ?_
      refine LW.pure rfl rfl (RV.pickFB rfl hq2 rfl) ?_
      refine LW.pure rfl rfl (RV.move rfl) ?_
      refine LW.noB rfl rfl rfl rfl (ne_beq (v := false) rfl rfl) ?_
      refine LW.noB rfl rfl rfl rfl (ne_beq (v := false) rfl rfl) ?_
      refine LW.noB rfl rfl rfl rfl (ne_beq (v := false) rfl rfl) ?_
      refine LW.pure rfl rfl (RV.pickFB rfl rfl rfl) ?_
      refine LW.pure rfl rfl (RV.assign rfl) ?_
      refine LW.nil (hK2 _ _ ?_)
      refine CW.ret ?_
      obtain rfl := Option.some.inj F
      refine ⟨_, (ResOK.one rfl), ?_⟩
      refine ⟨(by first | rfl | simp), R0⟩
  ·
    replace F := ite_n hp1 F
    have hq1 : r1 = false := raw_f hp1
    refine CW.region ?_
    refine LW.pure rfl rfl (RV.fieldAddr Tf26_0 rfl) ?_
    refine LW.pure rfl rfl (RV.load1 Tk3 rfl ((H.blk 0 rfl).cells.off 0) rfl) ?_
    refine LW.pure rfl rfl (RV.move rfl) ?_
    refine LW.pure rfl rfl (RV.sub rfl rfl hg1) ?_
    refine LW.go rfl rfl (OW.call Tc62 rfl (ref03_within_ok (a0 := a0.a) (a1 := (0 : Int)) (a2 := a1 - 1) hr1) ?_)
    rintro _ w9 ⟨rfl, E8⟩
    refine ⟨_, rfl, ?_⟩
    replace H := H.grow E8
    replace R0 := H.ext
    refine LW.pure rfl rfl (RV.move rfl) ?_
    refine LW.noB rfl rfl rfl rfl (ne_beq (v := false) hq1 rfl) ?_
    refine LW.noB rfl rfl rfl rfl (ne_beq (v := false) hq1 rfl) ?_
    refine LW.noB rfl rfl rfl rfl (ne_beq (v := false) hq1 rfl) ?_
    refine LW.noB rfl rfl rfl rfl (ne_beq (v := false) hq1 rfl) ?_
    refine LW.noB rfl rfl rfl rfl (ne_beq (v := false) hq1 rfl) ?_
    refine LW.pure rfl rfl (RV.pickFB rfl hq1 rfl) ?_
    refine LW.pure rfl rfl (RV.move rfl) ?_
    refine LW.noB rfl rfl rfl rfl (ne_beq (v := false) rfl rfl) ?_
    refine LW.noB rfl rfl rfl rfl (ne_beq (v := false) rfl rfl) ?_
    refine LW.noB rfl rfl rfl rfl (ne_beq (v := false) rfl rfl) ?_
    refine LW.noB rfl rfl rfl rfl (ne_beq (v := false) rfl rfl) ?_
    refine LW.noB rfl rfl rfl rfl (ne_beq (v := false) rfl rfl) ?_
    refine LW.pure rfl rfl (RV.pickFB rfl rfl rfl) ?_
    refine LW.pure rfl rfl (RV.move rfl) ?_
    refine LW.noB rfl rfl rfl rfl (ne_beq (v := false) rfl rfl) ?_
    refine LW.noB rfl rfl rfl rfl (ne_beq (v := false) rfl rfl) ?_
    refine LW.noB rfl rfl rfl rfl (ne_beq (v := false) rfl rfl) ?_
    refine LW.pure rfl rfl (RV.pickFB rfl rfl rfl) ?_
    refine LW.pure rfl rfl (RV.assign rfl) ?_
    refine LW.nil (hK2 _ _ ?_)
    refine CW.ret ?_
    obtain rfl := Option.some.inj F
    refine ⟨_, (ResOK.one rfl), ?_⟩
    refine ⟨(by first | rfl | simp), R0⟩
set_option maxRecDepth 20000 in
set_option maxHeartbeats 1000000 in
theorem ref03_Validate_ok {a0 : Core} {A_a0_bounds : Option Addr} {c_a0_bounds : Nat} {w : World} {res : Int} (h_a0_bounds : Sl w A_a0_bounds c_a0_bounds 3 (a0.bounds.map encBound)) (F : ref03_Validate a0 = some res) : Calls Try.prog 37 #[.agg #[.int .i64 a0.layers, .slice A_a0_bounds a0.bounds.length c_a0_bounds]] w (Rt w (.int .i64 res)) := by
  refine calls_of_cw (args := [.agg #[.int .i64 a0.layers, .slice A_a0_bounds a0.bounds.length c_a0_bounds]]) Try.func37 rfl rfl rfl rfl ?_
  have H := Hp.start w
  have R0 := H.ext
  unfold ref03_Validate at F
  refine CW.seq fun K1 hK1 => ?_
  refine CW.region ?_
  refine LW.go rfl rfl (OW.box rfl fun b1 w1 N1 => ?_)
  replace H := H.new N1 N1.blk
  replace R0 := H.ext
  refine LW.pure rfl rfl (RV.assign rfl) ?_
  refine LW.nil (hK1 _ _ ?_)
  refine CW.seq fun K2 hK2 => ?_
  refine CW.seq fun K3 hK3 => ?_
  obtain ⟨r2, hr2, F⟩ := bnd_some F
  refine CW.region ?_
  refine LW.pure rfl rfl (RV.fieldAddr Tf24_0 rfl) ?_
  refine LW.pure rfl rfl (RV.load1 Tk3 rfl ((H.blk 0 rfl).cells.off 0) rfl) ?_
  refine LW.go rfl rfl (OW.call Tc62 rfl (ref03_within_ok (a0 := a0.layers) (a1 := (1 : Int)) (a2 := (8 : Int)) hr2) ?_)
  rintro _ w2 ⟨rfl, E1⟩
  refine ⟨_, rfl, ?_⟩
  replace H := H.grow E1
  replace R0 := H.ext
  refine LW.pure rfl rfl (RV.not rfl) ?_
  refine LW.nil (hK3 _ _ ?_)
  by_cases hp1 : r2 = true
  ·
    replace F := ite_y hp1 F
    have hq1 : r2 = true := hp1
    refine CW.condF rfl (not_f hq1) ?_
    refine CW.skip (hK2 _ _ ?_)
    refine CW.seq fun K4 hK4 => ?_
    refine CW.seq fun K5 hK5 => ?_
    refine CW.region ?_
    refine LW.pure rfl rfl (RV.fieldAddr Tf24_1 rfl) ?_
    refine LW.pure rfl rfl (RV.load1 Tk22 rfl ((H.blk 0 rfl).cells.off 1) rfl) ?_
    refine LW.pure rfl rfl (RV.len Ts22 rfl) ?_
    refine LW.pure rfl rfl (RV.gtr rfl rfl) ?_
    refine LW.nil (hK5 _ _ ?_)
    by_cases hp2 : (20 : Int) < ((a0.bounds.length : Int))
    ·
      replace F := ite_y hp2 F
      have hq2 := dec_t hp2
      refine CW.condT rfl hq2 ?_
      refine CW.seq fun K6 hK6 => ?_
      refine CW.region ?_
      refine LW.pure rfl rfl (RV.assign rfl) ?_
      refine LW.nil (hK6 _ _ ?_)
      refine CW.ret ?_
      obtain rfl := Option.some.inj F
      refine ⟨_, (ResOK.one rfl), ?_⟩
      refine ⟨(by first | rfl | simp), R0⟩
    ·
      replace F := ite_n hp2 F
      have hq2 := dec_f hp2
      refine CW.condF rfl hq2 ?_
      refine CW.skip (hK4 _ _ ?_)
      refine CW.seqJ (fun ρ wl1 => (ref03_Validate_k1 = some res ∧ ρ = [(2, .int .i64 0)] ∧ Hp w wl1 [])) ?_ ?_
      ·
        rintro _ wl1 ⟨F, rfl, H⟩
        have R0 := H.ext
        unfold ref03_Validate_k1 at F
        refine CW.seq fun K7 hK7 => ?_
        refine CW.region ?_
        refine LW.pure rfl rfl (RV.assign rfl) ?_
        refine LW.nil (hK7 _ _ ?_)
        refine CW.ret ?_
        obtain rfl := Option.some.inj F
        refine ⟨_, (ResOK.one rfl), ?_⟩
        refine ⟨(by first | rfl | simp), R0⟩
      ·
        intro K8 hK8 jK65
        refine CW.seq fun K9 hK9 => ?_
        refine CW.region ?_
        refine LW.pure rfl rfl (RV.assign rfl) ?_
        refine LW.nil (hK9 _ _ ?_)
        refine CW.block ?_
        refine CW.loop (fun meas ρ wl2 => ∃ (t3_1 : Int), ref03_Validate_L1 a0 meas t3_1 = some res ∧ ρ = [(1, .pointer (some (⟨b1, 0, none⟩))), (2, .int .i64 0), (3, .int .i64 t3_1)] ∧ Hp w wl2 [.blk b1 24 [.int .i64 a0.layers, .slice A_a0_bounds a0.bounds.length c_a0_bounds]]) FU ⟨_, ?_, ((0 : Int)), F, rfl, H⟩ ?_
        · exact ⟨rfl, rfl, rfl, trivial⟩
        rintro mk1 _ wl2 ⟨t3_1, F, rfl, H⟩
        have R0 := H.ext
        replace F := ref03_Validate_L1_s F
        obtain ⟨mk1, rfl, F⟩ := F
        generalize hrec1 : ref03_Validate_L1 a0 mk1 = rec1 at F
        unfold ref03_Validate_B1 at F
        refine CW.seq fun K10 hK10 => ?_
        refine CW.seq fun K11 hK11 => ?_
        refine CW.region ?_
        refine LW.pure rfl rfl (RV.move rfl) ?_
        refine LW.pure rfl rfl (RV.fieldAddr Tf24_1 rfl) ?_
        refine LW.pure rfl rfl (RV.load1 Tk22 rfl ((H.blk 0 rfl).cells.off 1) rfl) ?_
        refine LW.pure rfl rfl (RV.len Ts22 rfl) ?_
        refine LW.pure rfl rfl (RV.lss rfl rfl) ?_
        refine LW.nil (hK11 _ _ ?_)
        by_cases hp3 : t3_1 < ((a0.bounds.length : Int))
        ·
          replace F := ite_y hp3 F
          have hq3 := dec_t hp3
          refine CW.condT rfl hq3 ?_
          refine CW.skip (hK10 _ _ ?_)
          refine CW.seq fun K12 hK12 => ?_
          refine CW.block ?_
          refine CW.seq fun K13 hK13 => ?_
          obtain ⟨x1, hbx1, hx1, F⟩ := ix_some F
          obtain ⟨r1, hr1, F⟩ := bnd_some F
          refine CW.draw [] (fun _ => True) (.cons 0 1 (.cons 1 1 (.cons 2 1 (.cons 3 1 (.cons 4 1 (.cons 5 1 (.cons 6 1 (.cons 7 0 (.cons 8 1 .nil))))))))) mixed (by kernel_rfl) fun w3 E2 => ?_
          replace H := H.grow E2
          replace R0 := H.ext
          refine DW.fix rfl rfl rfl (fun _ EQ => RV.fieldAddr Tf24_1 rfl) ?_
          refine DW.fix rfl rfl rfl (fun _ EQ => RV.load1 Tk22 rfl (((H.grow EQ).blk 0 rfl).cells.off 1) rfl) ?_
          refine DW.fix rfl rfl rfl (fun _ EQ => RV.move rfl) ?_
          refine DW.fix rfl rfl rfl (fun _ EQ => RV.indexAddr Ts22 rfl rfl hbx1 (h_a0_bounds.addr_ hx1)) ?_
          refine DW.fix rfl rfl rfl (fun _ EQ => RV.loadA [.int .i64 x1.a, .int .i64 x1.b, .int .i64 x1.most] Tk26 rfl ((h_a0_bounds.at_ hx1).ext (R0.trans EQ)) rfl rfl) ?_
          refine DW.fix rfl rfl rfl (fun _ EQ => RV.fieldAddr Tf24_0 rfl) ?_
          refine DW.fix rfl rfl rfl (fun _ EQ => RV.load1 Tk3 rfl (((H.grow EQ).blk 0 rfl).cells.off 0) rfl) ?_
          refine DW.sole rfl rfl rfl (OW.call Tc63 rfl (ref03_isBound_ok (a0 := x1) (a1 := a0.layers) hr1) ?_)
          rintro _ w4 ⟨rfl, E3⟩
          refine ⟨_, rfl, fun _ => E3, ModX.ext E3, ?_⟩
          replace H := H.grow E3
          replace R0 := H.ext
          refine DW.fix rfl rfl rfl (fun _ EQ => RV.not rfl) ?_
          refine DW.nil (hK13 _ _ ?_)
          by_cases hp4 : r1 = true
          ·
            replace F := ite_y hp4 F
            have hq4 : r1 = true := hp4
            refine CW.condF rfl (not_f hq4) ?_
            refine CW.skip (hK12 _ _ ?_)
            obtain ⟨hg1, F⟩ := gd_some F
            refine CW.region ?_
            refine LW.pure rfl rfl (RV.move rfl) ?_
            refine LW.pure rfl rfl (RV.add rfl rfl hg1) ?_
            refine LW.pure rfl rfl (RV.assign rfl) ?_
            refine LW.nil ?_
            subst hrec1
            refine ⟨mk1, Nat.lt_succ_self _, _, ?_, (t3_1 + 1), F, rfl, H⟩
            exact ⟨rfl, rfl, rfl, trivial⟩
          ·
            replace F := ite_n hp4 F
            have hq4 : r1 = false := raw_f hp4
            refine CW.condT rfl (not_t hq4) ?_
            refine CW.seq fun K14 hK14 => ?_
            refine CW.region ?_
            refine LW.pure rfl rfl (RV.assign rfl) ?_
            refine LW.nil (hK14 _ _ ?_)
            refine CW.ret ?_
            obtain rfl := Option.some.inj F
            refine ⟨_, (ResOK.one rfl), ?_⟩
            refine ⟨(by first | rfl | simp), R0⟩
        ·
          replace F := ite_n hp3 F
          have hq3 := dec_f hp3
          refine CW.condF rfl hq3 ?_
          replace H := H.pick (L' := []) [] (by decide) rfl
          replace R0 := H.ext
          refine CW.exit (jK65 _ _ ⟨_, ?_, ⟨F, rfl, H⟩⟩)
          exact ⟨rfl, trivial⟩
  ·
    replace F := ite_n hp1 F
    have hq1 : r2 = false := raw_f hp1
    refine CW.condT rfl (not_t hq1) ?_
    refine CW.seq fun K15 hK15 => ?_
    refine CW.region ?_
    refine LW.pure rfl rfl (RV.assign rfl) ?_
    refine LW.nil (hK15 _ _ ?_)
    refine CW.ret ?_
    obtain rfl := Option.some.inj F
    refine ⟨_, (ResOK.one rfl), ?_⟩
    refine ⟨(by first | rfl | simp), R0⟩
set_option maxRecDepth 20000 in
set_option maxHeartbeats 1000000 in
theorem ref03_walks_ok {a0 : Core} {a1 : Int} {A_a0_bounds : Option Addr} {c_a0_bounds : Nat} {w : World} {res : (List (List Int)) × (List (List Bool))} (h_a0_bounds : Sl w A_a0_bounds c_a0_bounds 3 (a0.bounds.map encBound)) (F : ref03_walks a0 a1 = some res) : Calls Try.prog 65 #[.agg #[.int .i64 a0.layers, .slice A_a0_bounds a0.bounds.length c_a0_bounds], .int .i64 a1] w (fun e w' => ∃ (A1 : Option Addr) (c1 : Nat) (hs0 : List (Option Addr × Nat)) (A2 : Option Addr) (c2 : Nat) (hs1 : List (Option Addr × Nat)), e = .returned (.tuple #[.slice A1 res.1.length c1, .slice A2 res.2.length c2]) ∧ Hp w w' [.tab A1 c1 43 hs0 3 1 (encM encN res.1), .tab A2 c2 81 hs1 4 1 (encM encBl res.2)]) := by
  refine calls_of_cw (args := [.agg #[.int .i64 a0.layers, .slice A_a0_bounds a0.bounds.length c_a0_bounds], .int .i64 a1]) Try.func65 rfl rfl rfl rfl ?_
  have H := Hp.start w
  have R0 := H.ext
  unfold ref03_walks at F
  refine CW.seq fun K1 hK1 => ?_
  refine CW.region ?_
  refine LW.go rfl rfl (OW.box rfl fun b1 w1 N1 => ?_)
  replace H := H.new N1 N1.blk
  replace R0 := H.ext
  refine LW.pure rfl rfl (RV.assign rfl) ?_
  refine LW.pure rfl rfl (RV.assign rfl) ?_
  refine LW.nil (hK1 _ _ ?_)
  refine CW.seqJ (fun ρ wl1 => (∃ (m11 : List (List Int)) (m12 : List (List Bool)) (hsm11 : List (Option Addr × Nat)) (Am11 : Option Addr) (cm11 : Nat) (hsm12 : List (Option Addr × Nat)) (Am12 : Option Addr) (cm12 : Nat), ref03_walks_k9 a0 a1 m11 m12 = some res ∧ ρ = [(1, .int .i64 a1), (2, .pointer (some (⟨b1, 0, none⟩))), (4, .slice none 0 0), (5, .slice none 0 0), (6, .slice Am11 m11.length cm11), (7, .slice Am12 m12.length cm12)] ∧ Hp w wl1 [.tab Am11 cm11 43 hsm11 3 1 (encM encN m11), .tab Am12 cm12 81 hsm12 4 1 (encM encBl m12), .blk b1 24 [.int .i64 a0.layers, .slice A_a0_bounds a0.bounds.length c_a0_bounds]])) ?_ ?_
  ·
    rintro _ wl1 ⟨m11, m12, hsm11, Am11, cm11, hsm12, Am12, cm12, F, rfl, H⟩
    have R0 := H.ext
    unfold ref03_walks_k9 at F
    refine CW.seqJ (fun ρ wl2 => (∃ (m1 : List (List Int)) (m2 : List (List Bool)) (hsm1 : List (Option Addr × Nat)) (hsm2 : List (Option Addr × Nat)), ref03_walks_k1 m1 m2 = some res ∧ ρ = [(4, .slice none 0 0), (5, .slice none 0 0), (6, .slice Am11 m1.length cm11), (7, .slice Am12 m2.length cm12)] ∧ Hp w wl2 [.tab Am11 cm11 43 hsm1 3 1 (encM encN m1), .tab Am12 cm12 81 hsm2 4 1 (encM encBl m2)])) ?_ ?_
    ·
      rintro _ wl2 ⟨m1, m2, hsm1, hsm2, F, rfl, H⟩
      have R0 := H.ext
      unfold ref03_walks_k1 at F
      refine CW.seq fun K2 hK2 => ?_
      refine CW.region ?_
      refine LW.pure rfl rfl (RV.move rfl) ?_
      refine LW.pure rfl rfl (RV.move rfl) ?_
      refine LW.pure rfl rfl (RV.assign rfl) ?_
      refine LW.pure rfl rfl (RV.assign rfl) ?_
      refine LW.nil (hK2 _ _ ?_)
      refine CW.ret ?_
      obtain rfl := Option.some.inj F
      refine ⟨_, (ResOK.two rfl rfl), ?_⟩
      exact ⟨Am11, cm11, hsm1, Am12, cm12, hsm2, (by first | rfl | (simp; done) | (simp; omega)), H⟩
    ·
      intro K3 hK3 jK6517
      refine CW.seq fun K4 hK4 => ?_
      refine CW.region ?_
      refine LW.pure rfl rfl (RV.assign rfl) ?_
      refine LW.nil (hK4 _ _ ?_)
      refine CW.block ?_
      refine CW.loop (fun meas ρ wl3 => ∃ (t8_1 : Int) (m9 : List (List Int)) (m10 : List (List Bool)) (hsm9 : List (Option Addr × Nat)) (hsm10 : List (Option Addr × Nat)), ref03_walks_L3 a0 a1 meas t8_1 m9 m10 = some res ∧ ρ = [(1, .int .i64 a1), (2, .pointer (some (⟨b1, 0, none⟩))), (4, .slice none 0 0), (5, .slice none 0 0), (6, .slice Am11 m9.length cm11), (7, .slice Am12 m10.length cm12), (8, .int .i64 t8_1)] ∧ Hp w wl3 [.tab Am11 cm11 43 hsm9 3 1 (encM encN m9), .tab Am12 cm12 81 hsm10 4 1 (encM encBl m10), .blk b1 24 [.int .i64 a0.layers, .slice A_a0_bounds a0.bounds.length c_a0_bounds]]) FU ⟨_, ?_, ((0 : Int)), m11, m12, hsm11, hsm12, F, rfl, H⟩ ?_
      · exact ⟨rfl, rfl, rfl, rfl, (look_slice rfl (by first | rfl | (simp; done) | (simp; omega))), (look_slice rfl (by first | rfl | (simp; done) | (simp; omega))), rfl, trivial⟩
      rintro mk1 _ wl3 ⟨t8_1, m9, m10, hsm9, hsm10, F, rfl, H⟩
      have R0 := H.ext
      replace F := ref03_walks_L3_s F
      obtain ⟨mk1, rfl, F⟩ := F
      generalize hrec1 : ref03_walks_L3 a0 a1 mk1 = rec1 at F
      unfold ref03_walks_B3 at F
      refine CW.seq fun K5 hK5 => ?_
      refine CW.seq fun K6 hK6 => ?_
      refine CW.region ?_
      refine LW.pure rfl rfl (RV.move rfl) ?_
      refine LW.pure rfl rfl (RV.fieldAddr Tf24_0 rfl) ?_
      refine LW.pure rfl rfl (RV.load1 Tk3 rfl ((H.blk 2 rfl).cells.off 0) rfl) ?_
      refine LW.pure rfl rfl (RV.lss rfl rfl) ?_
      refine LW.nil (hK6 _ _ ?_)
      by_cases hp1 : t8_1 < a0.layers
      ·
        replace F := ite_y hp1 F
        have hq1 := dec_t hp1
        refine CW.condT rfl hq1 ?_
        refine CW.skip (hK5 _ _ ?_)
        refine CW.seqJ (fun ρ wl4 => (∃ (m3 : List (List Int)) (m4 : List (List Bool)) (hsm3 : List (Option Addr × Nat)) (hsm4 : List (Option Addr × Nat)), ref03_walks_k2 t8_1 rec1 m3 m4 = some res ∧ ρ = [(1, .int .i64 a1), (2, .pointer (some (⟨b1, 0, none⟩))), (4, .slice none 0 0), (5, .slice none 0 0), (6, .slice Am11 m3.length cm11), (7, .slice Am12 m4.length cm12), (8, .int .i64 t8_1)] ∧ Hp w wl4 [.tab Am11 cm11 43 hsm3 3 1 (encM encN m3), .tab Am12 cm12 81 hsm4 4 1 (encM encBl m4), .blk b1 24 [.int .i64 a0.layers, .slice A_a0_bounds a0.bounds.length c_a0_bounds]])) ?_ ?_
        ·
          rintro _ wl4 ⟨m3, m4, hsm3, hsm4, F, rfl, H⟩
          have R0 := H.ext
          unfold ref03_walks_k2 at F
          obtain ⟨hg1, F⟩ := gd_some F
          refine CW.region ?_
          refine LW.pure rfl rfl (RV.move rfl) ?_
          refine LW.pure rfl rfl (RV.add rfl rfl hg1) ?_
          refine LW.pure rfl rfl (RV.assign rfl) ?_
          refine LW.nil ?_
          subst hrec1
          refine ⟨mk1, Nat.lt_succ_self _, _, ?_, (t8_1 + 1), m3, m4, hsm3, hsm4, F, rfl, H⟩
          exact ⟨rfl, rfl, rfl, rfl, (look_slice rfl (by first | rfl | (simp; done) | (simp; omega))), (look_slice rfl (by first | rfl | (simp; done) | (simp; omega))), rfl, trivial⟩
        ·
          intro K7 hK7 jK8327
          refine CW.block ?_
          refine CW.seqJ (fun ρ wl5 => (∃ (hsm13 : List (Option Addr × Nat)) (hsm14 : List (Option Addr × Nat)), ref03_walks_k8 a0 a1 t8_1 m9 m10 rec1 = some res ∧ ρ = [(1, .int .i64 a1), (2, .pointer (some (⟨b1, 0, none⟩))), (4, .slice none 0 0), (5, .slice none 0 0), (6, .slice Am11 m9.length cm11), (7, .slice Am12 m10.length cm12), (8, .int .i64 t8_1)] ∧ Hp w wl5 [.tab Am11 cm11 43 hsm13 3 1 (encM encN ((m9.set (Int.toNat t8_1) ((List.replicate (Int.toNat a0.layers) (0 : Int)))))), .tab Am12 cm12 81 hsm14 4 1 (encM encBl ((m10.set (Int.toNat t8_1) ((List.replicate (Int.toNat a0.layers) (false : Bool)))))), .blk b1 24 [.int .i64 a0.layers, .slice A_a0_bounds a0.bounds.length c_a0_bounds]])) ?_ ?_
          ·
            rintro _ wl5 ⟨hsm13, hsm14, F, rfl, H⟩
            have R0 := H.ext
            unfold ref03_walks_k8 at F
            refine CW.seq fun K8 hK8 => ?_
            obtain ⟨x14, hbx14, hx14, F⟩ := ix_some F
            obtain ⟨x15, hbx15, hx15, F⟩ := ix_some F
            refine CW.region ?_
            refine LW.pure rfl rfl (RV.move rfl) ?_
            refine LW.pure rfl rfl (RV.move rfl) ?_
            obtain ⟨B1, e1, hh1⟩ := (H.tab 1 rfl).hd hx14
            refine LW.pure rfl rfl (RV.indexAddr Ts78 rfl rfl (by first | exact hbx14 | (simp at hbx14 ⊢; omega)) ((H.tab 1 rfl).addr_ hx14)) ?_
            refine LW.pure rfl rfl (RV.load1 Tk81 rfl ((H.tab 1 rfl).cell hx14 hh1) rfl) ?_
            refine LW.pure rfl rfl (RV.move rfl) ?_
            refine LW.pure rfl rfl (RV.indexAddr Ts81 rfl rfl hbx15 (((H.tab 1 rfl).rowO hx14 hh1).sl.addr_ hx15)) ?_
            refine LW.go rfl rfl (OW.storeO (enc := encBl) (vs := [.bool true]) 0 (true) Tk4 rfl rfl ((H.tab 1 rfl).rowO hx14 hh1) (fun _ => rfl) rfl hx15 rfl rfl (by decide) rfl rfl fun w2 M1 O1 => ?_)
            replace H : Hp w w2 [.tab Am11 cm11 43 hsm13 3 1 (encM encN ((m9.set (Int.toNat t8_1) ((List.replicate (Int.toNat a0.layers) (0 : Int)))))), .tab Am12 cm12 81 hsm14 4 1 (encM encBl ((((m10.set (Int.toNat t8_1) ((List.replicate (Int.toNat a0.layers) (false : Bool))))).set (Int.toNat t8_1) (x14.set (Int.toNat t8_1) true)))), .blk b1 24 [.int .i64 a0.layers, .slice A_a0_bounds a0.bounds.length c_a0_bounds]] := H.tabRow 1 rfl hh1 hx14 (by simp) M1 O1
            replace R0 := H.ext
            have hrw1 : ((((m10.set (Int.toNat t8_1) ((List.replicate (Int.toNat a0.layers) (false : Bool))))).set (Int.toNat t8_1) (x14.set (Int.toNat t8_1) true)))[Int.toNat t8_1]? = some (x14.set (Int.toNat t8_1) true) := List.getElem?_set_self (lt_of_at hx14)
            refine LW.nil (hK8 _ _ ?_)
            refine CW.seq fun K9 hK9 => ?_
            refine CW.region ?_
            refine LW.pure rfl rfl (RV.assign rfl) ?_
            refine LW.nil (hK9 _ _ ?_)
            refine CW.block ?_
            refine CW.loop (fun meas ρ wl6 => ∃ (t9_1 : Int) (m7 : List (List Int)) (m8 : List (List Bool)) (hsm7 : List (Option Addr × Nat)) (hsm8 : List (Option Addr × Nat)), ref03_walks_L2 a0 a1 t8_1 rec1 meas t9_1 m7 m8 = some res ∧ ρ = [(1, .int .i64 a1), (2, .pointer (some (⟨b1, 0, none⟩))), (4, .slice none 0 0), (5, .slice none 0 0), (6, .slice Am11 m7.length cm11), (7, .slice Am12 m8.length cm12), (8, .int .i64 t8_1), (9, .int .i64 t9_1)] ∧ Hp w wl6 [.tab Am11 cm11 43 hsm7 3 1 (encM encN m7), .tab Am12 cm12 81 hsm8 4 1 (encM encBl m8), .blk b1 24 [.int .i64 a0.layers, .slice A_a0_bounds a0.bounds.length c_a0_bounds]]) FU ⟨_, ?_, ((0 : Int)), ((m9.set (Int.toNat t8_1) ((List.replicate (Int.toNat a0.layers) (0 : Int))))), ((((m10.set (Int.toNat t8_1) ((List.replicate (Int.toNat a0.layers) (false : Bool))))).set (Int.toNat t8_1) (x14.set (Int.toNat t8_1) true))), hsm13, hsm14, F, rfl, H⟩ ?_
            · exact ⟨rfl, rfl, rfl, rfl, (look_slice rfl (by first | rfl | (simp; done) | (simp; omega))), (look_slice rfl (by first | rfl | (simp; done) | (simp; omega))), rfl, rfl, trivial⟩
            rintro mk2 _ wl6 ⟨t9_1, m7, m8, hsm7, hsm8, F, rfl, H⟩
            have R0 := H.ext
            replace F := ref03_walks_L2_s F
            obtain ⟨mk2, rfl, F⟩ := F
            generalize hrec2 : ref03_walks_L2 a0 a1 t8_1 rec1 mk2 = rec2 at F
            unfold ref03_walks_B2 at F
            refine CW.seq fun K10 hK10 => ?_
            refine CW.seq fun K11 hK11 => ?_
            refine CW.region ?_
            refine LW.pure rfl rfl (RV.move rfl) ?_
            refine LW.pure rfl rfl (RV.move rfl) ?_
            refine LW.pure rfl rfl (RV.lss rfl rfl) ?_
            refine LW.nil (hK11 _ _ ?_)
            by_cases hp2 : t9_1 < a1
            ·
              replace F := ite_y hp2 F
              have hq2 := dec_t hp2
              refine CW.condT rfl hq2 ?_
              refine CW.skip (hK10 _ _ ?_)
              refine CW.seqJ (fun ρ wl7 => (∃ (m5 : List (List Int)) (m6 : List (List Bool)) (hsm5 : List (Option Addr × Nat)) (hsm6 : List (Option Addr × Nat)), ref03_walks_k3 t9_1 rec2 m5 m6 = some res ∧ ρ = [(1, .int .i64 a1), (2, .pointer (some (⟨b1, 0, none⟩))), (4, .slice none 0 0), (5, .slice none 0 0), (6, .slice Am11 m5.length cm11), (7, .slice Am12 m6.length cm12), (8, .int .i64 t8_1), (9, .int .i64 t9_1)] ∧ Hp w wl7 [.tab Am11 cm11 43 hsm5 3 1 (encM encN m5), .tab Am12 cm12 81 hsm6 4 1 (encM encBl m6), .blk b1 24 [.int .i64 a0.layers, .slice A_a0_bounds a0.bounds.length c_a0_bounds]])) ?_ ?_
              ·
                rintro _ wl7 ⟨m5, m6, hsm5, hsm6, F, rfl, H⟩
                have R0 := H.ext
                unfold ref03_walks_k3 at F
                obtain ⟨hg2, F⟩ := gd_some F
                refine CW.region ?_
                refine LW.pure rfl rfl (RV.move rfl) ?_
                refine LW.pure rfl rfl (RV.add rfl rfl hg2) ?_
                refine LW.pure rfl rfl (RV.assign rfl) ?_
                refine LW.nil ?_
                subst hrec2
                refine ⟨mk2, Nat.lt_succ_self _, _, ?_, (t9_1 + 1), m5, m6, hsm5, hsm6, F, rfl, H⟩
                exact ⟨rfl, rfl, rfl, rfl, (look_slice rfl (by first | rfl | (simp; done) | (simp; omega))), (look_slice rfl (by first | rfl | (simp; done) | (simp; omega))), rfl, rfl, trivial⟩
              ·
                intro K12 hK12 jK8628
                refine CW.block ?_
                refine CW.seqJ (fun ρ wl8 => (∃ (l7 : List Int) (l8 : List Bool) (Al7 : Option Addr) (cl7 : Nat) (Al8 : Option Addr) (cl8 : Nat), ref03_walks_k7 a0 t8_1 t9_1 m7 m8 rec2 l7 l8 = some res ∧ ρ = [(1, .int .i64 a1), (2, .pointer (some (⟨b1, 0, none⟩))), (4, .slice none 0 0), (5, .slice none 0 0), (6, .slice Am11 m7.length cm11), (7, .slice Am12 m8.length cm12), (8, .int .i64 t8_1), (9, .int .i64 t9_1), (10, .slice Al7 l7.length cl7), (11, .slice Al8 l8.length cl8)] ∧ Hp w wl8 [.tab Am11 cm11 43 hsm7 3 1 (encM encN m7), .tab Am12 cm12 81 hsm8 4 1 (encM encBl m8), .own Al7 cl7 3 1 (List.map encN l7), .own Al8 cl8 4 1 (List.map encBl l8), .blk b1 24 [.int .i64 a0.layers, .slice A_a0_bounds a0.bounds.length c_a0_bounds]])) ?_ ?_
                ·
                  rintro _ wl8 ⟨l7, l8, Al7, cl7, Al8, cl8, F, rfl, H⟩
                  have R0 := H.ext
                  unfold ref03_walks_k7 at F
                  refine CW.seqJ (fun ρ wl9 => (∃ (l1 : List Int) (l2 : List Bool), ref03_walks_k4 t8_1 t9_1 m7 m8 rec2 l1 l2 = some res ∧ ρ = [(1, .int .i64 a1), (2, .pointer (some (⟨b1, 0, none⟩))), (4, .slice none 0 0), (5, .slice none 0 0), (6, .slice Am11 m7.length cm11), (7, .slice Am12 m8.length cm12), (8, .int .i64 t8_1), (9, .int .i64 t9_1), (10, .slice Al7 l1.length cl7), (11, .slice Al8 l2.length cl8)] ∧ Hp w wl9 [.tab Am11 cm11 43 hsm7 3 1 (encM encN m7), .tab Am12 cm12 81 hsm8 4 1 (encM encBl m8), .own Al7 cl7 3 1 (List.map encN l1), .own Al8 cl8 4 1 (List.map encBl l2), .blk b1 24 [.int .i64 a0.layers, .slice A_a0_bounds a0.bounds.length c_a0_bounds]])) ?_ ?_
                  ·
                    rintro _ wl9 ⟨l1, l2, F, rfl, H⟩
                    have R0 := H.ext
                    unfold ref03_walks_k4 at F
                    obtain ⟨x1, hbx1, hx1, F⟩ := ix_some F
                    obtain ⟨x2, hbx2, hx2, F⟩ := ix_some F
                    refine CW.region ?_
                    refine LW.pure rfl rfl (RV.move rfl) ?_
                    refine LW.pure rfl rfl (RV.move rfl) ?_
                    refine LW.pure rfl rfl (RV.move rfl) ?_
                    refine LW.pure rfl rfl (RV.move rfl) ?_
                    refine LW.pure rfl rfl (RV.move rfl) ?_
                    refine LW.pure rfl rfl (RV.move rfl) ?_
                    obtain ⟨B2, e2, hh2⟩ := (H.tab 0 rfl).hd hx1
                    refine LW.pure rfl rfl (RV.indexAddr Ts58 rfl rfl hbx1 ((H.tab 0 rfl).addr_ hx1)) ?_
                    have hn1 : l1.length = l1.length := by first | rfl | (simp; done) | (simp; omega)
                    refine LW.go rfl rfl (OW.storeO (enc := encH) (vs := [.slice Al7 l1.length cl7]) 0 ((Al7, cl7), List.map encN l1) Tk43 rfl rfl (H.tab 0 rfl).outer (fun _ => rfl) rfl ((H.tab 0 rfl).zipAt hx1 hh2) rfl rfl (by decide) rfl (by rw [hn1]; simp [encH, over]) fun w3 M2 O2 => ?_)
                    replace H : Hp w w3 [.tab Am11 cm11 43 ((hsm7.set (Int.toNat t8_1) (Al7, cl7))) 3 1 (encM encN ((m7.set (Int.toNat t8_1) l1))), .tab Am12 cm12 81 hsm8 4 1 (encM encBl m8), .own Al8 cl8 4 1 (List.map encBl l2), .blk b1 24 [.int .i64 a0.layers, .slice A_a0_bounds a0.bounds.length c_a0_bounds]] := H.tabSet 0 2 (by decide) rfl rfl (lt_of_at hx1) M2 O2
                    replace R0 := H.ext
                    obtain ⟨B3, e3, hh3⟩ := (H.tab 1 rfl).hd hx2
                    refine LW.pure rfl rfl (RV.indexAddr Ts78 rfl rfl hbx2 ((H.tab 1 rfl).addr_ hx2)) ?_
                    have hn2 : l2.length = l2.length := by first | rfl | (simp; done) | (simp; omega)
                    refine LW.go rfl rfl (OW.storeO (enc := encH) (vs := [.slice Al8 l2.length cl8]) 0 ((Al8, cl8), List.map encBl l2) Tk81 rfl rfl (H.tab 1 rfl).outer (fun _ => rfl) rfl ((H.tab 1 rfl).zipAt hx2 hh3) rfl rfl (by decide) rfl (by rw [hn2]; simp [encH, over]) fun w4 M3 O3 => ?_)
                    replace H : Hp w w4 [.tab Am11 cm11 43 ((hsm7.set (Int.toNat t8_1) (Al7, cl7))) 3 1 (encM encN ((m7.set (Int.toNat t8_1) l1))), .tab Am12 cm12 81 ((hsm8.set (Int.toNat t8_1) (Al8, cl8))) 4 1 (encM encBl ((m8.set (Int.toNat t8_1) l2))), .blk b1 24 [.int .i64 a0.layers, .slice A_a0_bounds a0.bounds.length c_a0_bounds]] := H.tabSet 1 2 (by decide) rfl rfl (lt_of_at hx2) M3 O3
                    replace R0 := H.ext
                    refine LW.nil (jK8628 _ _ ⟨_, ?_, ⟨((m7.set (Int.toNat t8_1) l1)), ((m8.set (Int.toNat t8_1) l2)), ((hsm7.set (Int.toNat t8_1) (Al7, cl7))), ((hsm8.set (Int.toNat t8_1) (Al8, cl8))), F, rfl, H⟩⟩)
                    exact ⟨rfl, rfl, rfl, rfl, (look_slice rfl (by first | rfl | (simp; done) | (simp; omega))), (look_slice rfl (by first | rfl | (simp; done) | (simp; omega))), rfl, rfl, trivial⟩
                  ·
                    intro K13 hK13 jK8657
                    refine CW.seq fun K14 hK14 => ?_
                    refine CW.region ?_
                    refine LW.pure rfl rfl (RV.assign rfl) ?_
                    refine LW.nil (hK14 _ _ ?_)
                    refine CW.block ?_
                    refine CW.loop (fun meas ρ wl10 => ∃ (t12_1 : Int) (l5 : List Int) (l6 : List Bool), ref03_walks_L1 a0 t8_1 t9_1 m7 m8 rec2 meas t12_1 l5 l6 = some res ∧ ρ = [(1, .int .i64 a1), (2, .pointer (some (⟨b1, 0, none⟩))), (4, .slice none 0 0), (5, .slice none 0 0), (6, .slice Am11 m7.length cm11), (7, .slice Am12 m8.length cm12), (8, .int .i64 t8_1), (9, .int .i64 t9_1), (10, .slice Al7 l5.length cl7), (11, .slice Al8 l6.length cl8), (12, .int .i64 t12_1)] ∧ Hp w wl10 [.tab Am11 cm11 43 hsm7 3 1 (encM encN m7), .tab Am12 cm12 81 hsm8 4 1 (encM encBl m8), .own Al7 cl7 3 1 (List.map encN l5), .own Al8 cl8 4 1 (List.map encBl l6), .blk b1 24 [.int .i64 a0.layers, .slice A_a0_bounds a0.bounds.length c_a0_bounds]]) FU ⟨_, ?_, ((0 : Int)), l7, l8, F, rfl, H⟩ ?_
                    · exact ⟨rfl, rfl, rfl, rfl, (look_slice rfl (by first | rfl | (simp; done) | (simp; omega))), (look_slice rfl (by first | rfl | (simp; done) | (simp; omega))), rfl, rfl, (look_slice rfl (by first | rfl | (simp; done) | (simp; omega))), (look_slice rfl (by first | rfl | (simp; done) | (simp; omega))), rfl, trivial⟩
                    rintro mk3 _ wl10 ⟨t12_1, l5, l6, F, rfl, H⟩
                    have R0 := H.ext
                    replace F := ref03_walks_L1_s F
                    obtain ⟨mk3, rfl, F⟩ := F
                    generalize hrec3 : ref03_walks_L1 a0 t8_1 t9_1 m7 m8 rec2 mk3 = rec3 at F
                    unfold ref03_walks_B1 at F
                    refine CW.seq fun K15 hK15 => ?_
                    refine CW.seq fun K16 hK16 => ?_
                    refine CW.region ?_
                    refine LW.pure rfl rfl (RV.move rfl) ?_
                    refine LW.pure rfl rfl (RV.fieldAddr Tf24_1 rfl) ?_
                    refine LW.pure rfl rfl (RV.load1 Tk22 rfl ((H.blk 4 rfl).cells.off 1) rfl) ?_
                    refine LW.pure rfl rfl (RV.len Ts22 rfl) ?_
                    refine LW.pure rfl rfl (RV.lss rfl rfl) ?_
                    refine LW.nil (hK16 _ _ ?_)
                    by_cases hp3 : t12_1 < ((a0.bounds.length : Int))
                    ·
                      replace F := ite_y hp3 F
                      have hq3 := dec_t hp3
                      refine CW.condT rfl hq3 ?_
                      refine CW.skip (hK15 _ _ ?_)
                      refine CW.seqJ (fun ρ wl11 => (∃ (l3 : List Int) (l4 : List Bool), ref03_walks_k5 t12_1 rec3 l3 l4 = some res ∧ ρ = [(1, .int .i64 a1), (2, .pointer (some (⟨b1, 0, none⟩))), (4, .slice none 0 0), (5, .slice none 0 0), (6, .slice Am11 m7.length cm11), (7, .slice Am12 m8.length cm12), (8, .int .i64 t8_1), (9, .int .i64 t9_1), (10, .slice Al7 l3.length cl7), (11, .slice Al8 l4.length cl8), (12, .int .i64 t12_1)] ∧ Hp w wl11 [.tab Am11 cm11 43 hsm7 3 1 (encM encN m7), .tab Am12 cm12 81 hsm8 4 1 (encM encBl m8), .own Al7 cl7 3 1 (List.map encN l3), .own Al8 cl8 4 1 (List.map encBl l4), .blk b1 24 [.int .i64 a0.layers, .slice A_a0_bounds a0.bounds.length c_a0_bounds]])) ?_ ?_
                      ·
                        rintro _ wl11 ⟨l3, l4, F, rfl, H⟩
                        have R0 := H.ext
                        unfold ref03_walks_k5 at F
                        obtain ⟨hg3, F⟩ := gd_some F
                        refine CW.region ?_
                        refine LW.pure rfl rfl (RV.move rfl) ?_
                        refine LW.pure rfl rfl (RV.add rfl rfl hg3) ?_
                        refine LW.pure rfl rfl (RV.assign rfl) ?_
                        refine LW.nil ?_
                        subst hrec3
                        refine ⟨mk3, Nat.lt_succ_self _, _, ?_, (t12_1 + 1), l3, l4, F, rfl, H⟩
                        exact ⟨rfl, rfl, rfl, rfl, (look_slice rfl (by first | rfl | (simp; done) | (simp; omega))), (look_slice rfl (by first | rfl | (simp; done) | (simp; omega))), rfl, rfl, (look_slice rfl (by first | rfl | (simp; done) | (simp; omega))), (look_slice rfl (by first | rfl | (simp; done) | (simp; omega))), rfl, trivial⟩
                      ·
                        intro K17 hK17 jK8682
                        refine CW.block ?_
                        refine CW.seq fun K18 hK18 => ?_
                        obtain ⟨x3, hbx3, hx3, F⟩ := ix_some F
                        refine CW.region ?_
                        refine LW.pure rfl rfl (RV.fieldAddr Tf24_1 rfl) ?_
                        refine LW.pure rfl rfl (RV.load1 Tk22 rfl ((H.blk 4 rfl).cells.off 1) rfl) ?_
                        refine LW.pure rfl rfl (RV.move rfl) ?_
                        refine LW.pure rfl rfl (RV.indexAddr Ts22 rfl rfl hbx3 (h_a0_bounds.addr_ hx3)) ?_
                        refine LW.pure rfl rfl (RV.loadA [.int .i64 x3.a, .int .i64 x3.b, .int .i64 x3.most] Tk26 rfl ((h_a0_bounds.at_ hx3).ext R0) rfl rfl) ?_
                        refine LW.go rfl rfl (OW.alloc Tz26 fun b2 w5 N2 => ?_)
                        replace H := H.new N2 N2.blk
                        replace R0 := H.ext
                        refine LW.go rfl rfl (OW.store Tk26 rfl rfl (H.blk 0 rfl) (off := 0) (vs := [.int .i64 x3.a, .int .i64 x3.b, .int .i64 x3.most]) rfl rfl rfl rfl rfl fun w6 S1 => ?_)
                        replace H : Hp w w6 [.blk b2 26 [.int .i64 x3.a, .int .i64 x3.b, .int .i64 x3.most], .tab Am11 cm11 43 hsm7 3 1 (encM encN m7), .tab Am12 cm12 81 hsm8 4 1 (encM encBl m8), .own Al7 cl7 3 1 (List.map encN l5), .own Al8 cl8 4 1 (List.map encBl l6), .blk b1 24 [.int .i64 a0.layers, .slice A_a0_bounds a0.bounds.length c_a0_bounds]] := H.stored 0 rfl S1
                        replace R0 := H.ext
                        refine LW.nil (hK18 _ _ ?_)
                        refine CW.seq fun K19 hK19 => ?_
                        obtain ⟨x7, hbx7, hx7, F⟩ := ix_some F
                        obtain ⟨x4, hbx4, hx4, F⟩ := ix_some F
                        obtain ⟨hg4, F⟩ := gd_some F
                        refine CW.draw [] (fun _ => True) (.cons 0 1 (.cons 1 1 (.cons 2 1 (.cons 3 1 (.cons 4 1 (.cons 5 1 (.cons 6 1 (.cons 7 1 (.cons 8 1 (.cons 9 1 (.cons 10 1 (.cons 11 1 .nil)))))))))))) mixed (by kernel_rfl) fun w7 E1 => ?_
                        replace H := H.grow E1
                        replace R0 := H.ext
                        refine DW.fix rfl rfl rfl (fun _ EQ => RV.move rfl) ?_
                        refine DW.fix rfl rfl rfl (fun _ EQ => RV.move rfl) ?_
                        obtain ⟨B4, e4, hh4⟩ := (H.tab 1 rfl).hd hx7
                        refine DW.fix rfl rfl rfl (fun _ EQ => RV.indexAddr Ts58 rfl rfl hbx7 ((H.tab 1 rfl).addr_ hx7)) ?_
                        refine DW.fix rfl rfl rfl (fun _ EQ => RV.load1 Tk43 rfl (((H.grow EQ).tab 1 rfl).cell hx7 hh4) rfl) ?_
                        refine DW.fix rfl rfl rfl (fun _ EQ => RV.fieldAddr Tf26_0 rfl) ?_
                        refine DW.fix rfl rfl rfl (fun _ EQ => RV.load1 Tk3 rfl (((H.grow EQ).blk 0 rfl).cells.off 0) rfl) ?_
                        refine DW.fix rfl rfl rfl (fun _ EQ => RV.indexAddr Ts43 rfl rfl hbx4 (((H.tab 1 rfl).rowO hx7 hh4).sl.addr_ hx4)) ?_
                        refine DW.fix rfl rfl rfl (fun _ EQ => RV.load1 Tk3 rfl ((((H.grow EQ).tab 1 rfl).rowO hx7 hh4).sl.at_ hx4) rfl) ?_
                        refine DW.fix rfl rfl rfl (fun _ EQ => RV.fieldAddr Tf26_2 rfl) ?_
                        refine DW.fix rfl rfl rfl (fun _ EQ => RV.load1 Tk3 rfl (((H.grow EQ).blk 0 rfl).cells.off 2) rfl) ?_
                        refine DW.fix rfl rfl rfl (fun _ EQ => RV.add rfl rfl hg4) ?_
                        refine DW.fix rfl rfl rfl (fun _ EQ => RV.assign rfl) ?_
                        refine DW.nil (hK19 _ _ ?_)
                        refine CW.seqJ (fun ρ wl12 => (∃ (t109_1 : Bool), ref03_walks_k6 t12_1 l5 l6 rec3 x3 x4 t109_1 = some res ∧ ρ = [(1, .int .i64 a1), (2, .pointer (some (⟨b1, 0, none⟩))), (4, .slice none 0 0), (5, .slice none 0 0), (6, .slice Am11 m7.length cm11), (7, .slice Am12 m8.length cm12), (8, .int .i64 t8_1), (9, .int .i64 t9_1), (10, .slice Al7 l5.length cl7), (11, .slice Al8 l6.length cl8), (12, .int .i64 t12_1), (13, .pointer (some (⟨b2, 0, none⟩))), (14, .int .i64 (x4 + x3.most)), (109, .bool t109_1)] ∧ Hp w wl12 [.tab Am11 cm11 43 hsm7 3 1 (encM encN m7), .tab Am12 cm12 81 hsm8 4 1 (encM encBl m8), .own Al7 cl7 3 1 (List.map encN l5), .own Al8 cl8 4 1 (List.map encBl l6), .blk b1 24 [.int .i64 a0.layers, .slice A_a0_bounds a0.bounds.length c_a0_bounds], .blk b2 26 [.int .i64 x3.a, .int .i64 x3.b, .int .i64 x3.most]])) ?_ ?_
                        ·
                          rintro _ wl12 ⟨t109_1, F, rfl, H⟩
                          have R0 := H.ext
                          unfold ref03_walks_k6 at F
                          by_cases hp4 : t109_1 = true
                          ·
                            replace F := ite_y hp4 F
                            have hq4 : t109_1 = true := hp4
                            refine CW.condT rfl hq4 ?_
                            obtain ⟨x5, hbx5, hx5, F⟩ := ix_some F
                            obtain ⟨x6, hbx6, hx6, F⟩ := ix_some F
                            have H0 := H
                            have hz : wl12.heap.size ≤ wl12.heap.size := Nat.le_refl _
                            refine CW.draw [8, 10] (XB wl12 [.tab Am11 cm11 43 hsm7 3 1 (encM encN m7), .tab Am12 cm12 81 hsm8 4 1 (encM encBl m8), .own Al7 cl7 3 1 (List.map encN l5), .own Al8 cl8 4 1 (List.map encBl l6), .blk b1 24 [.int .i64 a0.layers, .slice A_a0_bounds a0.bounds.length c_a0_bounds], .blk b2 26 [.int .i64 x3.a, .int .i64 x3.b, .int .i64 x3.most]] [2, 3]) (.cons 0 1 (.cons 1 1 (.cons 2 1 (.cons 6 1 (.cons 7 1 (.cons 3 2 (.cons 4 2 (.cons 5 2 (.cons 8 0 (.cons 9 2 (.cons 10 0 .nil))))))))))) mixed (by kernel_rfl) fun w8 E2 => ?_
                            replace H := H.grow E2
                            replace R0 := H.ext
                            replace hz := Nat.le_trans hz (Ext.size E2)
                            refine DW.fix rfl rfl rfl (fun _ EQ => RV.move rfl) ?_
                            refine DW.fix rfl rfl rfl (fun _ EQ => RV.fieldAddr Tf26_1 rfl) ?_
                            refine DW.fix rfl rfl rfl (fun _ EQ => RV.load1 Tk3 rfl (((H.grow EQ).blk 5 rfl).cells.off 1) rfl) ?_
                            refine DW.fix rfl rfl rfl (fun _ EQ => RV.move rfl) ?_
                            refine DW.fix rfl rfl rfl (fun _ EQ => RV.indexAddr Ts43 rfl rfl hbx5 ((H.own 2 rfl).sl.addr_ hx5)) ?_
                            refine DW.thru rfl rfl rfl (fun _ EQ => RV.move rfl) ?_
                            refine DW.thru rfl rfl rfl (fun _ EQ => RV.fieldAddr Tf26_1 rfl) ?_
                            refine DW.thru rfl rfl rfl (fun _ EQ => RV.load1 Tk3 rfl ((H.thruB 5 rfl EQ (H0.notX [2, 3] 5 rfl (by decide))).cells.off 1) rfl) ?_
                            refine DW.sole rfl rfl rfl (OW.storeO (enc := encN) (vs := [.int .i64 (x4 + x3.most)]) 0 (x4 + x3.most) Tk3 rfl rfl (H.own 2 rfl) (fun _ => rfl) rfl hx5 rfl rfl (by decide) rfl rfl fun w9 M4 O4 => ?_)
                            refine ⟨fun h => absurd h (by decide), M4.modx (XB.own_ 2 (by decide) rfl), ?_⟩
                            replace H : Hp w w9 [.tab Am11 cm11 43 hsm7 3 1 (encM encN m7), .tab Am12 cm12 81 hsm8 4 1 (encM encBl m8), .own Al7 cl7 3 1 (List.map encN ((l5.set (Int.toNat x3.b) (x4 + x3.most)))), .own Al8 cl8 4 1 (List.map encBl l6), .blk b1 24 [.int .i64 a0.layers, .slice A_a0_bounds a0.bounds.length c_a0_bounds], .blk b2 26 [.int .i64 x3.a, .int .i64 x3.b, .int .i64 x3.most]] := H.mod 2 rfl M4 O4 (.inl rfl)
                            replace R0 := H.ext
                            replace hz := Nat.le_trans hz M4.size
                            refine DW.thru rfl rfl rfl (fun _ EQ => RV.indexAddr Ts81 rfl rfl hbx6 ((H.own 3 rfl).sl.addr_ hx6)) ?_
                            refine DW.sole rfl rfl rfl (OW.storeO (enc := encBl) (vs := [.bool true]) 0 (true) Tk4 rfl rfl (H.own 3 rfl) (fun _ => rfl) rfl hx6 rfl rfl (by decide) rfl rfl fun w10 M5 O5 => ?_)
                            refine ⟨fun h => absurd h (by decide), M5.modx (XB.own_ 3 (by decide) rfl), ?_⟩
                            replace H : Hp w w10 [.tab Am11 cm11 43 hsm7 3 1 (encM encN m7), .tab Am12 cm12 81 hsm8 4 1 (encM encBl m8), .own Al7 cl7 3 1 (List.map encN ((l5.set (Int.toNat x3.b) (x4 + x3.most)))), .own Al8 cl8 4 1 (List.map encBl ((l6.set (Int.toNat x3.b) true))), .blk b1 24 [.int .i64 a0.layers, .slice A_a0_bounds a0.bounds.length c_a0_bounds], .blk b2 26 [.int .i64 x3.a, .int .i64 x3.b, .int .i64 x3.most]] := H.mod 3 rfl M5 O5 (.inl rfl)
                            replace R0 := H.ext
                            replace hz := Nat.le_trans hz M5.size
                            replace H := H.pick (L' := [.tab Am11 cm11 43 hsm7 3 1 (encM encN m7), .tab Am12 cm12 81 hsm8 4 1 (encM encBl m8), .own Al7 cl7 3 1 (List.map encN ((l5.set (Int.toNat x3.b) (x4 + x3.most)))), .own Al8 cl8 4 1 (List.map encBl ((l6.set (Int.toNat x3.b) true))), .blk b1 24 [.int .i64 a0.layers, .slice A_a0_bounds a0.bounds.length c_a0_bounds]]) [0, 1, 2, 3, 4] (by decide) rfl
                            replace R0 := H.ext
                            refine DW.nil (jK8682 _ _ ⟨_, ?_, ⟨((l5.set (Int.toNat x3.b) (x4 + x3.most))), ((l6.set (Int.toNat x3.b) true)), F, rfl, H⟩⟩)
                            exact ⟨rfl, rfl, rfl, rfl, (look_slice rfl (by first | rfl | (simp; done) | (simp; omega))), (look_slice rfl (by first | rfl | (simp; done) | (simp; omega))), rfl, rfl, (look_slice rfl (by first | rfl | (simp; done) | (simp; omega))), (look_slice rfl (by first | rfl | (simp; done) | (simp; omega))), rfl, trivial⟩
                          ·
                            replace F := ite_n hp4 F
                            have hq4 : t109_1 = false := raw_f hp4
                            refine CW.condF rfl hq4 ?_
                            replace H := H.pick (L' := [.tab Am11 cm11 43 hsm7 3 1 (encM encN m7), .tab Am12 cm12 81 hsm8 4 1 (encM encBl m8), .own Al7 cl7 3 1 (List.map encN l5), .own Al8 cl8 4 1 (List.map encBl l6), .blk b1 24 [.int .i64 a0.layers, .slice A_a0_bounds a0.bounds.length c_a0_bounds]]) [0, 1, 2, 3, 4] (by decide) rfl
                            replace R0 := H.ext
                            refine CW.skip (jK8682 _ _ ⟨_, ?_, ⟨l5, l6, F, rfl, H⟩⟩)
                            exact ⟨rfl, rfl, rfl, rfl, (look_slice rfl (by first | rfl | (simp; done) | (simp; omega))), (look_slice rfl (by first | rfl | (simp; done) | (simp; omega))), rfl, rfl, (look_slice rfl (by first | rfl | (simp; done) | (simp; omega))), (look_slice rfl (by first | rfl | (simp; done) | (simp; omega))), rfl, trivial⟩
                        ·
                          intro K20 hK20 jK8685
                          obtain ⟨x8, hbx8, hx8, F⟩ := ix_some F
                          obtain ⟨x9, hbx9, hx9, F⟩ := ix_some F
                          by_cases hp5 : x9 = true
                          ·
                            replace F := ite_y hp5 F
                            have hq5 : x9 = true := hp5
                            obtain ⟨x10, hbx10, hx10, F⟩ := ix_some F
                            by_cases hp6 : x10 = true
                            ·
                              replace F := ite_y hp6 F
                              have hq6 : x10 = true := hp6
                              obtain ⟨x11, hbx11, hx11, F⟩ := ix_some F
                              refine CW.draw [] (fun _ => True) (.cons 0 1 (.cons 1 1 (.cons 2 1 (.cons 3 1 (.cons 4 1 (.cons 5 1 (.cons 6 1 (.cons 7 1 (.cons 8 1 (.cons 9 1 (.cons 10 1 (.cons 11 1 (.cons 12 1 (.cons 13 1 (.cons 14 1 (.cons 15 1 (.cons 16 1 (.cons 17 1 (.cons 18 1 (.cons 19 1 (.cons 20 1 (.cons 21 1 (.cons 22 1 (.cons 23 1 (.cons 24 1 .nil))))))))))))))))))))))))) mixed (by kernel_rfl) fun w11 E3 => ?_
                              replace H := H.grow E3
                              replace R0 := H.ext
                              refine DW.fix rfl rfl rfl (fun _ EQ => RV.move rfl) ?_
                              refine DW.fix rfl rfl rfl (fun _ EQ => RV.move rfl) ?_
                              obtain ⟨B5, e5, hh5⟩ := (H.tab 2 rfl).hd hx8
                              refine DW.fix rfl rfl rfl (fun _ EQ => RV.indexAddr Ts78 rfl rfl hbx8 ((H.tab 2 rfl).addr_ hx8)) ?_
                              refine DW.fix rfl rfl rfl (fun _ EQ => RV.load1 Tk81 rfl (((H.grow EQ).tab 2 rfl).cell hx8 hh5) rfl) ?_
                              refine DW.fix rfl rfl rfl (fun _ EQ => RV.fieldAddr Tf26_0 rfl) ?_
                              refine DW.fix rfl rfl rfl (fun _ EQ => RV.load1 Tk3 rfl (((H.grow EQ).blk 0 rfl).cells.off 0) rfl) ?_
                              refine DW.fix rfl rfl rfl (fun _ EQ => RV.indexAddr Ts81 rfl rfl hbx9 (((H.tab 2 rfl).rowO hx8 hh5).sl.addr_ hx9)) ?_
                              refine DW.fix rfl rfl rfl (fun _ EQ => RV.load1 Tk4 rfl ((((H.grow EQ).tab 2 rfl).rowO hx8 hh5).sl.at_ hx9) rfl) ?_
                              refine DW.fix rfl rfl rfl (fun _ EQ => RV.move rfl) ?_
                              refine DW.fixYB rfl rfl rfl rfl rfl hq5 (fun _ EQ => RV.move rfl) ?_
                              refine DW.fixYB rfl rfl rfl rfl rfl hq5 (fun _ EQ => RV.fieldAddr Tf26_1 rfl) ?_
                              refine DW.fixYB rfl rfl rfl rfl rfl hq5 (fun _ EQ => RV.load1 Tk3 rfl (((H.grow EQ).blk 0 rfl).cells.off 1) rfl) ?_
                              refine DW.fixYB rfl rfl rfl rfl rfl hq5 (fun _ EQ => RV.indexAddr Ts81 rfl rfl hbx10 ((H.own 4 rfl).sl.addr_ hx10)) ?_
                              refine DW.fixYB rfl rfl rfl rfl rfl hq5 (fun _ EQ => RV.load1 Tk4 rfl (((H.grow EQ).own 4 rfl).sl.at_ hx10) rfl) ?_
                              refine DW.fixYB rfl rfl rfl rfl rfl hq5 (fun _ EQ => RV.not rfl) ?_
                              refine DW.fixYB rfl rfl rfl rfl rfl hq5 (fun _ EQ => RV.move rfl) ?_
                              refine DW.fixYB rfl rfl rfl rfl rfl (not_f hq6) (fun _ EQ => RV.move rfl) ?_
                              refine DW.fixYB rfl rfl rfl rfl rfl (not_f hq6) (fun _ EQ => RV.move rfl) ?_
                              refine DW.fixYB rfl rfl rfl rfl rfl (not_f hq6) (fun _ EQ => RV.fieldAddr Tf26_1 rfl) ?_
                              refine DW.fixYB rfl rfl rfl rfl rfl (not_f hq6) (fun _ EQ => RV.load1 Tk3 rfl (((H.grow EQ).blk 0 rfl).cells.off 1) rfl) ?_
                              refine DW.fixYB rfl rfl rfl rfl rfl (not_f hq6) (fun _ EQ => RV.indexAddr Ts43 rfl rfl hbx11 ((H.own 3 rfl).sl.addr_ hx11)) ?_
                              refine DW.fixYB rfl rfl rfl rfl rfl (not_f hq6) (fun _ EQ => RV.load1 Tk3 rfl (((H.grow EQ).own 3 rfl).sl.at_ hx11) rfl) ?_
                              refine DW.fixYB rfl rfl rfl rfl rfl (not_f hq6) (fun _ EQ => RV.lss rfl rfl) ?_
                              refine DW.fixYB rfl rfl rfl rfl rfl hq5 (fun _ EQ => RV.pickFB rfl (not_f hq6) rfl) ?_
                              refine DW.fix rfl rfl rfl (fun _ EQ => RV.pickTB rfl hq5 rfl) ?_
                              replace H := H.pick (L' := [.tab Am11 cm11 43 hsm7 3 1 (encM encN m7), .tab Am12 cm12 81 hsm8 4 1 (encM encBl m8), .own Al7 cl7 3 1 (List.map encN l5), .own Al8 cl8 4 1 (List.map encBl l6), .blk b1 24 [.int .i64 a0.layers, .slice A_a0_bounds a0.bounds.length c_a0_bounds], .blk b2 26 [.int .i64 x3.a, .int .i64 x3.b, .int .i64 x3.most]]) [1, 2, 3, 4, 5, 0] (by decide) rfl
                              replace R0 := H.ext
                              refine DW.nil (jK8685 _ _ ⟨_, ?_, ⟨(decide ((x4 + x3.most) < x11)), F, rfl, H⟩⟩)
                              exact ⟨rfl, rfl, rfl, rfl, (look_slice rfl (by first | rfl | (simp; done) | (simp; omega))), (look_slice rfl (by first | rfl | (simp; done) | (simp; omega))), rfl, rfl, (look_slice rfl (by first | rfl | (simp; done) | (simp; omega))), (look_slice rfl (by first | rfl | (simp; done) | (simp; omega))), rfl, rfl, rfl, rfl, trivial⟩
                            ·
                              replace F := ite_n hp6 F
                              have hq6 : x10 = false := raw_f hp6
                              refine CW.draw [] (fun _ => True) (.cons 0 1 (.cons 1 1 (.cons 2 1 (.cons 3 1 (.cons 4 1 (.cons 5 1 (.cons 6 1 (.cons 7 1 (.cons 8 1 (.cons 9 1 (.cons 10 1 (.cons 11 1 (.cons 12 1 (.cons 13 1 (.cons 14 1 (.cons 15 1 (.cons 16 1 (.cons 17 1 (.cons 18 1 (.cons 19 1 (.cons 20 1 (.cons 21 1 (.cons 22 1 (.cons 23 1 (.cons 24 1 .nil))))))))))))))))))))))))) mixed (by kernel_rfl) fun w12 E4 => ?_
                              replace H := H.grow E4
                              replace R0 := H.ext
                              refine DW.fix rfl rfl rfl (fun _ EQ => RV.move rfl) ?_
                              refine DW.fix rfl rfl rfl (fun _ EQ => RV.move rfl) ?_
                              obtain ⟨B6, e6, hh6⟩ := (H.tab 2 rfl).hd hx8
                              refine DW.fix rfl rfl rfl (fun _ EQ => RV.indexAddr Ts78 rfl rfl hbx8 ((H.tab 2 rfl).addr_ hx8)) ?_
                              refine DW.fix rfl rfl rfl (fun _ EQ => RV.load1 Tk81 rfl (((H.grow EQ).tab 2 rfl).cell hx8 hh6) rfl) ?_
                              refine DW.fix rfl rfl rfl (fun _ EQ => RV.fieldAddr Tf26_0 rfl) ?_
                              refine DW.fix rfl rfl rfl (fun _ EQ => RV.load1 Tk3 rfl (((H.grow EQ).blk 0 rfl).cells.off 0) rfl) ?_
                              refine DW.fix rfl rfl rfl (fun _ EQ => RV.indexAddr Ts81 rfl rfl hbx9 (((H.tab 2 rfl).rowO hx8 hh6).sl.addr_ hx9)) ?_
                              refine DW.fix rfl rfl rfl (fun _ EQ => RV.load1 Tk4 rfl ((((H.grow EQ).tab 2 rfl).rowO hx8 hh6).sl.at_ hx9) rfl) ?_
                              refine DW.fix rfl rfl rfl (fun _ EQ => RV.move rfl) ?_
                              refine DW.fixYB rfl rfl rfl rfl rfl hq5 (fun _ EQ => RV.move rfl) ?_
                              refine DW.fixYB rfl rfl rfl rfl rfl hq5 (fun _ EQ => RV.fieldAddr Tf26_1 rfl) ?_
                              refine DW.fixYB rfl rfl rfl rfl rfl hq5 (fun _ EQ => RV.load1 Tk3 rfl (((H.grow EQ).blk 0 rfl).cells.off 1) rfl) ?_
                              refine DW.fixYB rfl rfl rfl rfl rfl hq5 (fun _ EQ => RV.indexAddr Ts81 rfl rfl hbx10 ((H.own 4 rfl).sl.addr_ hx10)) ?_
                              refine DW.fixYB rfl rfl rfl rfl rfl hq5 (fun _ EQ => RV.load1 Tk4 rfl (((H.grow EQ).own 4 rfl).sl.at_ hx10) rfl) ?_
                              refine DW.fixYB rfl rfl rfl rfl rfl hq5 (fun _ EQ => RV.not rfl) ?_
                              refine DW.fixYB rfl rfl rfl rfl rfl hq5 (fun _ EQ => RV.move rfl) ?_
                              refine DW.fixNB rfl rfl rfl rfl rfl (ne_beq (v := true) (not_t hq6) rfl) ?_
                              refine DW.fixNB rfl rfl rfl rfl rfl (ne_beq (v := true) (not_t hq6) rfl) ?_
                              refine DW.fixNB rfl rfl rfl rfl rfl (ne_beq (v := true) (not_t hq6) rfl) ?_
                              refine DW.fixNB rfl rfl rfl rfl rfl (ne_beq (v := true) (not_t hq6) rfl) ?_
                              refine DW.fixNB rfl rfl rfl rfl rfl (ne_beq (v := true) (not_t hq6) rfl) ?_
                              refine DW.fixNB rfl rfl rfl rfl rfl (ne_beq (v := true) (not_t hq6) rfl) ?_
                              refine DW.fixNB rfl rfl rfl rfl rfl (ne_beq (v := true) (not_t hq6) rfl) ?_
                              refine DW.fixYB rfl rfl rfl rfl rfl hq5 (fun _ EQ => RV.pickTB rfl (not_t hq6) rfl) ?_
                              refine DW.fix rfl rfl rfl (fun _ EQ => RV.pickTB rfl hq5 rfl) ?_
                              replace H := H.pick (L' := [.tab Am11 cm11 43 hsm7 3 1 (encM encN m7), .tab Am12 cm12 81 hsm8 4 1 (encM encBl m8), .own Al7 cl7 3 1 (List.map encN l5), .own Al8 cl8 4 1 (List.map encBl l6), .blk b1 24 [.int .i64 a0.layers, .slice A_a0_bounds a0.bounds.length c_a0_bounds], .blk b2 26 [.int .i64 x3.a, .int .i64 x3.b, .int .i64 x3.most]]) [1, 2, 3, 4, 5, 0] (by decide) rfl
                              replace R0 := H.ext
                              refine DW.nil (jK8685 _ _ ⟨_, ?_, ⟨true, F, rfl, H⟩⟩)
                              exact ⟨rfl, rfl, rfl, rfl, (look_slice rfl (by first | rfl | (simp; done) | (simp; omega))), (look_slice rfl (by first | rfl | (simp; done) | (simp; omega))), rfl, rfl, (look_slice rfl (by first | rfl | (simp; done) | (simp; omega))), (look_slice rfl (by first | rfl | (simp; done) | (simp; omega))), rfl, rfl, rfl, rfl, trivial⟩
                          ·
                            replace F := ite_n hp5 F
                            have hq5 : x9 = false := raw_f hp5
                            refine CW.draw [] (fun _ => True) (.cons 0 1 (.cons 1 1 (.cons 2 1 (.cons 3 1 (.cons 4 1 (.cons 5 1 (.cons 6 1 (.cons 7 1 (.cons 8 1 (.cons 9 1 (.cons 10 1 (.cons 11 1 (.cons 12 1 (.cons 13 1 (.cons 14 1 (.cons 15 1 (.cons 16 1 (.cons 17 1 (.cons 18 1 (.cons 19 1 (.cons 20 1 (.cons 21 1 (.cons 22 1 (.cons 23 1 (.cons 24 1 .nil))))))))))))))))))))))))) mixed (by kernel_rfl) fun w13 E5 => ?_
                            replace H := H.grow E5
                            replace R0 := H.ext
                            refine DW.fix rfl rfl rfl (fun _ EQ => RV.move rfl) ?_
                            refine DW.fix rfl rfl rfl (fun _ EQ => RV.move rfl) ?_
                            obtain ⟨B7, e7, hh7⟩ := (H.tab 2 rfl).hd hx8
                            refine DW.fix rfl rfl rfl (fun _ EQ => RV.indexAddr Ts78 rfl rfl hbx8 ((H.tab 2 rfl).addr_ hx8)) ?_
                            refine DW.fix rfl rfl rfl (fun _ EQ => RV.load1 Tk81 rfl (((H.grow EQ).tab 2 rfl).cell hx8 hh7) rfl) ?_
                            refine DW.fix rfl rfl rfl (fun _ EQ => RV.fieldAddr Tf26_0 rfl) ?_
                            refine DW.fix rfl rfl rfl (fun _ EQ => RV.load1 Tk3 rfl (((H.grow EQ).blk 0 rfl).cells.off 0) rfl) ?_
                            refine DW.fix rfl rfl rfl (fun _ EQ => RV.indexAddr Ts81 rfl rfl hbx9 (((H.tab 2 rfl).rowO hx8 hh7).sl.addr_ hx9)) ?_
                            refine DW.fix rfl rfl rfl (fun _ EQ => RV.load1 Tk4 rfl ((((H.grow EQ).tab 2 rfl).rowO hx8 hh7).sl.at_ hx9) rfl) ?_
                            refine DW.fix rfl rfl rfl (fun _ EQ => RV.move rfl) ?_
                            refine DW.fixNB rfl rfl rfl rfl rfl (ne_beq (v := false) hq5 rfl) ?_
                            refine DW.fixNB rfl rfl rfl rfl rfl (ne_beq (v := false) hq5 rfl) ?_
                            refine DW.fixNB rfl rfl rfl rfl rfl (ne_beq (v := false) hq5 rfl) ?_
                            refine DW.fixNB rfl rfl rfl rfl rfl (ne_beq (v := false) hq5 rfl) ?_
                            refine DW.fixNB rfl rfl rfl rfl rfl (ne_beq (v := false) hq5 rfl) ?_
                            refine DW.fixNB rfl rfl rfl rfl rfl (ne_beq (v := false) hq5 rfl) ?_
                            refine DW.fixNB rfl rfl rfl rfl rfl (ne_beq (v := false) hq5 rfl) ?_
                            refine DW.fixNU rfl rfl rfl rfl rfl ?_
                            refine DW.fixNU rfl rfl rfl rfl rfl ?_
                            refine DW.fixNU rfl rfl rfl rfl rfl ?_
                            refine DW.fixNU rfl rfl rfl rfl rfl ?_
                            refine DW.fixNU rfl rfl rfl rfl rfl ?_
                            refine DW.fixNU rfl rfl rfl rfl rfl ?_
                            refine DW.fixNU rfl rfl rfl rfl rfl ?_
                            refine DW.fixNB rfl rfl rfl rfl rfl (ne_beq (v := false) hq5 rfl) ?_
                            refine DW.fix rfl rfl rfl (fun _ EQ => RV.pickFB rfl hq5 rfl) ?_
                            replace H := H.pick (L' := [.tab Am11 cm11 43 hsm7 3 1 (encM encN m7), .tab Am12 cm12 81 hsm8 4 1 (encM encBl m8), .own Al7 cl7 3 1 (List.map encN l5), .own Al8 cl8 4 1 (List.map encBl l6), .blk b1 24 [.int .i64 a0.layers, .slice A_a0_bounds a0.bounds.length c_a0_bounds], .blk b2 26 [.int .i64 x3.a, .int .i64 x3.b, .int .i64 x3.most]]) [1, 2, 3, 4, 5, 0] (by decide) rfl
                            replace R0 := H.ext
                            refine DW.nil (jK8685 _ _ ⟨_, ?_, ⟨false, F, rfl, H⟩⟩)
                            exact ⟨rfl, rfl, rfl, rfl, (look_slice rfl (by first | rfl | (simp; done) | (simp; omega))), (look_slice rfl (by first | rfl | (simp; done) | (simp; omega))), rfl, rfl, (look_slice rfl (by first | rfl | (simp; done) | (simp; omega))), (look_slice rfl (by first | rfl | (simp; done) | (simp; omega))), rfl, rfl, rfl, rfl, trivial⟩
                    ·
                      replace F := ite_n hp3 F
                      have hq3 := dec_f hp3
                      refine CW.condF rfl hq3 ?_
                      refine CW.exit (jK8657 _ _ ⟨_, ?_, ⟨l5, l6, F, rfl, H⟩⟩)
                      exact ⟨rfl, rfl, rfl, rfl, (look_slice rfl (by first | rfl | (simp; done) | (simp; omega))), (look_slice rfl (by first | rfl | (simp; done) | (simp; omega))), rfl, rfl, (look_slice rfl (by first | rfl | (simp; done) | (simp; omega))), (look_slice rfl (by first | rfl | (simp; done) | (simp; omega))), trivial⟩
                ·
                  intro K21 hK21 jK8686
                  obtain ⟨x12, hbx12, hx12, F⟩ := ix_some F
                  obtain ⟨hg5, F⟩ := gd_some F
                  obtain ⟨x13, hbx13, hx13, F⟩ := ix_some F
                  obtain ⟨hg6, F⟩ := gd_some F
                  have H0 := H
                  have hz : wl6.heap.size ≤ wl6.heap.size := Nat.le_refl _
                  refine CW.draw [5, 11] (XB wl6 [.tab Am11 cm11 43 hsm7 3 1 (encM encN m7), .tab Am12 cm12 81 hsm8 4 1 (encM encBl m8), .blk b1 24 [.int .i64 a0.layers, .slice A_a0_bounds a0.bounds.length c_a0_bounds]] []) (.cons 1 2 (.cons 2 2 (.cons 3 2 (.cons 4 2 (.cons 7 2 (.cons 8 2 (.cons 9 2 (.cons 10 2 (.alt 0 (.alt 5 (.cons 6 0 (.cons 11 0 (.cons 12 2 (.cons 13 2 .nil)))) (.cons 6 0 (.cons 5 0 (.cons 11 0 (.cons 12 2 (.cons 13 2 .nil)))))) (.cons 6 0 (.cons 0 0 (.cons 5 0 (.cons 11 0 (.cons 12 2 (.cons 13 2 .nil))))))))))))))) mixed (by kernel_rfl) fun w14 E6 => ?_
                  replace H := H.grow E6
                  replace R0 := H.ext
                  replace hz := Nat.le_trans hz (Ext.size E6)
                  refine DW.thru rfl rfl rfl (fun _ EQ => RV.move rfl) ?_
                  refine DW.thru rfl rfl rfl (fun _ EQ => RV.move rfl) ?_
                  obtain ⟨B8, e8, hh8⟩ := (H.tab 0 rfl).hd hx12
                  refine DW.thru rfl rfl rfl (fun _ EQ => RV.indexAddr Ts58 rfl rfl hbx12 ((H.tab 0 rfl).addr_ hx12)) ?_
                  refine DW.thru rfl rfl rfl (fun _ EQ => RV.load1 Tk43 rfl ((H.thruT 0 rfl EQ (H0.notX [] 0 rfl (by decide))).cell hx12 hh8) rfl) ?_
                  refine DW.thru rfl rfl rfl (fun _ EQ => RV.move rfl) ?_
                  refine DW.thru rfl rfl rfl (fun _ EQ => RV.move rfl) ?_
                  obtain ⟨B9, e9, hh9⟩ := (H.tab 1 rfl).hd hx13
                  refine DW.thru rfl rfl rfl (fun _ EQ => RV.indexAddr Ts78 rfl rfl hbx13 ((H.tab 1 rfl).addr_ hx13)) ?_
                  refine DW.thru rfl rfl rfl (fun _ EQ => RV.load1 Tk81 rfl ((H.thruT 1 rfl EQ (H0.notX [] 1 rfl (by decide))).cell hx13 hh9) rfl) ?_
                  refine DW.alt ?_ ?_
                  ·
                    refine DW.sole rfl rfl rfl (OW.buildSlice (e := 3) (vs := []) (cs := []) rfl (fun _ => by kernel_rfl) fun b3 w15 N3 => ?_)
                    refine ⟨fun _ => N3.ext, ModX.ext N3.ext, ?_⟩
                    have G0_b3 : wl6.heap.size ≤ b3 := by rw [N3.at_]; exact hz
                    replace H := H.made' (k := 1) (t := 3) (enc := encN) (l := ([] : List Int)) N3 N3.blk (fun _ => rfl) rfl (by first | decide | omega | (simp; done) | (simp; omega))
                    replace R0 := H.ext
                    replace hz := Nat.le_trans hz (Ext.size N3.ext)
                    refine DW.alt ?_ ?_
                    ·
                      refine DW.sole rfl rfl rfl (OW.appendG (enc := encN) (l := ([] : List Int)) (xs := x12) Ts43 (look_slice rfl (by first | rfl | (simp; done) | (simp; omega))) rfl (H.own 0 rfl) ((H.tab 1 rfl).rowO hx12 hh8).sl (fun _ => rfl) rfl rfl hg5 (by decide) fun A3 c3 w16 O6 M6 D1 => ?_)
                      have G0_A3 := Fresh.nextZ (Fresh.at_ G0_b3) D1 hz
                      refine ⟨fun h => absurd h (by decide), M6.modx (XB.newA (Fresh.at_ G0_b3)), ?_⟩
                      replace H : Hp w w16 [.own A3 c3 3 1 (List.map encN ((([] : List Int) ++ x12))), .tab Am11 cm11 43 hsm7 3 1 (encM encN m7), .tab Am12 cm12 81 hsm8 4 1 (encM encBl m8), .blk b1 24 [.int .i64 a0.layers, .slice A_a0_bounds a0.bounds.length c_a0_bounds]] := H.mod 0 rfl M6 O6 D1
                      replace R0 := H.ext
                      replace hz := Nat.le_trans hz M6.size
                      refine DW.sole rfl rfl rfl (OW.buildSlice (e := 4) (vs := []) (cs := []) rfl (fun _ => by kernel_rfl) fun b4 w17 N4 => ?_)
                      refine ⟨fun _ => N4.ext, ModX.ext N4.ext, ?_⟩
                      have G0_b4 : wl6.heap.size ≤ b4 := by rw [N4.at_]; exact hz
                      replace H := H.made' (k := 1) (t := 4) (enc := encBl) (l := ([] : List Bool)) N4 N4.blk (fun _ => rfl) rfl (by first | decide | omega | (simp; done) | (simp; omega))
                      replace R0 := H.ext
                      replace hz := Nat.le_trans hz (Ext.size N4.ext)
                      refine DW.sole rfl rfl rfl (OW.appendG (enc := encBl) (l := ([] : List Bool)) (xs := x13) Ts81 (look_slice rfl (by first | rfl | (simp; done) | (simp; omega))) rfl (H.own 0 rfl) ((H.tab 3 rfl).rowO hx13 hh9).sl (fun _ => rfl) rfl rfl hg6 (by decide) fun A4 c4 w18 O7 M7 D2 => ?_)
                      have G0_A4 := Fresh.nextZ (Fresh.at_ G0_b4) D2 hz
                      refine ⟨fun h => absurd h (by decide), M7.modx (XB.newA (Fresh.at_ G0_b4)), ?_⟩
                      replace H : Hp w w18 [.own A4 c4 4 1 (List.map encBl ((([] : List Bool) ++ x13))), .own A3 c3 3 1 (List.map encN ((([] : List Int) ++ x12))), .tab Am11 cm11 43 hsm7 3 1 (encM encN m7), .tab Am12 cm12 81 hsm8 4 1 (encM encBl m8), .blk b1 24 [.int .i64 a0.layers, .slice A_a0_bounds a0.bounds.length c_a0_bounds]] := H.mod 0 rfl M7 O7 D2
                      replace R0 := H.ext
                      replace hz := Nat.le_trans hz M7.size
                      refine DW.thru rfl rfl rfl (fun _ EQ => RV.assign rfl) ?_
                      refine DW.thru rfl rfl rfl (fun _ EQ => RV.assign rfl) ?_
                      replace H := H.pick (L' := [.tab Am11 cm11 43 hsm7 3 1 (encM encN m7), .tab Am12 cm12 81 hsm8 4 1 (encM encBl m8), .own A3 c3 3 1 (List.map encN ((([] : List Int) ++ x12))), .own A4 c4 4 1 (List.map encBl ((([] : List Bool) ++ x13))), .blk b1 24 [.int .i64 a0.layers, .slice A_a0_bounds a0.bounds.length c_a0_bounds]]) [2, 3, 1, 0, 4] (by decide) rfl
                      replace R0 := H.ext
                      refine DW.nil (jK8686 _ _ ⟨_, ?_, ⟨((([] : List Int) ++ x12)), ((([] : List Bool) ++ x13)), A3, c3, A4, c4, F, rfl, H⟩⟩)
                      exact ⟨rfl, rfl, rfl, rfl, (look_slice rfl (by first | rfl | (simp; done) | (simp; omega))), (look_slice rfl (by first | rfl | (simp; done) | (simp; omega))), rfl, rfl, (look_slice rfl (by first | rfl | (simp; done) | (simp; omega))), (look_slice rfl (by first | rfl | (simp; done) | (simp; omega))), trivial⟩
                    ·
                      refine DW.sole rfl rfl rfl (OW.buildSlice (e := 4) (vs := []) (cs := []) rfl (fun _ => by kernel_rfl) fun b5 w19 N5 => ?_)
                      refine ⟨fun _ => N5.ext, ModX.ext N5.ext, ?_⟩
                      have G0_b5 : wl6.heap.size ≤ b5 := by rw [N5.at_]; exact hz
                      replace H := H.made' (k := 1) (t := 4) (enc := encBl) (l := ([] : List Bool)) N5 N5.blk (fun _ => rfl) rfl (by first | decide | omega | (simp; done) | (simp; omega))
                      replace R0 := H.ext
                      replace hz := Nat.le_trans hz (Ext.size N5.ext)
                      refine DW.sole rfl rfl rfl (OW.appendG (enc := encN) (l := ([] : List Int)) (xs := x12) Ts43 (look_slice rfl (by first | rfl | (simp; done) | (simp; omega))) rfl (H.own 1 rfl) ((H.tab 2 rfl).rowO hx12 hh8).sl (fun _ => rfl) rfl rfl hg5 (by decide) fun A5 c5 w20 O8 M8 D3 => ?_)
                      have G0_A5 := Fresh.nextZ (Fresh.at_ G0_b3) D3 hz
                      refine ⟨fun h => absurd h (by decide), M8.modx (XB.newA (Fresh.at_ G0_b3)), ?_⟩
                      replace H : Hp w w20 [.own (some ⟨b5, 0, none⟩) ((([] : List Bool)).length) 4 1 (List.map encBl (([] : List Bool))), .own A5 c5 3 1 (List.map encN ((([] : List Int) ++ x12))), .tab Am11 cm11 43 hsm7 3 1 (encM encN m7), .tab Am12 cm12 81 hsm8 4 1 (encM encBl m8), .blk b1 24 [.int .i64 a0.layers, .slice A_a0_bounds a0.bounds.length c_a0_bounds]] := H.mod 1 rfl M8 O8 D3
                      replace R0 := H.ext
                      replace hz := Nat.le_trans hz M8.size
                      refine DW.sole rfl rfl rfl (OW.appendG (enc := encBl) (l := ([] : List Bool)) (xs := x13) Ts81 (look_slice rfl (by first | rfl | (simp; done) | (simp; omega))) rfl (H.own 0 rfl) ((H.tab 3 rfl).rowO hx13 hh9).sl (fun _ => rfl) rfl rfl hg6 (by decide) fun A6 c6 w21 O9 M9 D4 => ?_)
                      have G0_A6 := Fresh.nextZ (Fresh.at_ G0_b5) D4 hz
                      refine ⟨fun h => absurd h (by decide), M9.modx (XB.newA (Fresh.at_ G0_b5)), ?_⟩
                      replace H : Hp w w21 [.own A6 c6 4 1 (List.map encBl ((([] : List Bool) ++ x13))), .own A5 c5 3 1 (List.map encN ((([] : List Int) ++ x12))), .tab Am11 cm11 43 hsm7 3 1 (encM encN m7), .tab Am12 cm12 81 hsm8 4 1 (encM encBl m8), .blk b1 24 [.int .i64 a0.layers, .slice A_a0_bounds a0.bounds.length c_a0_bounds]] := H.mod 0 rfl M9 O9 D4
                      replace R0 := H.ext
                      replace hz := Nat.le_trans hz M9.size
                      refine DW.thru rfl rfl rfl (fun _ EQ => RV.assign rfl) ?_
                      refine DW.thru rfl rfl rfl (fun _ EQ => RV.assign rfl) ?_
                      replace H := H.pick (L' := [.tab Am11 cm11 43 hsm7 3 1 (encM encN m7), .tab Am12 cm12 81 hsm8 4 1 (encM encBl m8), .own A5 c5 3 1 (List.map encN ((([] : List Int) ++ x12))), .own A6 c6 4 1 (List.map encBl ((([] : List Bool) ++ x13))), .blk b1 24 [.int .i64 a0.layers, .slice A_a0_bounds a0.bounds.length c_a0_bounds]]) [2, 3, 1, 0, 4] (by decide) rfl
                      replace R0 := H.ext
                      refine DW.nil (jK8686 _ _ ⟨_, ?_, ⟨((([] : List Int) ++ x12)), ((([] : List Bool) ++ x13)), A5, c5, A6, c6, F, rfl, H⟩⟩)
                      exact ⟨rfl, rfl, rfl, rfl, (look_slice rfl (by first | rfl | (simp; done) | (simp; omega))), (look_slice rfl (by first | rfl | (simp; done) | (simp; omega))), rfl, rfl, (look_slice rfl (by first | rfl | (simp; done) | (simp; omega))), (look_slice rfl (by first | rfl | (simp; done) | (simp; omega))), trivial⟩
                  ·
                    refine DW.sole rfl rfl rfl (OW.buildSlice (e := 4) (vs := []) (cs := []) rfl (fun _ => by kernel_rfl) fun b6 w22 N6 => ?_)
                    refine ⟨fun _ => N6.ext, ModX.ext N6.ext, ?_⟩
                    have G0_b6 : wl6.heap.size ≤ b6 := by rw [N6.at_]; exact hz
                    replace H := H.made' (k := 1) (t := 4) (enc := encBl) (l := ([] : List Bool)) N6 N6.blk (fun _ => rfl) rfl (by first | decide | omega | (simp; done) | (simp; omega))
                    replace R0 := H.ext
                    replace hz := Nat.le_trans hz (Ext.size N6.ext)
                    refine DW.sole rfl rfl rfl (OW.buildSlice (e := 3) (vs := []) (cs := []) rfl (fun _ => by kernel_rfl) fun b7 w23 N7 => ?_)
                    refine ⟨fun _ => N7.ext, ModX.ext N7.ext, ?_⟩
                    have G0_b7 : wl6.heap.size ≤ b7 := by rw [N7.at_]; exact hz
                    replace H := H.made' (k := 1) (t := 3) (enc := encN) (l := ([] : List Int)) N7 N7.blk (fun _ => rfl) rfl (by first | decide | omega | (simp; done) | (simp; omega))
                    replace R0 := H.ext
                    replace hz := Nat.le_trans hz (Ext.size N7.ext)
                    refine DW.sole rfl rfl rfl (OW.appendG (enc := encN) (l := ([] : List Int)) (xs := x12) Ts43 (look_slice rfl (by first | rfl | (simp; done) | (simp; omega))) rfl (H.own 0 rfl) ((H.tab 2 rfl).rowO hx12 hh8).sl (fun _ => rfl) rfl rfl hg5 (by decide) fun A7 c7 w24 O10 M10 D5 => ?_)
                    have G0_A7 := Fresh.nextZ (Fresh.at_ G0_b7) D5 hz
                    refine ⟨fun h => absurd h (by decide), M10.modx (XB.newA (Fresh.at_ G0_b7)), ?_⟩
                    replace H : Hp w w24 [.own A7 c7 3 1 (List.map encN ((([] : List Int) ++ x12))), .own (some ⟨b6, 0, none⟩) ((([] : List Bool)).length) 4 1 (List.map encBl (([] : List Bool))), .tab Am11 cm11 43 hsm7 3 1 (encM encN m7), .tab Am12 cm12 81 hsm8 4 1 (encM encBl m8), .blk b1 24 [.int .i64 a0.layers, .slice A_a0_bounds a0.bounds.length c_a0_bounds]] := H.mod 0 rfl M10 O10 D5
                    replace R0 := H.ext
                    replace hz := Nat.le_trans hz M10.size
                    refine DW.sole rfl rfl rfl (OW.appendG (enc := encBl) (l := ([] : List Bool)) (xs := x13) Ts81 (look_slice rfl (by first | rfl | (simp; done) | (simp; omega))) rfl (H.own 1 rfl) ((H.tab 3 rfl).rowO hx13 hh9).sl (fun _ => rfl) rfl rfl hg6 (by decide) fun A8 c8 w25 O11 M11 D6 => ?_)
                    have G0_A8 := Fresh.nextZ (Fresh.at_ G0_b6) D6 hz
                    refine ⟨fun h => absurd h (by decide), M11.modx (XB.newA (Fresh.at_ G0_b6)), ?_⟩
                    replace H : Hp w w25 [.own A7 c7 3 1 (List.map encN ((([] : List Int) ++ x12))), .own A8 c8 4 1 (List.map encBl ((([] : List Bool) ++ x13))), .tab Am11 cm11 43 hsm7 3 1 (encM encN m7), .tab Am12 cm12 81 hsm8 4 1 (encM encBl m8), .blk b1 24 [.int .i64 a0.layers, .slice A_a0_bounds a0.bounds.length c_a0_bounds]] := H.mod 1 rfl M11 O11 D6
                    replace R0 := H.ext
                    replace hz := Nat.le_trans hz M11.size
                    refine DW.thru rfl rfl rfl (fun _ EQ => RV.assign rfl) ?_
                    refine DW.thru rfl rfl rfl (fun _ EQ => RV.assign rfl) ?_
                    replace H := H.pick (L' := [.tab Am11 cm11 43 hsm7 3 1 (encM encN m7), .tab Am12 cm12 81 hsm8 4 1 (encM encBl m8), .own A7 c7 3 1 (List.map encN ((([] : List Int) ++ x12))), .own A8 c8 4 1 (List.map encBl ((([] : List Bool) ++ x13))), .blk b1 24 [.int .i64 a0.layers, .slice A_a0_bounds a0.bounds.length c_a0_bounds]]) [2, 3, 0, 1, 4] (by decide) rfl
                    replace R0 := H.ext
                    refine DW.nil (jK8686 _ _ ⟨_, ?_, ⟨((([] : List Int) ++ x12)), ((([] : List Bool) ++ x13)), A7, c7, A8, c8, F, rfl, H⟩⟩)
                    exact ⟨rfl, rfl, rfl, rfl, (look_slice rfl (by first | rfl | (simp; done) | (simp; omega))), (look_slice rfl (by first | rfl | (simp; done) | (simp; omega))), rfl, rfl, (look_slice rfl (by first | rfl | (simp; done) | (simp; omega))), (look_slice rfl (by first | rfl | (simp; done) | (simp; omega))), trivial⟩
            ·
              replace F := ite_n hp2 F
              have hq2 := dec_f hp2
              refine CW.condF rfl hq2 ?_
              refine CW.exit (jK8327 _ _ ⟨_, ?_, ⟨m7, m8, hsm7, hsm8, F, rfl, H⟩⟩)
              exact ⟨rfl, rfl, rfl, rfl, (look_slice rfl (by first | rfl | (simp; done) | (simp; omega))), (look_slice rfl (by first | rfl | (simp; done) | (simp; omega))), rfl, trivial⟩
          ·
            intro K22 hK22 jK8687
            obtain ⟨hg7, F⟩ := gd_some F
            obtain ⟨hg8, F⟩ := gd_some F
            obtain ⟨x16, hbx16, hx16, F⟩ := ix_some F
            obtain ⟨x17, hbx17, hx17, F⟩ := ix_some F
            have H0 := H
            have hz : wl3.heap.size ≤ wl3.heap.size := Nat.le_refl _
            refine CW.draw [11, 13] (XB wl3 [.tab Am11 cm11 43 hsm9 3 1 (encM encN m9), .tab Am12 cm12 81 hsm10 4 1 (encM encBl m10), .blk b1 24 [.int .i64 a0.layers, .slice A_a0_bounds a0.bounds.length c_a0_bounds]] [0, 1]) (.cons 0 1 (.cons 1 1 (.cons 4 1 (.cons 5 1 (.cons 2 2 (.cons 3 2 (.cons 7 2 (.cons 8 2 (.alt 6 (.cons 10 1 (.alt 9 (.cons 11 0 (.cons 12 2 (.cons 13 0 .nil))) (.cons 11 0 (.cons 9 0 (.cons 12 2 (.cons 13 0 .nil)))))) (.cons 9 0 (.cons 6 0 (.cons 10 1 (.cons 11 0 (.cons 12 2 (.cons 13 0 .nil))))))))))))))) mixed (by kernel_rfl) fun w26 E7 => ?_
            replace H := H.grow E7
            replace R0 := H.ext
            replace hz := Nat.le_trans hz (Ext.size E7)
            refine DW.fix rfl rfl rfl (fun _ EQ => RV.move rfl) ?_
            refine DW.fix rfl rfl rfl (fun _ EQ => RV.move rfl) ?_
            refine DW.fix rfl rfl rfl (fun _ EQ => RV.fieldAddr Tf24_0 rfl) ?_
            refine DW.fix rfl rfl rfl (fun _ EQ => RV.load1 Tk3 rfl (((H.grow EQ).blk 2 rfl).cells.off 0) rfl) ?_
            refine DW.thru rfl rfl rfl (fun _ EQ => RV.move rfl) ?_
            refine DW.thru rfl rfl rfl (fun _ EQ => RV.move rfl) ?_
            refine DW.thru rfl rfl rfl (fun _ EQ => RV.fieldAddr Tf24_0 rfl) ?_
            refine DW.thru rfl rfl rfl (fun _ EQ => RV.load1 Tk3 rfl ((H.thruB 2 rfl EQ (H0.notX [0, 1] 2 rfl (by decide))).cells.off 0) rfl) ?_
            refine DW.alt ?_ ?_
            ·
              refine DW.sole rfl rfl rfl (OW.makeR (enc := encN) (0 : Int) Ts43 rfl rfl rfl rfl rfl hg7 (by decide) fun b8 w27 N8 => ?_)
              refine ⟨fun _ => N8.ext, ModX.ext N8.ext, ?_⟩
              have G0_b8 : wl3.heap.size ≤ b8 := by rw [N8.at_]; exact hz
              replace H := H.made' (k := 1) (t := 3) (enc := encN) (l := (List.replicate (Int.toNat a0.layers) (0 : Int))) N8 N8.blk (fun _ => rfl) rfl (by first | decide | omega | (simp; done) | (simp; omega))
              replace R0 := H.ext
              replace hz := Nat.le_trans hz (Ext.size N8.ext)
              obtain ⟨B10, e10, hh10⟩ := (H.tab 1 rfl).hd hx16
              refine DW.fix rfl rfl rfl (fun _ EQ => RV.indexAddr Ts58 rfl rfl hbx16 ((H.tab 1 rfl).addr_ hx16)) ?_
              refine DW.alt ?_ ?_
              ·
                refine DW.sole rfl rfl rfl (OW.makeR (enc := encBl) (false : Bool) Ts81 rfl rfl rfl rfl rfl hg8 (by decide) fun b9 w28 N9 => ?_)
                refine ⟨fun _ => N9.ext, ModX.ext N9.ext, ?_⟩
                have G0_b9 : wl3.heap.size ≤ b9 := by rw [N9.at_]; exact hz
                replace H := H.made' (k := 1) (t := 4) (enc := encBl) (l := (List.replicate (Int.toNat a0.layers) (false : Bool))) N9 N9.blk (fun _ => rfl) rfl (by first | decide | omega | (simp; done) | (simp; omega))
                replace R0 := H.ext
                replace hz := Nat.le_trans hz (Ext.size N9.ext)
                have hn3 : (((List.replicate (Int.toNat a0.layers) (0 : Int))).length) = ((List.replicate (Int.toNat a0.layers) (0 : Int))).length := by first | rfl | (simp; done) | (simp; omega)
                refine DW.sole rfl rfl rfl (OW.storeO (enc := encH) (vs := [.slice (some ⟨b8, 0, none⟩) (((List.replicate (Int.toNat a0.layers) (0 : Int))).length) (((List.replicate (Int.toNat a0.layers) (0 : Int))).length)]) 0 ((some ⟨b8, 0, none⟩, ((List.replicate (Int.toNat a0.layers) (0 : Int))).length), List.map encN ((List.replicate (Int.toNat a0.layers) (0 : Int)))) Tk43 rfl rfl (H.tab 2 rfl).outer (fun _ => rfl) rfl ((H.tab 2 rfl).zipAt hx16 hh10) rfl rfl (by decide) rfl (by rw [hn3]; simp [encH, over]) fun w29 M12 O12 => ?_)
                refine ⟨fun h => absurd h (by decide), M12.modx (XB.tabO 0 (by decide) rfl), ?_⟩
                replace H : Hp w w29 [.own (some ⟨b9, 0, none⟩) (((List.replicate (Int.toNat a0.layers) (false : Bool))).length) 4 1 (List.map encBl ((List.replicate (Int.toNat a0.layers) (false : Bool)))), .tab Am11 cm11 43 ((hsm9.set (Int.toNat t8_1) (some ⟨b8, 0, none⟩, ((List.replicate (Int.toNat a0.layers) (0 : Int))).length))) 3 1 (encM encN ((m9.set (Int.toNat t8_1) ((List.replicate (Int.toNat a0.layers) (0 : Int)))))), .tab Am12 cm12 81 hsm10 4 1 (encM encBl m10), .blk b1 24 [.int .i64 a0.layers, .slice A_a0_bounds a0.bounds.length c_a0_bounds]] := H.tabSet 2 1 (by decide) rfl rfl (lt_of_at hx16) M12 O12
                replace R0 := H.ext
                replace hz := Nat.le_trans hz M12.size
                obtain ⟨B11, e11, hh11⟩ := (H.tab 2 rfl).hd hx17
                refine DW.thru rfl rfl rfl (fun _ EQ => RV.indexAddr Ts78 rfl rfl hbx17 ((H.tab 2 rfl).addr_ hx17)) ?_
                have hn4 : (((List.replicate (Int.toNat a0.layers) (false : Bool))).length) = ((List.replicate (Int.toNat a0.layers) (false : Bool))).length := by first | rfl | (simp; done) | (simp; omega)
                refine DW.sole rfl rfl rfl (OW.storeO (enc := encH) (vs := [.slice (some ⟨b9, 0, none⟩) (((List.replicate (Int.toNat a0.layers) (false : Bool))).length) (((List.replicate (Int.toNat a0.layers) (false : Bool))).length)]) 0 ((some ⟨b9, 0, none⟩, ((List.replicate (Int.toNat a0.layers) (false : Bool))).length), List.map encBl ((List.replicate (Int.toNat a0.layers) (false : Bool)))) Tk81 rfl rfl (H.tab 2 rfl).outer (fun _ => rfl) rfl ((H.tab 2 rfl).zipAt hx17 hh11) rfl rfl (by decide) rfl (by rw [hn4]; simp [encH, over]) fun w30 M13 O13 => ?_)
                refine ⟨fun h => absurd h (by decide), M13.modx (XB.tabO 1 (by decide) rfl), ?_⟩
                replace H : Hp w w30 [.tab Am11 cm11 43 ((hsm9.set (Int.toNat t8_1) (some ⟨b8, 0, none⟩, ((List.replicate (Int.toNat a0.layers) (0 : Int))).length))) 3 1 (encM encN ((m9.set (Int.toNat t8_1) ((List.replicate (Int.toNat a0.layers) (0 : Int)))))), .tab Am12 cm12 81 ((hsm10.set (Int.toNat t8_1) (some ⟨b9, 0, none⟩, ((List.replicate (Int.toNat a0.layers) (false : Bool))).length))) 4 1 (encM encBl ((m10.set (Int.toNat t8_1) ((List.replicate (Int.toNat a0.layers) (false : Bool)))))), .blk b1 24 [.int .i64 a0.layers, .slice A_a0_bounds a0.bounds.length c_a0_bounds]] := H.tabSet 2 0 (by decide) rfl rfl (lt_of_at hx17) M13 O13
                replace R0 := H.ext
                replace hz := Nat.le_trans hz M13.size
                refine DW.nil (jK8687 _ _ ⟨_, ?_, ⟨((hsm9.set (Int.toNat t8_1) (some ⟨b8, 0, none⟩, ((List.replicate (Int.toNat a0.layers) (0 : Int))).length))), ((hsm10.set (Int.toNat t8_1) (some ⟨b9, 0, none⟩, ((List.replicate (Int.toNat a0.layers) (false : Bool))).length))), F, rfl, H⟩⟩)
                exact ⟨rfl, rfl, rfl, rfl, (look_slice rfl (by first | rfl | (simp; done) | (simp; omega))), (look_slice rfl (by first | rfl | (simp; done) | (simp; omega))), rfl, trivial⟩
              ·
                have hn5 : (((List.replicate (Int.toNat a0.layers) (0 : Int))).length) = ((List.replicate (Int.toNat a0.layers) (0 : Int))).length := by first | rfl | (simp; done) | (simp; omega)
                refine DW.sole rfl rfl rfl (OW.storeO (enc := encH) (vs := [.slice (some ⟨b8, 0, none⟩) (((List.replicate (Int.toNat a0.layers) (0 : Int))).length) (((List.replicate (Int.toNat a0.layers) (0 : Int))).length)]) 0 ((some ⟨b8, 0, none⟩, ((List.replicate (Int.toNat a0.layers) (0 : Int))).length), List.map encN ((List.replicate (Int.toNat a0.layers) (0 : Int)))) Tk43 rfl rfl (H.tab 1 rfl).outer (fun _ => rfl) rfl ((H.tab 1 rfl).zipAt hx16 hh10) rfl rfl (by decide) rfl (by rw [hn5]; simp [encH, over]) fun w31 M14 O14 => ?_)
                refine ⟨fun h => absurd h (by decide), M14.modx (XB.tabO 0 (by decide) rfl), ?_⟩
                replace H : Hp w w31 [.tab Am11 cm11 43 ((hsm9.set (Int.toNat t8_1) (some ⟨b8, 0, none⟩, ((List.replicate (Int.toNat a0.layers) (0 : Int))).length))) 3 1 (encM encN ((m9.set (Int.toNat t8_1) ((List.replicate (Int.toNat a0.layers) (0 : Int)))))), .tab Am12 cm12 81 hsm10 4 1 (encM encBl m10), .blk b1 24 [.int .i64 a0.layers, .slice A_a0_bounds a0.bounds.length c_a0_bounds]] := H.tabSet 1 0 (by decide) rfl rfl (lt_of_at hx16) M14 O14
                replace R0 := H.ext
                replace hz := Nat.le_trans hz M14.size
                refine DW.sole rfl rfl rfl (OW.makeR (enc := encBl) (false : Bool) Ts81 rfl rfl rfl rfl rfl hg8 (by decide) fun b10 w32 N10 => ?_)
                refine ⟨fun _ => N10.ext, ModX.ext N10.ext, ?_⟩
                have G0_b10 : wl3.heap.size ≤ b10 := by rw [N10.at_]; exact hz
                replace H := H.made' (k := 1) (t := 4) (enc := encBl) (l := (List.replicate (Int.toNat a0.layers) (false : Bool))) N10 N10.blk (fun _ => rfl) rfl (by first | decide | omega | (simp; done) | (simp; omega))
                replace R0 := H.ext
                replace hz := Nat.le_trans hz (Ext.size N10.ext)
                obtain ⟨B12, e12, hh12⟩ := (H.tab 2 rfl).hd hx17
                refine DW.thru rfl rfl rfl (fun _ EQ => RV.indexAddr Ts78 rfl rfl hbx17 ((H.tab 2 rfl).addr_ hx17)) ?_
                have hn6 : (((List.replicate (Int.toNat a0.layers) (false : Bool))).length) = ((List.replicate (Int.toNat a0.layers) (false : Bool))).length := by first | rfl | (simp; done) | (simp; omega)
                refine DW.sole rfl rfl rfl (OW.storeO (enc := encH) (vs := [.slice (some ⟨b10, 0, none⟩) (((List.replicate (Int.toNat a0.layers) (false : Bool))).length) (((List.replicate (Int.toNat a0.layers) (false : Bool))).length)]) 0 ((some ⟨b10, 0, none⟩, ((List.replicate (Int.toNat a0.layers) (false : Bool))).length), List.map encBl ((List.replicate (Int.toNat a0.layers) (false : Bool)))) Tk81 rfl rfl (H.tab 2 rfl).outer (fun _ => rfl) rfl ((H.tab 2 rfl).zipAt hx17 hh12) rfl rfl (by decide) rfl (by rw [hn6]; simp [encH, over]) fun w33 M15 O15 => ?_)
                refine ⟨fun h => absurd h (by decide), M15.modx (XB.tabO 1 (by decide) rfl), ?_⟩
                replace H : Hp w w33 [.tab Am11 cm11 43 ((hsm9.set (Int.toNat t8_1) (some ⟨b8, 0, none⟩, ((List.replicate (Int.toNat a0.layers) (0 : Int))).length))) 3 1 (encM encN ((m9.set (Int.toNat t8_1) ((List.replicate (Int.toNat a0.layers) (0 : Int)))))), .tab Am12 cm12 81 ((hsm10.set (Int.toNat t8_1) (some ⟨b10, 0, none⟩, ((List.replicate (Int.toNat a0.layers) (false : Bool))).length))) 4 1 (encM encBl ((m10.set (Int.toNat t8_1) ((List.replicate (Int.toNat a0.layers) (false : Bool)))))), .blk b1 24 [.int .i64 a0.layers, .slice A_a0_bounds a0.bounds.length c_a0_bounds]] := H.tabSet 2 0 (by decide) rfl rfl (lt_of_at hx17) M15 O15
                replace R0 := H.ext
                replace hz := Nat.le_trans hz M15.size
                refine DW.nil (jK8687 _ _ ⟨_, ?_, ⟨((hsm9.set (Int.toNat t8_1) (some ⟨b8, 0, none⟩, ((List.replicate (Int.toNat a0.layers) (0 : Int))).length))), ((hsm10.set (Int.toNat t8_1) (some ⟨b10, 0, none⟩, ((List.replicate (Int.toNat a0.layers) (false : Bool))).length))), F, rfl, H⟩⟩)
                exact ⟨rfl, rfl, rfl, rfl, (look_slice rfl (by first | rfl | (simp; done) | (simp; omega))), (look_slice rfl (by first | rfl | (simp; done) | (simp; omega))), rfl, trivial⟩
            ·
              refine DW.sole rfl rfl rfl (OW.makeR (enc := encBl) (false : Bool) Ts81 rfl rfl rfl rfl rfl hg8 (by decide) fun b11 w34 N11 => ?_)
              refine ⟨fun _ => N11.ext, ModX.ext N11.ext, ?_⟩
              have G0_b11 : wl3.heap.size ≤ b11 := by rw [N11.at_]; exact hz
              replace H := H.made' (k := 1) (t := 4) (enc := encBl) (l := (List.replicate (Int.toNat a0.layers) (false : Bool))) N11 N11.blk (fun _ => rfl) rfl (by first | decide | omega | (simp; done) | (simp; omega))
              replace R0 := H.ext
              replace hz := Nat.le_trans hz (Ext.size N11.ext)
              refine DW.sole rfl rfl rfl (OW.makeR (enc := encN) (0 : Int) Ts43 rfl rfl rfl rfl rfl hg7 (by decide) fun b12 w35 N12 => ?_)
              refine ⟨fun _ => N12.ext, ModX.ext N12.ext, ?_⟩
              have G0_b12 : wl3.heap.size ≤ b12 := by rw [N12.at_]; exact hz
              replace H := H.made' (k := 1) (t := 3) (enc := encN) (l := (List.replicate (Int.toNat a0.layers) (0 : Int))) N12 N12.blk (fun _ => rfl) rfl (by first | decide | omega | (simp; done) | (simp; omega))
              replace R0 := H.ext
              replace hz := Nat.le_trans hz (Ext.size N12.ext)
              obtain ⟨B13, e13, hh13⟩ := (H.tab 2 rfl).hd hx16
              refine DW.fix rfl rfl rfl (fun _ EQ => RV.indexAddr Ts58 rfl rfl hbx16 ((H.tab 2 rfl).addr_ hx16)) ?_
              have hn7 : (((List.replicate (Int.toNat a0.layers) (0 : Int))).length) = ((List.replicate (Int.toNat a0.layers) (0 : Int))).length := by first | rfl | (simp; done) | (simp; omega)
              refine DW.sole rfl rfl rfl (OW.storeO (enc := encH) (vs := [.slice (some ⟨b12, 0, none⟩) (((List.replicate (Int.toNat a0.layers) (0 : Int))).length) (((List.replicate (Int.toNat a0.layers) (0 : Int))).length)]) 0 ((some ⟨b12, 0, none⟩, ((List.replicate (Int.toNat a0.layers) (0 : Int))).length), List.map encN ((List.replicate (Int.toNat a0.layers) (0 : Int)))) Tk43 rfl rfl (H.tab 2 rfl).outer (fun _ => rfl) rfl ((H.tab 2 rfl).zipAt hx16 hh13) rfl rfl (by decide) rfl (by rw [hn7]; simp [encH, over]) fun w36 M16 O16 => ?_)
              refine ⟨fun h => absurd h (by decide), M16.modx (XB.tabO 0 (by decide) rfl), ?_⟩
              replace H : Hp w w36 [.own (some ⟨b11, 0, none⟩) (((List.replicate (Int.toNat a0.layers) (false : Bool))).length) 4 1 (List.map encBl ((List.replicate (Int.toNat a0.layers) (false : Bool)))), .tab Am11 cm11 43 ((hsm9.set (Int.toNat t8_1) (some ⟨b12, 0, none⟩, ((List.replicate (Int.toNat a0.layers) (0 : Int))).length))) 3 1 (encM encN ((m9.set (Int.toNat t8_1) ((List.replicate (Int.toNat a0.layers) (0 : Int)))))), .tab Am12 cm12 81 hsm10 4 1 (encM encBl m10), .blk b1 24 [.int .i64 a0.layers, .slice A_a0_bounds a0.bounds.length c_a0_bounds]] := H.tabSet 2 0 (by decide) rfl rfl (lt_of_at hx16) M16 O16
              replace R0 := H.ext
              replace hz := Nat.le_trans hz M16.size
              obtain ⟨B14, e14, hh14⟩ := (H.tab 2 rfl).hd hx17
              refine DW.thru rfl rfl rfl (fun _ EQ => RV.indexAddr Ts78 rfl rfl hbx17 ((H.tab 2 rfl).addr_ hx17)) ?_
              have hn8 : (((List.replicate (Int.toNat a0.layers) (false : Bool))).length) = ((List.replicate (Int.toNat a0.layers) (false : Bool))).length := by first | rfl | (simp; done) | (simp; omega)
              refine DW.sole rfl rfl rfl (OW.storeO (enc := encH) (vs := [.slice (some ⟨b11, 0, none⟩) (((List.replicate (Int.toNat a0.layers) (false : Bool))).length) (((List.replicate (Int.toNat a0.layers) (false : Bool))).length)]) 0 ((some ⟨b11, 0, none⟩, ((List.replicate (Int.toNat a0.layers) (false : Bool))).length), List.map encBl ((List.replicate (Int.toNat a0.layers) (false : Bool)))) Tk81 rfl rfl (H.tab 2 rfl).outer (fun _ => rfl) rfl ((H.tab 2 rfl).zipAt hx17 hh14) rfl rfl (by decide) rfl (by rw [hn8]; simp [encH, over]) fun w37 M17 O17 => ?_)
              refine ⟨fun h => absurd h (by decide), M17.modx (XB.tabO 1 (by decide) rfl), ?_⟩
              replace H : Hp w w37 [.tab Am11 cm11 43 ((hsm9.set (Int.toNat t8_1) (some ⟨b12, 0, none⟩, ((List.replicate (Int.toNat a0.layers) (0 : Int))).length))) 3 1 (encM encN ((m9.set (Int.toNat t8_1) ((List.replicate (Int.toNat a0.layers) (0 : Int)))))), .tab Am12 cm12 81 ((hsm10.set (Int.toNat t8_1) (some ⟨b11, 0, none⟩, ((List.replicate (Int.toNat a0.layers) (false : Bool))).length))) 4 1 (encM encBl ((m10.set (Int.toNat t8_1) ((List.replicate (Int.toNat a0.layers) (false : Bool)))))), .blk b1 24 [.int .i64 a0.layers, .slice A_a0_bounds a0.bounds.length c_a0_bounds]] := H.tabSet 2 0 (by decide) rfl rfl (lt_of_at hx17) M17 O17
              replace R0 := H.ext
              replace hz := Nat.le_trans hz M17.size
              refine DW.nil (jK8687 _ _ ⟨_, ?_, ⟨((hsm9.set (Int.toNat t8_1) (some ⟨b12, 0, none⟩, ((List.replicate (Int.toNat a0.layers) (0 : Int))).length))), ((hsm10.set (Int.toNat t8_1) (some ⟨b11, 0, none⟩, ((List.replicate (Int.toNat a0.layers) (false : Bool))).length))), F, rfl, H⟩⟩)
              exact ⟨rfl, rfl, rfl, rfl, (look_slice rfl (by first | rfl | (simp; done) | (simp; omega))), (look_slice rfl (by first | rfl | (simp; done) | (simp; omega))), rfl, trivial⟩
      ·
        replace F := ite_n hp1 F
        have hq1 := dec_f hp1
        refine CW.condF rfl hq1 ?_
        replace H := H.pick (L' := [.tab Am11 cm11 43 hsm9 3 1 (encM encN m9), .tab Am12 cm12 81 hsm10 4 1 (encM encBl m10)]) [0, 1] (by decide) rfl
        replace R0 := H.ext
        refine CW.exit (jK6517 _ _ ⟨_, ?_, ⟨m9, m10, hsm9, hsm10, F, rfl, H⟩⟩)
        exact ⟨rfl, rfl, (look_slice rfl (by first | rfl | (simp; done) | (simp; omega))), (look_slice rfl (by first | rfl | (simp; done) | (simp; omega))), trivial⟩
  ·
    intro K23 hK23 jK8688
    obtain ⟨hg9, F⟩ := gd_some F
    obtain ⟨hg10, F⟩ := gd_some F
    refine CW.draw [] (fun _ => True) (.cons 0 1 (.cons 1 1 (.cons 3 1 (.cons 4 1 (.alt 2 (.cons 6 1 (.cons 5 0 (.cons 7 1 .nil))) (.cons 5 0 (.cons 2 0 (.cons 6 1 (.cons 7 1 .nil))))))))) mixed (by kernel_rfl) fun w38 E8 => ?_
    replace H := H.grow E8
    replace R0 := H.ext
    refine DW.fix rfl rfl rfl (fun _ EQ => RV.fieldAddr Tf24_0 rfl) ?_
    refine DW.fix rfl rfl rfl (fun _ EQ => RV.load1 Tk3 rfl (((H.grow EQ).blk 0 rfl).cells.off 0) rfl) ?_
    refine DW.fix rfl rfl rfl (fun _ EQ => RV.fieldAddr Tf24_0 rfl) ?_
    refine DW.fix rfl rfl rfl (fun _ EQ => RV.load1 Tk3 rfl (((H.grow EQ).blk 0 rfl).cells.off 0) rfl) ?_
    refine DW.alt ?_ ?_
    ·
      refine DW.sole rfl rfl rfl (OW.makeR (enc := (fun (_ : Unit) => [Value.slice none 0 0])) (() : Unit) Ts58 rfl rfl rfl rfl rfl hg9 (by decide) fun b13 w39 N13 => ?_)
      refine ⟨fun _ => N13.ext, ModX.ext N13.ext, ?_⟩
      replace H := H.made' (k := 1) (t := 43) (enc := (fun (_ : Unit) => [Value.slice none 0 0])) (l := (List.replicate (Int.toNat a0.layers) (() : Unit))) N13 N13.blk (fun _ => rfl) rfl (by first | decide | omega | (simp; done) | (simp; omega))
      replace R0 := H.ext
      replace H : Hp w w39 [.tab (some ⟨b13, 0, none⟩) (((List.replicate (Int.toNat a0.layers) (() : Unit))).length) 43 (List.replicate (Int.toNat a0.layers) (none, 0)) 3 1 (encM encN ((List.replicate (Int.toNat a0.layers) ([] : List Int)))), .blk b1 24 [.int .i64 a0.layers, .slice A_a0_bounds a0.bounds.length c_a0_bounds]] := H.asTab encN 0 3 1 rfl
      replace R0 := H.ext
      refine DW.fix rfl rfl rfl (fun _ EQ => RV.assign rfl) ?_
      refine DW.sole rfl rfl rfl (OW.makeR (enc := (fun (_ : Unit) => [Value.slice none 0 0])) (() : Unit) Ts78 rfl rfl rfl rfl rfl hg10 (by decide) fun b14 w40 N14 => ?_)
      refine ⟨fun _ => N14.ext, ModX.ext N14.ext, ?_⟩
      replace H := H.made' (k := 1) (t := 81) (enc := (fun (_ : Unit) => [Value.slice none 0 0])) (l := (List.replicate (Int.toNat a0.layers) (() : Unit))) N14 N14.blk (fun _ => rfl) rfl (by first | decide | omega | (simp; done) | (simp; omega))
      replace R0 := H.ext
      replace H : Hp w w40 [.tab (some ⟨b14, 0, none⟩) (((List.replicate (Int.toNat a0.layers) (() : Unit))).length) 81 (List.replicate (Int.toNat a0.layers) (none, 0)) 4 1 (encM encBl ((List.replicate (Int.toNat a0.layers) ([] : List Bool)))), .tab (some ⟨b13, 0, none⟩) (((List.replicate (Int.toNat a0.layers) (() : Unit))).length) 43 (List.replicate (Int.toNat a0.layers) (none, 0)) 3 1 (encM encN ((List.replicate (Int.toNat a0.layers) ([] : List Int)))), .blk b1 24 [.int .i64 a0.layers, .slice A_a0_bounds a0.bounds.length c_a0_bounds]] := H.asTab encBl 0 4 1 rfl
      replace R0 := H.ext
      refine DW.fix rfl rfl rfl (fun _ EQ => RV.assign rfl) ?_
      replace H := H.pick (L' := [.tab (some ⟨b13, 0, none⟩) (((List.replicate (Int.toNat a0.layers) (() : Unit))).length) 43 (List.replicate (Int.toNat a0.layers) (none, 0)) 3 1 (encM encN ((List.replicate (Int.toNat a0.layers) ([] : List Int)))), .tab (some ⟨b14, 0, none⟩) (((List.replicate (Int.toNat a0.layers) (() : Unit))).length) 81 (List.replicate (Int.toNat a0.layers) (none, 0)) 4 1 (encM encBl ((List.replicate (Int.toNat a0.layers) ([] : List Bool)))), .blk b1 24 [.int .i64 a0.layers, .slice A_a0_bounds a0.bounds.length c_a0_bounds]]) [1, 0, 2] (by decide) rfl
      replace R0 := H.ext
      refine DW.nil (jK8688 _ _ ⟨_, ?_, ⟨((List.replicate (Int.toNat a0.layers) ([] : List Int))), ((List.replicate (Int.toNat a0.layers) ([] : List Bool))), (List.replicate (Int.toNat a0.layers) (none, 0)), (some ⟨b13, 0, none⟩), (((List.replicate (Int.toNat a0.layers) (() : Unit))).length), (List.replicate (Int.toNat a0.layers) (none, 0)), (some ⟨b14, 0, none⟩), (((List.replicate (Int.toNat a0.layers) (() : Unit))).length), F, rfl, H⟩⟩)
      exact ⟨rfl, rfl, rfl, rfl, (look_slice rfl (by first | rfl | (simp; done) | (simp; omega))), (look_slice rfl (by first | rfl | (simp; done) | (simp; omega))), trivial⟩
    ·
      refine DW.sole rfl rfl rfl (OW.makeR (enc := (fun (_ : Unit) => [Value.slice none 0 0])) (() : Unit) Ts78 rfl rfl rfl rfl rfl hg10 (by decide) fun b15 w41 N15 => ?_)
      refine ⟨fun _ => N15.ext, ModX.ext N15.ext, ?_⟩
      replace H := H.made' (k := 1) (t := 81) (enc := (fun (_ : Unit) => [Value.slice none 0 0])) (l := (List.replicate (Int.toNat a0.layers) (() : Unit))) N15 N15.blk (fun _ => rfl) rfl (by first | decide | omega | (simp; done) | (simp; omega))
      replace R0 := H.ext
      replace H : Hp w w41 [.tab (some ⟨b15, 0, none⟩) (((List.replicate (Int.toNat a0.layers) (() : Unit))).length) 81 (List.replicate (Int.toNat a0.layers) (none, 0)) 4 1 (encM encBl ((List.replicate (Int.toNat a0.layers) ([] : List Bool)))), .blk b1 24 [.int .i64 a0.layers, .slice A_a0_bounds a0.bounds.length c_a0_bounds]] := H.asTab encBl 0 4 1 rfl
      replace R0 := H.ext
      refine DW.sole rfl rfl rfl (OW.makeR (enc := (fun (_ : Unit) => [Value.slice none 0 0])) (() : Unit) Ts58 rfl rfl rfl rfl rfl hg9 (by decide) fun b16 w42 N16 => ?_)
      refine ⟨fun _ => N16.ext, ModX.ext N16.ext, ?_⟩
      replace H := H.made' (k := 1) (t := 43) (enc := (fun (_ : Unit) => [Value.slice none 0 0])) (l := (List.replicate (Int.toNat a0.layers) (() : Unit))) N16 N16.blk (fun _ => rfl) rfl (by first | decide | omega | (simp; done) | (simp; omega))
      replace R0 := H.ext
      replace H : Hp w w42 [.tab (some ⟨b16, 0, none⟩) (((List.replicate (Int.toNat a0.layers) (() : Unit))).length) 43 (List.replicate (Int.toNat a0.layers) (none, 0)) 3 1 (encM encN ((List.replicate (Int.toNat a0.layers) ([] : List Int)))), .tab (some ⟨b15, 0, none⟩) (((List.replicate (Int.toNat a0.layers) (() : Unit))).length) 81 (List.replicate (Int.toNat a0.layers) (none, 0)) 4 1 (encM encBl ((List.replicate (Int.toNat a0.layers) ([] : List Bool)))), .blk b1 24 [.int .i64 a0.layers, .slice A_a0_bounds a0.bounds.length c_a0_bounds]] := H.asTab encN 0 3 1 rfl
      replace R0 := H.ext
      refine DW.fix rfl rfl rfl (fun _ EQ => RV.assign rfl) ?_
      refine DW.fix rfl rfl rfl (fun _ EQ => RV.assign rfl) ?_
      refine DW.nil (jK8688 _ _ ⟨_, ?_, ⟨((List.replicate (Int.toNat a0.layers) ([] : List Int))), ((List.replicate (Int.toNat a0.layers) ([] : List Bool))), (List.replicate (Int.toNat a0.layers) (none, 0)), (some ⟨b16, 0, none⟩), (((List.replicate (Int.toNat a0.layers) (() : Unit))).length), (List.replicate (Int.toNat a0.layers) (none, 0)), (some ⟨b15, 0, none⟩), (((List.replicate (Int.toNat a0.layers) (() : Unit))).length), F, rfl, H⟩⟩)
      exact ⟨rfl, rfl, rfl, rfl, (look_slice rfl (by first | rfl | (simp; done) | (simp; omega))), (look_slice rfl (by first | rfl | (simp; done) | (simp; omega))), trivial⟩
end Go.D3

set_option linter.unusedVariables false
namespace Go.D3
open Go.Tb Go.Core
def ref03_clashes_k1 : Option Bool :=
  some false
def ref03_clashes_B1 (a0 : Core) (r1 : (List (List Int)) × (List (List Bool))) (rec1 : Int → Option Bool) (t5_1 : Int) : Option Bool :=
  if t5_1 < a0.layers then
    ix r1.1 t5_1 fun x1 =>
    ix x1 t5_1 fun x2 =>
    if x2 < 0 then
      some true
    else
      gd (InR (t5_1 + 1)) <|
      rec1 ((t5_1 + 1))
  else
    ref03_clashes_k1
def ref03_clashes_L1 (a0 : Core) (r1 : (List (List Int)) × (List (List Bool))) : Nat → Int → Option Bool
  | 0, _ => none
  | n_ + 1, t5_1 => ref03_clashes_B1 a0 r1 (ref03_clashes_L1 a0 r1 n_) t5_1
theorem ref03_clashes_L1_s {a0 : Core} {r1 : (List (List Int)) × (List (List Bool))} {m_ : Nat} {t5_1 : Int} {res : Bool} (h : ref03_clashes_L1 a0 r1 m_ t5_1 = some res) : ∃ k, m_ = k + 1 ∧ ref03_clashes_B1 a0 r1 (ref03_clashes_L1 a0 r1 k) t5_1 = some res := by
  cases m_ with
  | zero => cases h
  | succ k => exact ⟨k, rfl, h⟩
def ref03_clashes (a0 : Core) : Option Bool :=
  bnd (ref03_walks a0 a0.layers) fun r1 =>
  ref03_clashes_L1 a0 r1 FU (((0 : Int)))
end Go.D3

set_option linter.unusedVariables false
set_option linter.unusedSimpArgs false
namespace Go.D3
open Go.Tb Go.Proofs Go.RowKit Go.Core
theorem Tc37 : callable Try.prog 37 = true := by kernel_rfl
theorem Tc65 : callable Try.prog 65 = true := by kernel_rfl
theorem Tc69 : callable Try.prog 69 = true := by kernel_rfl
set_option maxRecDepth 20000 in
set_option maxHeartbeats 1000000 in
theorem ref03_clashes_ok {a0 : Core} {A_a0_bounds : Option Addr} {c_a0_bounds : Nat} {w : World} {res : Bool} (h_a0_bounds : Sl w A_a0_bounds c_a0_bounds 3 (a0.bounds.map encBound)) (F : ref03_clashes a0 = some res) : Calls Try.prog 69 #[.agg #[.int .i64 a0.layers, .slice A_a0_bounds a0.bounds.length c_a0_bounds]] w (Rt w (.bool res)) := by
  refine calls_of_cw (args := [.agg #[.int .i64 a0.layers, .slice A_a0_bounds a0.bounds.length c_a0_bounds]]) Try.func69 rfl rfl rfl rfl ?_
  have H := Hp.start w
  have R0 := H.ext
  unfold ref03_clashes at F
  refine CW.seq fun K1 hK1 => ?_
  refine CW.region ?_
  refine LW.go rfl rfl (OW.box rfl fun b1 w1 N1 => ?_)
  replace H := H.new N1 N1.blk
  replace R0 := H.ext
  refine LW.pure rfl rfl (RV.assign rfl) ?_
  refine LW.nil (hK1 _ _ ?_)
  refine CW.seq fun K2 hK2 => ?_
  obtain ⟨r1, hr1, F⟩ := bnd_some F
  refine CW.region ?_
  refine LW.pure rfl rfl (RV.loadA [.int .i64 a0.layers, .slice A_a0_bounds a0.bounds.length c_a0_bounds] Tk24 rfl (H.blk 0 rfl).cells rfl rfl) ?_
  refine LW.pure rfl rfl (RV.fieldAddr Tf24_0 rfl) ?_
  refine LW.pure rfl rfl (RV.load1 Tk3 rfl ((H.blk 0 rfl).cells.off 0) rfl) ?_
  refine LW.go rfl rfl (OW.call Tc65 rfl (ref03_walks_ok (a0 := a0) (a1 := a0.layers) (h_a0_bounds.ext R0) hr1) ?_)
  rintro _ w2 ⟨A3_0, c3_0, hs3_0, A3_1, c3_1, hs3_1, rfl, E1⟩
  refine ⟨_, rfl, ?_⟩
  replace H : Hp w w2 [.tab A3_0 c3_0 43 hs3_0 3 1 (encM encN r1.1), .tab A3_1 c3_1 81 hs3_1 4 1 (encM encBl r1.2), .blk b1 24 [.int .i64 a0.layers, .slice A_a0_bounds a0.bounds.length c_a0_bounds]] := H.append E1
  replace R0 := H.ext
  refine LW.pure rfl rfl (RV.move rfl) ?_
  refine LW.pure rfl rfl (RV.extract rfl rfl) ?_
  refine LW.pure rfl rfl (RV.extract rfl rfl) ?_
  refine LW.pure rfl rfl (RV.assign rfl) ?_
  refine LW.pure rfl rfl (RV.assign rfl) ?_
  refine LW.nil (hK2 _ _ ?_)
  refine CW.seqJ (fun ρ wl1 => (ref03_clashes_k1 = some res ∧ ρ = [(2, .bool false)] ∧ Hp w wl1 [])) ?_ ?_
  ·
    rintro _ wl1 ⟨F, rfl, H⟩
    have R0 := H.ext
    unfold ref03_clashes_k1 at F
    refine CW.seq fun K3 hK3 => ?_
    refine CW.region ?_
    refine LW.pure rfl rfl (RV.assign rfl) ?_
    refine LW.nil (hK3 _ _ ?_)
    refine CW.ret ?_
    obtain rfl := Option.some.inj F
    refine ⟨_, (ResOK.one rfl), ?_⟩
    refine ⟨(by first | rfl | simp), R0⟩
  ·
    intro K4 hK4 jK56
    refine CW.seq fun K5 hK5 => ?_
    refine CW.region ?_
    refine LW.pure rfl rfl (RV.assign rfl) ?_
    refine LW.nil (hK5 _ _ ?_)
    refine CW.block ?_
    replace H := H.pick (L' := [.tab A3_0 c3_0 43 hs3_0 3 1 (encM encN r1.1), .blk b1 24 [.int .i64 a0.layers, .slice A_a0_bounds a0.bounds.length c_a0_bounds]]) [0, 2] (by decide) rfl
    replace R0 := H.ext
    refine CW.loop (fun meas ρ wl2 => ∃ (t5_1 : Int), ref03_clashes_L1 a0 r1 meas t5_1 = some res ∧ ρ = [(1, .pointer (some (⟨b1, 0, none⟩))), (2, .bool false), (3, .slice A3_0 r1.1.length c3_0), (5, .int .i64 t5_1)] ∧ Hp w wl2 [.tab A3_0 c3_0 43 hs3_0 3 1 (encM encN r1.1), .blk b1 24 [.int .i64 a0.layers, .slice A_a0_bounds a0.bounds.length c_a0_bounds]]) FU ⟨_, ?_, ((0 : Int)), F, rfl, H⟩ ?_
    · exact ⟨rfl, rfl, (look_slice rfl (by first | rfl | (simp; done) | (simp; omega))), rfl, trivial⟩
    rintro mk1 _ wl2 ⟨t5_1, F, rfl, H⟩
    have R0 := H.ext
    replace F := ref03_clashes_L1_s F
    obtain ⟨mk1, rfl, F⟩ := F
    generalize hrec1 : ref03_clashes_L1 a0 r1 mk1 = rec1 at F
    unfold ref03_clashes_B1 at F
    refine CW.seq fun K6 hK6 => ?_
    refine CW.seq fun K7 hK7 => ?_
    refine CW.region ?_
    refine LW.pure rfl rfl (RV.move rfl) ?_
    refine LW.pure rfl rfl (RV.fieldAddr Tf24_0 rfl) ?_
    refine LW.pure rfl rfl (RV.load1 Tk3 rfl ((H.blk 1 rfl).cells.off 0) rfl) ?_
    refine LW.pure rfl rfl (RV.lss rfl rfl) ?_
    refine LW.nil (hK7 _ _ ?_)
    by_cases hp1 : t5_1 < a0.layers
    ·
      replace F := ite_y hp1 F
      have hq1 := dec_t hp1
      refine CW.condT rfl hq1 ?_
      refine CW.skip (hK6 _ _ ?_)
      refine CW.seq fun K8 hK8 => ?_
      refine CW.block ?_
      refine CW.seq fun K9 hK9 => ?_
      obtain ⟨x1, hbx1, hx1, F⟩ := ix_some F
      obtain ⟨x2, hbx2, hx2, F⟩ := ix_some F
      refine CW.region ?_
      refine LW.pure rfl rfl (RV.move rfl) ?_
      refine LW.pure rfl rfl (RV.move rfl) ?_
      obtain ⟨B1, e1, hh1⟩ := (H.tab 0 rfl).hd hx1
      refine LW.pure rfl rfl (RV.indexAddr Ts58 rfl rfl hbx1 ((H.tab 0 rfl).addr_ hx1)) ?_
      refine LW.pure rfl rfl (RV.load1 Tk43 rfl ((H.tab 0 rfl).cell hx1 hh1) rfl) ?_
      refine LW.pure rfl rfl (RV.move rfl) ?_
      refine LW.pure rfl rfl (RV.indexAddr Ts43 rfl rfl hbx2 (((H.tab 0 rfl).rowO hx1 hh1).sl.addr_ hx2)) ?_
      refine LW.pure rfl rfl (RV.load1 Tk3 rfl (((H.tab 0 rfl).rowO hx1 hh1).sl.at_ hx2) rfl) ?_
      refine LW.pure rfl rfl (RV.lss rfl rfl) ?_
      refine LW.nil (hK9 _ _ ?_)
      by_cases hp2 : x2 < 0
      ·
        replace F := ite_y hp2 F
        have hq2 := dec_t hp2
        refine CW.condT rfl hq2 ?_
        refine CW.seq fun K10 hK10 => ?_
        refine CW.region ?_
        refine LW.pure rfl rfl (RV.assign rfl) ?_
        refine LW.nil (hK10 _ _ ?_)
        refine CW.ret ?_
        obtain rfl := Option.some.inj F
        refine ⟨_, (ResOK.one rfl), ?_⟩
        refine ⟨(by first | rfl | simp), R0⟩
      ·
        replace F := ite_n hp2 F
        have hq2 := dec_f hp2
        refine CW.condF rfl hq2 ?_
        refine CW.skip (hK8 _ _ ?_)
        obtain ⟨hg1, F⟩ := gd_some F
        refine CW.region ?_
        refine LW.pure rfl rfl (RV.move rfl) ?_
        refine LW.pure rfl rfl (RV.add rfl rfl hg1) ?_
        refine LW.pure rfl rfl (RV.assign rfl) ?_
        refine LW.nil ?_
        subst hrec1
        refine ⟨mk1, Nat.lt_succ_self _, _, ?_, (t5_1 + 1), F, rfl, H⟩
        exact ⟨rfl, rfl, (look_slice rfl (by first | rfl | (simp; done) | (simp; omega))), rfl, trivial⟩
    ·
      replace F := ite_n hp1 F
      have hq1 := dec_f hp1
      refine CW.condF rfl hq1 ?_
      replace H := H.pick (L' := []) [] (by decide) rfl
      replace R0 := H.ext
      refine CW.exit (jK56 _ _ ⟨_, ?_, ⟨F, rfl, H⟩⟩)
      exact ⟨rfl, trivial⟩
end Go.D3

set_option linter.unusedVariables false
set_option linter.unusedSimpArgs false
namespace Go.D3
open Go.Tb Go.Proofs Go.RowKit Go.Core
theorem Tc17 : callable Try.prog 17 = true := by kernel_rfl
theorem Tc18 : callable Try.prog 18 = true := by kernel_rfl
end Go.D3

set_option linter.unusedVariables false
namespace Go.D3
open Go.Tb Go.Core
def ref03_Copy (a0 : Core) : Option Core :=
  gd ((([] : List Bound)).length + a0.bounds.length ≤ 1000000) <|
  some ((⟨a0.layers, (([] : List Bound) ++ a0.bounds)⟩ : Core))
def ref03_SameBounds_k1 : Option Bool :=
  some true
def ref03_SameBounds_B1 (a0 : List Bound) (a1 : List Bound) (rec1 : Int → Option Bool) (t5_1 : Int) : Option Bool :=
  if t5_1 < ((a0.length : Int)) then
    ix a0 t5_1 fun x1 =>
    ix a1 t5_1 fun x2 =>
    if ((x1.a == x2.a) && (x1.b == x2.b) && (x1.most == x2.most)) = true then
      gd (InR (t5_1 + 1)) <|
      rec1 ((t5_1 + 1))
    else
      some false
  else
    ref03_SameBounds_k1
def ref03_SameBounds_L1 (a0 : List Bound) (a1 : List Bound) : Nat → Int → Option Bool
  | 0, _ => none
  | n_ + 1, t5_1 => ref03_SameBounds_B1 a0 a1 (ref03_SameBounds_L1 a0 a1 n_) t5_1
theorem ref03_SameBounds_L1_s {a0 : List Bound} {a1 : List Bound} {m_ : Nat} {t5_1 : Int} {res : Bool} (h : ref03_SameBounds_L1 a0 a1 m_ t5_1 = some res) : ∃ k, m_ = k + 1 ∧ ref03_SameBounds_B1 a0 a1 (ref03_SameBounds_L1 a0 a1 k) t5_1 = some res := by
  cases m_ with
  | zero => cases h
  | succ k => exact ⟨k, rfl, h⟩
def ref03_SameBounds (a0 : List Bound) (a1 : List Bound) : Option Bool :=
  if ((a0.length : Int)) = ((a1.length : Int)) then
    ref03_SameBounds_L1 a0 a1 FU (((0 : Int)))
  else
    some false
def ref03_Equal (a0 : Core) (a1 : Core) : Option Bool :=
  if a0.layers = a1.layers then
    bnd (ref03_SameBounds a0.bounds a1.bounds) fun r1 =>
    some r1
  else
    some false
end Go.D3

set_option linter.unusedVariables false
set_option linter.unusedSimpArgs false
namespace Go.D3
open Go.Tb Go.Proofs Go.RowKit Go.Core
theorem Tc32 : callable Try.prog 32 = true := by kernel_rfl
theorem Tc52 : callable Try.prog 52 = true := by kernel_rfl
theorem Tc55 : callable Try.prog 55 = true := by kernel_rfl
theorem Te26g : Try.prog.eqGuardType Try.prog.depth 26 = false := by kernel_rfl
theorem Te26 (a0 : Int) (a1 : Int) (a2 : Int) (b0 : Int) (b1 : Int) (b2 : Int) (w : World) : (Op.equalIn 10000 26 (.agg #[.int .i64 a0, .int .i64 a1, .int .i64 a2]) (.agg #[.int .i64 b0, .int .i64 b1, .int .i64 b2])).run Try.prog w = .ok ((a0 == b0) && (a1 == b1) && (a2 == b2)) w := by
  rw [run_equalIn_agg w 9999 26 _ _ (by kernel_rfl) (by kernel_rfl)]
  simp [Program.fieldsOf, Try.underlying26, Op.eqFields, go_sem]
  by_cases h0 : a0 = b0 <;> by_cases h1 : a1 = b1 <;> by_cases h2 : a2 = b2 <;> simp [h0, h1, h2]
set_option maxRecDepth 20000 in
set_option maxHeartbeats 1000000 in
theorem ref03_Copy_ok {a0 : Core} {A_a0_bounds : Option Addr} {c_a0_bounds : Nat} {w : World} {res : Core} (h_a0_bounds : Sl w A_a0_bounds c_a0_bounds 3 (a0.bounds.map encBound)) (F : ref03_Copy a0 = some res) : Calls Try.prog 55 #[.agg #[.int .i64 a0.layers, .slice A_a0_bounds a0.bounds.length c_a0_bounds]] w (fun e w' => ∃ (A0_bounds : Option Addr) (c0_bounds : Nat), e = .returned (.agg #[.int .i64 res.layers, .slice A0_bounds res.bounds.length c0_bounds]) ∧ Hp w w' [.own A0_bounds c0_bounds 26 3 (List.map encBound res.bounds)]) := by
  refine calls_of_cw (args := [.agg #[.int .i64 a0.layers, .slice A_a0_bounds a0.bounds.length c_a0_bounds]]) Try.func55 rfl rfl rfl rfl ?_
  have H := Hp.start w
  have R0 := H.ext
  unfold ref03_Copy at F
  refine CW.seq fun K1 hK1 => ?_
  refine CW.region ?_
  refine LW.go rfl rfl (OW.box rfl fun b1 w1 N1 => ?_)
  replace H := H.new N1 N1.blk
  replace R0 := H.ext
  refine LW.go rfl rfl (OW.alloc Tz24 fun b2 w2 N2 => ?_)
  replace H := H.new N2 N2.blk
  replace R0 := H.ext
  refine LW.nil (hK1 _ _ ?_)
  refine CW.seq fun K2 hK2 => ?_
  obtain ⟨hg1, F⟩ := gd_some F
  have H0 := H
  have hz : w2.heap.size ≤ w2.heap.size := Nat.le_refl _
  refine CW.draw [5, 7] (XB w2 [.blk b2 24 [.int .i64 0, .slice none 0 0], .blk b1 24 [.int .i64 a0.layers, .slice A_a0_bounds a0.bounds.length c_a0_bounds]] [0]) (.cons 0 2 (.cons 1 2 (.cons 3 2 (.cons 4 1 (.cons 2 0 (.cons 5 0 (.cons 6 2 (.cons 7 0 .nil)))))))) mixed (by kernel_rfl) fun w3 E1 => ?_
  replace H := H.grow E1
  replace R0 := H.ext
  replace hz := Nat.le_trans hz (Ext.size E1)
  refine DW.thru rfl rfl rfl (fun _ EQ => RV.fieldAddr Tf24_0 rfl) ?_
  refine DW.thru rfl rfl rfl (fun _ EQ => RV.load1 Tk3 rfl ((H.thruB 1 rfl EQ (H0.notX [0] 1 rfl (by decide))).cells.off 0) rfl) ?_
  refine DW.thru rfl rfl rfl (fun _ EQ => RV.fieldAddr Tf24_1 rfl) ?_
  refine DW.fix rfl rfl rfl (fun _ EQ => RV.load1 Tk22 rfl (((H.grow EQ).blk 1 rfl).cells.off 1) rfl) ?_
  refine DW.sole rfl rfl rfl (OW.buildSlice (e := 26) (vs := []) (cs := []) rfl (fun _ => by kernel_rfl) fun b3 w4 N3 => ?_)
  refine ⟨fun _ => N3.ext, ModX.ext N3.ext, ?_⟩
  have G0_b3 : w2.heap.size ≤ b3 := by rw [N3.at_]; exact hz
  replace H := H.made' (k := 3) (t := 26) (enc := encBound) (l := ([] : List Bound)) N3 N3.blk (fun _ => rfl) rfl (by first | decide | omega | (simp; done) | (simp; omega))
  replace R0 := H.ext
  replace hz := Nat.le_trans hz (Ext.size N3.ext)
  refine DW.sole rfl rfl rfl (OW.appendG (enc := encBound) (l := ([] : List Bound)) (xs := a0.bounds) Ts22 (look_slice rfl (by first | rfl | (simp; done) | (simp; omega))) rfl (H.own 0 rfl) (h_a0_bounds.ext R0) (fun _ => rfl) rfl rfl hg1 (by decide) fun A1 c1 w5 O1 M1 D1 => ?_)
  have G0_A1 := Fresh.nextZ (Fresh.at_ G0_b3) D1 hz
  refine ⟨fun h => absurd h (by decide), M1.modx (XB.newA (Fresh.at_ G0_b3)), ?_⟩
  replace H : Hp w w5 [.own A1 c1 26 3 (List.map encBound ((([] : List Bound) ++ a0.bounds))), .blk b2 24 [.int .i64 0, .slice none 0 0], .blk b1 24 [.int .i64 a0.layers, .slice A_a0_bounds a0.bounds.length c_a0_bounds]] := H.mod 0 rfl M1 O1 D1
  replace R0 := H.ext
  replace hz := Nat.le_trans hz M1.size
  refine DW.thru rfl rfl rfl (fun _ EQ => RV.build (vs := [.int .i64 a0.layers, .slice A1 (((([] : List Bound) ++ a0.bounds)).length) c1]) (cs := [.int .i64 a0.layers, .slice A1 (((([] : List Bound) ++ a0.bounds)).length) c1]) rfl (fun _ => by kernel_rfl)) ?_
  refine DW.sole rfl rfl rfl (OW.store Tk24 rfl rfl (H.blk 1 rfl) (off := 0) (vs := [.int .i64 a0.layers, .slice A1 (((([] : List Bound) ++ a0.bounds)).length) c1]) rfl rfl rfl rfl rfl fun w6 S1 => ?_)
  refine ⟨fun h => absurd h (by decide), S1.modx (XB.in_ 0 (by decide) rfl (List.mem_singleton.2 rfl)), ?_⟩
  replace H : Hp w w6 [.own A1 c1 26 3 (List.map encBound ((([] : List Bound) ++ a0.bounds))), .blk b2 24 [.int .i64 a0.layers, .slice A1 (((([] : List Bound) ++ a0.bounds)).length) c1], .blk b1 24 [.int .i64 a0.layers, .slice A_a0_bounds a0.bounds.length c_a0_bounds]] := H.stored 1 rfl S1
  replace R0 := H.ext
  replace hz := Nat.le_trans hz (Nat.le_of_eq S1.size.symm)
  refine DW.nil (hK2 _ _ ?_)
  refine CW.ret ?_
  obtain rfl := Option.some.inj F
  refine ⟨_, (ResOK.cell1 ⟨_, rfl, run_loadVar_agg Tk24 (H.blk 1 rfl).cells (us := [.int .i64 a0.layers, .slice A1 (((([] : List Bound) ++ a0.bounds)).length) c1]) rfl rfl⟩), ?_⟩
  replace H := H.pick (L' := [.own A1 c1 26 3 (List.map encBound ((([] : List Bound) ++ a0.bounds)))]) [0] (by decide) rfl
  replace R0 := H.ext
  exact ⟨A1, c1, (by first | rfl | (simp; done) | (simp; omega)), H⟩
set_option maxRecDepth 20000 in
set_option maxHeartbeats 1000000 in
theorem ref03_SameBounds_ok {a0 : List Bound} {a1 : List Bound} {A_a0 : Option Addr} {c_a0 : Nat} {A_a1 : Option Addr} {c_a1 : Nat} {w : World} {res : Bool} (h_a0 : Sl w A_a0 c_a0 3 (a0.map encBound)) (h_a1 : Sl w A_a1 c_a1 3 (a1.map encBound)) (F : ref03_SameBounds a0 a1 = some res) : Calls Try.prog 52 #[.slice A_a0 a0.length c_a0, .slice A_a1 a1.length c_a1] w (Rt w (.bool res)) := by
  refine calls_of_cw (args := [.slice A_a0 a0.length c_a0, .slice A_a1 a1.length c_a1]) Try.func52 rfl rfl rfl rfl ?_
  have H := Hp.start w
  have R0 := H.ext
  unfold ref03_SameBounds at F
  refine CW.seq fun K1 hK1 => ?_
  refine CW.region ?_
  refine LW.pure rfl rfl (RV.assign rfl) ?_
  refine LW.nil (hK1 _ _ ?_)
  refine CW.seq fun K2 hK2 => ?_
  refine CW.seq fun K3 hK3 => ?_
  refine CW.region ?_
  refine LW.pure rfl rfl (RV.move rfl) ?_
  refine LW.pure rfl rfl (RV.len Ts22 rfl) ?_
  refine LW.pure rfl rfl (RV.move rfl) ?_
  refine LW.pure rfl rfl (RV.len Ts22 rfl) ?_
  refine LW.pure rfl rfl (RV.nei rfl rfl) ?_
  refine LW.nil (hK3 _ _ ?_)
  by_cases hp1 : ((a0.length : Int)) = ((a1.length : Int))
  ·
    replace F := ite_y hp1 F
    have hq1 := dec_t hp1
    refine CW.condF rfl (not_f hq1) ?_
    refine CW.skip (hK2 _ _ ?_)
    refine CW.seqJ (fun ρ wl1 => (ref03_SameBounds_k1 = some res ∧ ρ = [(4, .bool false)] ∧ Hp w wl1 [])) ?_ ?_
    ·
      rintro _ wl1 ⟨F, rfl, H⟩
      have R0 := H.ext
      unfold ref03_SameBounds_k1 at F
      refine CW.seq fun K4 hK4 => ?_
      refine CW.region ?_
      refine LW.pure rfl rfl (RV.assign rfl) ?_
      refine LW.nil (hK4 _ _ ?_)
      refine CW.ret ?_
      obtain rfl := Option.some.inj F
      refine ⟨_, (ResOK.one rfl), ?_⟩
      refine ⟨(by first | rfl | simp), R0⟩
    ·
      intro K5 hK5 jK59
      refine CW.seq fun K6 hK6 => ?_
      refine CW.region ?_
      refine LW.pure rfl rfl (RV.assign rfl) ?_
      refine LW.nil (hK6 _ _ ?_)
      refine CW.block ?_
      refine CW.loop (fun meas ρ wl2 => ∃ (t5_1 : Int), ref03_SameBounds_L1 a0 a1 meas t5_1 = some res ∧ ρ = [(0, .slice A_a0 a0.length c_a0), (1, .slice A_a1 a1.length c_a1), (4, .bool false), (5, .int .i64 t5_1)] ∧ Hp w wl2 []) FU ⟨_, ?_, ((0 : Int)), F, rfl, H⟩ ?_
      · exact ⟨rfl, rfl, rfl, rfl, trivial⟩
      rintro mk1 _ wl2 ⟨t5_1, F, rfl, H⟩
      have R0 := H.ext
      replace F := ref03_SameBounds_L1_s F
      obtain ⟨mk1, rfl, F⟩ := F
      generalize hrec1 : ref03_SameBounds_L1 a0 a1 mk1 = rec1 at F
      unfold ref03_SameBounds_B1 at F
      refine CW.seq fun K7 hK7 => ?_
      refine CW.seq fun K8 hK8 => ?_
      refine CW.region ?_
      refine LW.pure rfl rfl (RV.move rfl) ?_
      refine LW.pure rfl rfl (RV.move rfl) ?_
      refine LW.pure rfl rfl (RV.len Ts22 rfl) ?_
      refine LW.pure rfl rfl (RV.lss rfl rfl) ?_
      refine LW.nil (hK8 _ _ ?_)
      by_cases hp2 : t5_1 < ((a0.length : Int))
      ·
        replace F := ite_y hp2 F
        have hq2 := dec_t hp2
        refine CW.condT rfl hq2 ?_
        refine CW.skip (hK7 _ _ ?_)
        refine CW.seq fun K9 hK9 => ?_
        refine CW.block ?_
        refine CW.seq fun K10 hK10 => ?_
        obtain ⟨x1, hbx1, hx1, F⟩ := ix_some F
        obtain ⟨x2, hbx2, hx2, F⟩ := ix_some F
        refine CW.draw [] (fun _ => True) (.cons 0 1 (.cons 1 1 (.cons 2 1 (.cons 3 1 (.cons 4 1 (.cons 5 1 (.cons 6 1 (.cons 7 1 (.cons 8 1 .nil))))))))) mixed (by kernel_rfl) fun w1 E1 => ?_
        replace H := H.grow E1
        replace R0 := H.ext
        refine DW.fix rfl rfl rfl (fun _ EQ => RV.move rfl) ?_
        refine DW.fix rfl rfl rfl (fun _ EQ => RV.move rfl) ?_
        refine DW.fix rfl rfl rfl (fun _ EQ => RV.indexAddr Ts22 rfl rfl hbx1 (h_a0.addr_ hx1)) ?_
        refine DW.fix rfl rfl rfl (fun _ EQ => RV.loadA [.int .i64 x1.a, .int .i64 x1.b, .int .i64 x1.most] Tk26 rfl ((h_a0.at_ hx1).ext (R0.trans EQ)) rfl rfl) ?_
        refine DW.fix rfl rfl rfl (fun _ EQ => RV.move rfl) ?_
        refine DW.fix rfl rfl rfl (fun _ EQ => RV.move rfl) ?_
        refine DW.fix rfl rfl rfl (fun _ EQ => RV.indexAddr Ts22 rfl rfl hbx2 (h_a1.addr_ hx2)) ?_
        refine DW.fix rfl rfl rfl (fun _ EQ => RV.loadA [.int .i64 x2.a, .int .i64 x2.b, .int .i64 x2.most] Tk26 rfl ((h_a1.at_ hx2).ext (R0.trans EQ)) rfl rfl) ?_
        refine DW.fix rfl rfl rfl (fun _ EQ => RV.neA Te26g (Te26 _ _ _ _ _ _ ) rfl rfl) ?_
        refine DW.nil (hK10 _ _ ?_)
        by_cases hp3 : ((x1.a == x2.a) && (x1.b == x2.b) && (x1.most == x2.most)) = true
        ·
          replace F := ite_y hp3 F
          have hq3 : ((x1.a == x2.a) && (x1.b == x2.b) && (x1.most == x2.most)) = true := hp3
          refine CW.condF rfl (not_f hq3) ?_
          refine CW.skip (hK9 _ _ ?_)
          obtain ⟨hg1, F⟩ := gd_some F
          refine CW.region ?_
          refine LW.pure rfl rfl (RV.move rfl) ?_
          refine LW.pure rfl rfl (RV.add rfl rfl hg1) ?_
          refine LW.pure rfl rfl (RV.assign rfl) ?_
          refine LW.nil ?_
          subst hrec1
          refine ⟨mk1, Nat.lt_succ_self _, _, ?_, (t5_1 + 1), F, rfl, H⟩
          exact ⟨rfl, rfl, rfl, rfl, trivial⟩
        ·
          replace F := ite_n hp3 F
          have hq3 : ((x1.a == x2.a) && (x1.b == x2.b) && (x1.most == x2.most)) = false := raw_f hp3
          refine CW.condT rfl (not_t hq3) ?_
          refine CW.seq fun K11 hK11 => ?_
          refine CW.region ?_
          refine LW.pure rfl rfl (RV.assign rfl) ?_
          refine LW.nil (hK11 _ _ ?_)
          refine CW.ret ?_
          obtain rfl := Option.some.inj F
          refine ⟨_, (ResOK.one rfl), ?_⟩
          refine ⟨(by first | rfl | simp), R0⟩
      ·
        replace F := ite_n hp2 F
        have hq2 := dec_f hp2
        refine CW.condF rfl hq2 ?_
        refine CW.exit (jK59 _ _ ⟨_, ?_, ⟨F, rfl, H⟩⟩)
        exact ⟨rfl, trivial⟩
  ·
    replace F := ite_n hp1 F
    have hq1 := dec_f hp1
    refine CW.condT rfl (not_t hq1) ?_
    refine CW.seq fun K12 hK12 => ?_
    refine CW.region ?_
    refine LW.pure rfl rfl (RV.assign rfl) ?_
    refine LW.nil (hK12 _ _ ?_)
    refine CW.ret ?_
    obtain rfl := Option.some.inj F
    refine ⟨_, (ResOK.one rfl), ?_⟩
    refine ⟨(by first | rfl | simp), R0⟩
set_option maxRecDepth 20000 in
set_option maxHeartbeats 1000000 in
theorem ref03_Equal_ok {a0 : Core} {a1 : Core} {A_a0_bounds : Option Addr} {c_a0_bounds : Nat} {A_a1_bounds : Option Addr} {c_a1_bounds : Nat} {w : World} {res : Bool} (h_a0_bounds : Sl w A_a0_bounds c_a0_bounds 3 (a0.bounds.map encBound)) (h_a1_bounds : Sl w A_a1_bounds c_a1_bounds 3 (a1.bounds.map encBound)) (F : ref03_Equal a0 a1 = some res) : Calls Try.prog 32 #[.agg #[.int .i64 a0.layers, .slice A_a0_bounds a0.bounds.length c_a0_bounds], .agg #[.int .i64 a1.layers, .slice A_a1_bounds a1.bounds.length c_a1_bounds]] w (Rt w (.bool res)) := by
  refine calls_of_cw (args := [.agg #[.int .i64 a0.layers, .slice A_a0_bounds a0.bounds.length c_a0_bounds], .agg #[.int .i64 a1.layers, .slice A_a1_bounds a1.bounds.length c_a1_bounds]]) Try.func32 rfl rfl rfl rfl ?_
  have H := Hp.start w
  have R0 := H.ext
  unfold ref03_Equal at F
  refine CW.seq fun K1 hK1 => ?_
  refine CW.region ?_
  refine LW.go rfl rfl (OW.box rfl fun b1 w1 N1 => ?_)
  replace H := H.new N1 N1.blk
  replace R0 := H.ext
  refine LW.go rfl rfl (OW.box rfl fun b2 w2 N2 => ?_)
  replace H := H.new N2 N2.blk
  replace R0 := H.ext
  refine LW.pure rfl rfl (RV.assign rfl) ?_
  refine LW.nil (hK1 _ _ ?_)
  refine CW.seq fun K2 hK2 => ?_
  by_cases hp1 : a0.layers = a1.layers
  ·
    replace F := ite_y hp1 F
    have hq1 := dec_t hp1
    obtain ⟨r1, hr1, F⟩ := bnd_some F
    refine CW.region ?_
    refine LW.pure rfl rfl (RV.fieldAddr Tf24_0 rfl) ?_
    refine LW.pure rfl rfl (RV.load1 Tk3 rfl ((H.blk 1 rfl).cells.off 0) rfl) ?_
    refine LW.pure rfl rfl (RV.fieldAddr Tf24_0 rfl) ?_
    refine LW.pure rfl rfl (RV.load1 Tk3 rfl ((H.blk 0 rfl).cells.off 0) rfl) ?_
    refine LW.pure rfl rfl (RV.eqi rfl rfl) ?_
    refine LW.pure rfl rfl (RV.move rfl) ?_
    refine LW.pureYB rfl rfl rfl rfl hq1 (RV.fieldAddr Tf24_1 rfl) ?_
    refine LW.pureYB rfl rfl rfl rfl hq1 (RV.load1 Tk22 rfl ((H.blk 1 rfl).cells.off 1) rfl) ?_
    refine LW.pureYB rfl rfl rfl rfl hq1 (RV.fieldAddr Tf24_1 rfl) ?_
    refine LW.pureYB rfl rfl rfl rfl hq1 (RV.load1 Tk22 rfl ((H.blk 0 rfl).cells.off 1) rfl) ?_
    refine LW.yesB rfl rfl rfl rfl hq1 (OW.call Tc52 rfl (ref03_SameBounds_ok (a0 := a0.bounds) (a1 := a1.bounds) (h_a0_bounds.ext R0) (h_a1_bounds.ext R0) hr1) ?_)
    rintro _ w3 ⟨rfl, E1⟩
    refine ⟨_, rfl, ?_⟩
    replace H := H.grow E1
    replace R0 := H.ext
    refine LW.pure rfl rfl (RV.pickTB rfl hq1 rfl) ?_
    refine LW.pure rfl rfl (RV.assign rfl) ?_
    refine LW.nil (hK2 _ _ ?_)
    refine CW.ret ?_
    obtain rfl := Option.some.inj F
    refine ⟨_, (ResOK.one rfl), ?_⟩
    refine ⟨(by first | rfl | simp), R0⟩
  ·
    replace F := ite_n hp1 F
    have hq1 := dec_f hp1
    refine CW.region ?_
    refine LW.pure rfl rfl (RV.fieldAddr Tf24_0 rfl) ?_
    refine LW.pure rfl rfl (RV.load1 Tk3 rfl ((H.blk 1 rfl).cells.off 0) rfl) ?_
    refine LW.pure rfl rfl (RV.fieldAddr Tf24_0 rfl) ?_
    refine LW.pure rfl rfl (RV.load1 Tk3 rfl ((H.blk 0 rfl).cells.off 0) rfl) ?_
    refine LW.pure rfl rfl (RV.eqi rfl rfl) ?_
    refine LW.pure rfl rfl (RV.move rfl) ?_
    refine LW.noB rfl rfl rfl rfl (ne_beq (v := false) hq1 rfl) ?_
    refine LW.noB rfl rfl rfl rfl (ne_beq (v := false) hq1 rfl) ?_
    refine LW.noB rfl rfl rfl rfl (ne_beq (v := false) hq1 rfl) ?_
    refine LW.noB rfl rfl rfl rfl (ne_beq (v := false) hq1 rfl) ?_
    refine LW.noB rfl rfl rfl rfl (ne_beq (v := false) hq1 rfl) ?_
    refine LW.pure rfl rfl (RV.pickFB rfl hq1 rfl) ?_
    refine LW.pure rfl rfl (RV.assign rfl) ?_
    refine LW.nil (hK2 _ _ ?_)
    refine CW.ret ?_
    obtain rfl := Option.some.inj F
    refine ⟨_, (ResOK.one rfl), ?_⟩
    refine ⟨(by first | rfl | simp), R0⟩
end Go.D3

namespace Go.Core
open Go.Tb
def keeps (l : List Int) (x : Bound) : Bool := decide (gi l x.b - gi l x.a ≤ x.most)
end Go.Core

set_option linter.unusedVariables false
set_option linter.unusedSimpArgs false
namespace Go.D3
open Go.Tb Go.Core
theorem known_eq : law03_known = some true := by decide +kernel
theorem within_eq (n lo hi : Int) : core_within n lo hi = some (within n lo hi) := by
  unfold core_within within
  by_cases h : lo ≤ n <;> simp [h]
theorem rwithin_eq (n lo hi : Int) : ref03_within n lo hi = some (within n lo hi) := by
  unfold ref03_within within
  by_cases h : lo ≤ n <;> simp [h]
theorem right_eq (x : Bound) (n : Int) (h : 1 ≤ n ∧ n ≤ 8) : core_right x n = some (right x n) := by
  unfold core_right right
  rw [gd_pos (by omega), bnd_eq (within_eq _ _ _)]
  cases h1 : within x.a 0 (n - 1) <;> simp only [Bool.false_and, Bool.true_and, Bool.false_eq_true, if_false, if_true]
  rw [gd_pos (by omega), bnd_eq (within_eq _ _ _)]
  cases h2 : within x.b 0 (n - 1) <;> simp only [Bool.false_and, Bool.true_and, Bool.false_eq_true, if_false, if_true]
  by_cases h3 : x.a = x.b <;> simp [h3, within_eq]
theorem isBound_eq (x : Bound) (n : Int) (h : 1 ≤ n ∧ n ≤ 8) : ref03_isBound x n = some (right x n) := by
  unfold ref03_isBound right
  rw [gd_pos (by omega), bnd_eq (rwithin_eq _ _ _)]
  cases h1 : within x.a 0 (n - 1) <;> simp only [Bool.false_and, Bool.true_and, Bool.false_eq_true, if_false, if_true]
  rw [gd_pos (by omega), bnd_eq (rwithin_eq _ _ _)]
  cases h2 : within x.b 0 (n - 1) <;> simp only [Bool.false_and, Bool.true_and, Bool.false_eq_true, if_false, if_true]
  by_cases h3 : x.a = x.b <;> simp [h3, rwithin_eq]
/-- A loop over a list that stops at the first element for which p does not hold. -/
theorem all_loop {α R : Type} (l : List α) (p : α → Bool) (L : Nat → Int → Option R) (yes no : Option R)
    (step : ∀ (n i : Nat) (x : α), l[i]? = some x → L (n + 1) (i : Int) = if p x = true then L n ((i + 1 : Nat) : Int) else no)
    (stop : ∀ n : Nat, L (n + 1) (l.length : Int) = yes) : ∀ (d n i : Nat), l.length = i + d → d < n → L n (i : Int) = if (l.drop i).all p = true then yes else no
  | 0, n + 1, i, hd, hn => by
    have hi : i = l.length := by omega
    subst hi
    rw [stop n, List.drop_length]
    simp
  | d + 1, n + 1, i, hd, hn => by
    have hlt : i < l.length := by omega
    rw [step n i l[i] (by simp [hlt])]
    have hdrop : l.drop i = l[i] :: l.drop (i + 1) := List.drop_eq_getElem_cons hlt
    rw [hdrop, List.all_cons]
    cases hp : p l[i]
    · simp
    · simp only [if_true, Bool.true_and]
      exact all_loop l p L yes no step stop d n (i + 1) (by omega) (by omega)
theorem all_loop0 {α R : Type} (l : List α) (p : α → Bool) (L : Nat → Int → Option R) (yes no : Option R)
    (step : ∀ (n i : Nat) (x : α), l[i]? = some x → L (n + 1) (i : Int) = if p x = true then L n ((i + 1 : Nat) : Int) else no)
    (stop : ∀ n : Nat, L (n + 1) (l.length : Int) = yes) (hl : l.length ≤ 1000000) : L FU 0 = if l.all p = true then yes else no := by
  have := all_loop l p L yes no step stop l.length FU 0 (by omega) (by have := FU_pos; omega)
  simpa using this
theorem Validate_eq (c : Core) (hl : c.bounds.length ≤ 100) : core_Validate c = some (validate c) := by
  unfold core_Validate validate
  rw [bnd_eq (within_eq _ _ _)]
  cases h1 : within c.layers 1 8 <;> simp only [Bool.false_eq_true, Bool.true_eq_false, if_false, if_true]
  have h1' := Core.within_iff.1 h1
  by_cases h2 : (20 : Int) < c.bounds.length
  · rw [if_pos h2, if_pos h2]
  · rw [if_neg h2, if_neg h2]
    rw [all_loop0 c.bounds (fun x => right x c.layers) (core_Validate_L1 c) (some 0) (some 1) ?_ ?_ (by omega)]
    · split <;> rfl
    · intro n i x hx
      have := lt_of_at hx
      show core_Validate_B1 c (core_Validate_L1 c n) i = _
      unfold core_Validate_B1
      rw [if_pos (by omega), ix_nat hx, bnd_eq (right_eq _ _ h1'), gd_pos (by omega)]
      rfl
    · intro n
      show core_Validate_B1 c (core_Validate_L1 c n) _ = _
      unfold core_Validate_B1
      rw [if_neg (by omega)]; rfl
theorem rValidate_eq (c : Core) (hl : c.bounds.length ≤ 100) : ref03_Validate c = some (validate c) := by
  unfold ref03_Validate validate
  rw [bnd_eq (rwithin_eq _ _ _)]
  cases h1 : within c.layers 1 8 <;> simp only [Bool.false_eq_true, Bool.true_eq_false, if_false, if_true]
  have h1' := Core.within_iff.1 h1
  by_cases h2 : (20 : Int) < c.bounds.length
  · rw [if_pos h2, if_pos h2]
  · rw [if_neg h2, if_neg h2]
    rw [all_loop0 c.bounds (fun x => right x c.layers) (ref03_Validate_L1 c) (some 0) (some 1) ?_ ?_ (by omega)]
    · split <;> rfl
    · intro n i x hx
      have := lt_of_at hx
      show ref03_Validate_B1 c (ref03_Validate_L1 c n) i = _
      unfold ref03_Validate_B1
      rw [if_pos (by omega), ix_nat hx, bnd_eq (isBound_eq _ _ h1'), gd_pos (by omega)]
      rfl
    · intro n
      show ref03_Validate_B1 c (ref03_Validate_L1 c n) _ = _
      unfold ref03_Validate_B1
      rw [if_neg (by omega)]; rfl
/-- The inner loop of relax, whatever comes behind it. -/
theorem relax_inner {c : Core} (hv : validate c = 0) (i : Int) (rec1 : Int → Int → List Int → List Int → Option (List Int × List Int × Int)) {s : RS} {B : Int} (hB : 0 ≤ B ∧ B ≤ 100000000) (hs : RInv c.layers.toNat B s) :
    ∀ (d n j : Nat), c.bounds.length = j + d → d < n → core_relax_L1 c i rec1 n (relaxTo c.bounds s j).2.2 (j : Int) (relaxTo c.bounds s j).1 (relaxTo c.bounds s j).2.1 =
      core_relax_k2 i rec1 (relaxTo c.bounds s c.bounds.length).2.2 (relaxTo c.bounds s c.bounds.length).1 (relaxTo c.bounds s c.bounds.length).2.1
  | 0, n + 1, j, hd, hn => by
    have hj : j = c.bounds.length := by omega
    subst hj
    show core_relax_B1 c i rec1 (core_relax_L1 c i rec1 n) _ _ _ _ = _
    unfold core_relax_B1
    rw [if_neg (by omega)]
  | d + 1, n + 1, j, hd, hn => by
    have hlt : j < c.bounds.length := by omega
    obtain ⟨x, hx⟩ := ex_at hlt
    have hlen := (validate_ok hv).2.2.1
    have hr := bound_ok hv hx
    have hI := relaxTo_inv hv hs hB.1 j
    have ih := relax_inner hv i rec1 hB hs d n (j + 1) (by omega) (by omega)
    generalize hst : relaxTo c.bounds s j = st at *
    obtain ⟨da, ha⟩ := ex_at (l := st.1) (j := x.a.toNat) (by rw [hI.l1]; omega)
    obtain ⟨db, hb⟩ := ex_at (l := st.1) (j := x.b.toNat) (by rw [hI.l1]; omega)
    obtain ⟨kb, hk⟩ := ex_at (l := st.2.1) (j := x.b.toNat) (by rw [hI.l2]; omega)
    have ba := hI.at_ ha
    show core_relax_B1 c i rec1 (core_relax_L1 c i rec1 n) _ _ _ _ = _
    unfold core_relax_B1
    rw [if_pos (by omega), ix_nat hx, ix_eq (by omega) ha, gd_pos (by omega), ix_eq (by omega) hb]
    have hnext : relaxTo c.bounds s (j + 1) = relaxB st j x := by rw [relaxTo_succ hx, hst]
    rw [hnext] at ih
    unfold relaxB at ih
    rw [gi_of ha, gi_of hb] at ih
    by_cases h : da + x.most < db
    · rw [if_pos h] at ih ⊢
      rw [ix_eq (by omega) ha, gd_pos (by omega), ix_eq (by omega) hb, ix_eq (by omega) hk]
      unfold core_relax_k3
      rw [gd_pos (by omega)]
      exact ih
    · rw [if_neg h] at ih ⊢
      unfold core_relax_k3
      rw [gd_pos (by omega)]
      exact ih
theorem relax_outer {c : Core} (hv : validate c = 0) : ∀ (d n i : Nat), c.layers.toNat = i + d → d < n → core_relax_L2 c n (relaxN c i).2.2 (i : Int) (relaxN c i).1 (relaxN c i).2.1 = some (relax c)
  | 0, n + 1, i, hd, hn => by
    have hi : i = c.layers.toNat := by omega
    subst hi
    have := validate_ok hv
    show core_relax_B2 c (core_relax_L2 c n) _ _ _ _ = _
    unfold core_relax_B2
    rw [if_neg (by omega)]
    rfl
  | d + 1, n + 1, i, hd, hn => by
    have hvo := validate_ok hv
    have ih := relax_outer hv d n (i + 1) (by omega) (by omega)
    have hI := relaxN_inv hv i
    show core_relax_B2 c (core_relax_L2 c n) _ _ _ _ = _
    unfold core_relax_B2
    rw [if_pos (by omega)]
    have := relax_inner hv (i : Int) (core_relax_L2 c n) (s := ((relaxN c i).1, (relaxN c i).2.1, -1)) (B := 200000 * (i : Int)) (by omega) ⟨hI.l1, hI.l2, hI.low⟩ c.bounds.length FU 0 (by omega) (by have := FU_pos; omega)
    simp only [relaxTo, Int.ofNat_zero] at this
    refine Eq.trans this ?_
    unfold core_relax_k2
    rw [gd_pos (by omega)]
    exact ih
theorem relax_eq {c : Core} (hv : validate c = 0) : core_relax c = some (relax c) := by
  have hvo := validate_ok hv
  unfold core_relax
  have hrep : slices_Repeat_int [-1] c.layers = some (List.replicate c.layers.toNat (-1)) := by
    unfold slices_Repeat_int; simp only; rw [gd_pos (by omega)]
  rw [gd_pos (by omega), bnd_eq hrep]
  have := relax_outer hv c.layers.toNat FU 0 (by omega) (by have := FU_pos; omega)
  simpa [relaxN] using this
theorem clashes_eq {c : Core} (hv : validate c = 0) : core_clashes c = some (clashes c) := by
  unfold core_clashes
  rw [bnd_eq (relax_eq hv)]
  rfl
end Go.D3

set_option linter.unusedVariables false
set_option linter.unusedSimpArgs false
namespace Go.D3
open Go.Tb Go.Core
theorem walks_inner {c : Core} (hv : validate c = 0) (a r : Nat) (hr : r ≤ 8) (m7 : List (List Int)) (m8 : List (List Bool)) (rec2 : Int → List (List Int) → List (List Bool) → Option (List (List Int) × List (List Bool)))
    (h7 : m7[a]? = some (wN c a r).1) (h8 : m8[a]? = some (wN c a r).2) :
    ref03_walks_L1 c a r m7 m8 rec2 FU 0 (wN c a r).1 (wN c a r).2 = ref03_walks_k4 a r m7 m8 rec2 (wN c a (r + 1)).1 (wN c a (r + 1)).2 := by
  have hvo := validate_ok hv
  refine for_loop0 c.bounds.length (fun i => wTo c.bounds (wN c a r) i) (fun n s i => ref03_walks_L1 c a r m7 m8 rec2 n i s.1 s.2) _ (fun n i hi => ?_) (fun n => ?_) (by omega)
  · obtain ⟨x, hx⟩ := ex_at hi
    have hb := bound_ok hv hx
    have hp := wN_inv' hv a hr
    have hs := wTo_inv' hv a hr i
    show ref03_walks_B1 c a r m7 m8 rec2 (ref03_walks_L1 c a r m7 m8 rec2 n) _ _ _ = _
    simp only [wTo_succ hx]
    generalize wTo c.bounds (wN c a r) i = s at hs ⊢
    generalize wN c a r = p at *
    obtain ⟨da, ha⟩ := ex_at (l := p.1) (j := x.a.toNat) (by rw [hp.l1]; omega)
    obtain ⟨ka, hka⟩ := ex_at (l := p.2) (j := x.a.toNat) (by rw [hp.l2]; omega)
    obtain ⟨db, hdb⟩ := ex_at (l := s.1) (j := x.b.toNat) (by rw [hs.l1]; omega)
    obtain ⟨kb, hkb⟩ := ex_at (l := s.2) (j := x.b.toNat) (by rw [hs.l2]; omega)
    have bd := hp.at_ ha
    unfold ref03_walks_B1 wB
    rw [gb_of hka, gb_of hkb, gi_of ha, gi_of hdb]
    rw [if_pos (by omega), ix_nat hx, ix_nat h7, ix_eq (by omega) ha, gd_pos (by omega), ix_nat h8, ix_eq (by omega) hka]
    unfold ref03_walks_k6 ref03_walks_k5
    cases ka <;> cases kb <;> simp only [Bool.false_eq_true, if_false, if_true, Bool.true_and, Bool.false_and, Bool.not_false, Bool.not_true, Bool.true_or, Bool.false_or]
    · rw [gd_pos (by omega)]; rfl
    · rw [gd_pos (by omega)]; rfl
    · rw [ix_eq (by omega) hkb]
      simp only [Bool.false_eq_true, if_false, if_true]
      rw [ix_eq (by omega) hdb, ix_eq (by omega) hkb, gd_pos (by omega)]; rfl
    · rw [ix_eq (by omega) hkb, if_pos rfl, ix_eq (by omega) hdb]
      by_cases hlt : da + x.most < db
      · simp only [hlt, decide_true, if_true]
        rw [ix_eq (by omega) hdb, ix_eq (by omega) hkb, gd_pos (by omega)]; rfl
      · simp only [hlt, decide_false, Bool.false_eq_true, if_false]
        rw [gd_pos (by omega)]; rfl
  · show ref03_walks_B1 c a r m7 m8 rec2 (ref03_walks_L1 c a r m7 m8 rec2 n) _ _ _ = _
    unfold ref03_walks_B1
    rw [if_neg (by omega)]
    rfl
theorem walks_mid {c : Core} (hv : validate c = 0) (k : Int) (hk : 0 ≤ k ∧ k ≤ 8) (a : Nat) (rec1 : Int → List (List Int) → List (List Bool) → Option (List (List Int) × List (List Bool)))
    (M7 : List (List Int)) (M8 : List (List Bool)) (l7 : a < M7.length) (l8 : a < M8.length) :
    ref03_walks_L2 c k a rec1 FU 0 (M7.set a (wN c a 0).1) (M8.set a (wN c a 0).2) = ref03_walks_k2 a rec1 (M7.set a (wN c a k.toNat).1) (M8.set a (wN c a k.toNat).2) := by
  have hvo := validate_ok hv
  refine for_loop0 k.toNat (fun r => (M7.set a (wN c a r).1, M8.set a (wN c a r).2)) (fun n s i => ref03_walks_L2 c k a rec1 n i s.1 s.2) _ (fun n r hr => ?_) (fun n => ?_) (by omega)
  · have h7 : (M7.set a (wN c a r).1)[a]? = some (wN c a r).1 := List.getElem?_set_self l7
    have h8 : (M8.set a (wN c a r).2)[a]? = some (wN c a r).2 := List.getElem?_set_self l8
    have hp := wN_inv' hv a (k := r) (by omega)
    show ref03_walks_B2 c k a rec1 (ref03_walks_L2 c k a rec1 n) _ _ _ = _
    unfold ref03_walks_B2
    simp only
    rw [if_pos (by omega), ix_nat h7, gd_pos (by have := hp.l1; simp; omega), ix_nat h8, gd_pos (by have := hp.l2; simp; omega)]
    unfold ref03_walks_k7
    rw [List.nil_append, List.nil_append, walks_inner hv a r (by omega) _ _ _ h7 h8]
    unfold ref03_walks_k4
    rw [ix_nat h7, ix_nat h8]
    unfold ref03_walks_k3
    rw [gd_pos (by omega)]
    simp only [Int.toNat_natCast, List.set_set]
    rfl
  · show ref03_walks_B2 c k a rec1 (ref03_walks_L2 c k a rec1 n) _ _ _ = _
    unfold ref03_walks_B2
    rw [if_neg (by omega)]
theorem walks_eq {c : Core} (hv : validate c = 0) (k : Int) (hk : 0 ≤ k ∧ k ≤ 8) : ref03_walks c k = some (wsT c k.toNat c.layers.toNat, wkT c k.toNat c.layers.toNat) := by
  have hvo := validate_ok hv
  unfold ref03_walks
  rw [gd_pos (by omega), gd_pos (by omega)]
  unfold ref03_walks_k9
  refine for_loop0 c.layers.toNat (fun a => (wsT c k.toNat a, wkT c k.toNat a)) (fun n s i => ref03_walks_L3 c k n i s.1 s.2) _ (fun n a ha => ?_) (fun n => ?_) (by omega)
  · have l1 := wsT_len c k.toNat a
    have l2 := wkT_len c k.toNat a
    obtain ⟨x, hx⟩ := ex_at (l := wsT c k.toNat a) (j := a) (by omega)
    obtain ⟨y, hy⟩ := ex_at (l := wkT c k.toNat a) (j := a) (by omega)
    show ref03_walks_B3 c k (ref03_walks_L3 c k n) _ _ _ = _
    unfold ref03_walks_B3
    simp only
    rw [if_pos (by omega), gd_pos (by omega), gd_pos (by omega), ix_nat hx, ix_nat hy]
    unfold ref03_walks_k8
    simp only [Int.toNat_natCast]
    rw [ix_nat (List.getElem?_set_self (by omega)), ix_nat (x := false) (by simp [List.getElem?_replicate]; omega), List.set_set]
    have := walks_mid hv k hk a (ref03_walks_L3 c k n) (wsT c k.toNat a) (wkT c k.toNat a) (by omega) (by omega)
    simp only [wN] at this
    refine Eq.trans this ?_
    unfold ref03_walks_k2
    rw [gd_pos (by omega)]
    rfl
  · show ref03_walks_B3 c k (ref03_walks_L3 c k n) _ _ _ = _
    unfold ref03_walks_B3
    rw [if_neg (by omega)]
    rfl
theorem rclashes_eq {c : Core} (hv : validate c = 0) : ref03_clashes c = some (rclash c) := by
  have hvo := validate_ok hv
  unfold ref03_clashes
  rw [bnd_eq (walks_eq hv c.layers (by omega))]
  have h := scan_loop0 c.layers.toNat (fun a => !decide (gi (wN c a c.layers.toNat).1 a < 0)) (fun _ => ()) (fun n _ i => ref03_clashes_L1 c (wsT c c.layers.toNat c.layers.toNat, wkT c c.layers.toNat c.layers.toNat) n i) (some false) (some true) (fun n a ha => ?_) (fun n => ?_) (by omega)
  · refine Eq.trans h ?_
    unfold rclash
    by_cases hc : ∀ j, j < c.layers.toNat → (!decide (gi (wN c j c.layers.toNat).1 j < 0)) = true
    · rw [if_pos hc]
      congr 1
      symm
      rw [List.any_eq_false]
      intro a ha
      have := hc a (List.mem_range.1 ha)
      simpa using this
    · rw [if_neg hc]
      congr 1
      symm
      rw [List.any_eq_true]
      simp only [Bool.not_eq_true', decide_eq_false_iff_not] at hc
      obtain ⟨j, hj⟩ := Classical.not_forall.1 hc
      obtain ⟨h1, h2⟩ := Classical.not_imp.1 hj
      exact ⟨j, List.mem_range.2 h1, by simpa using h2⟩
  · show ref03_clashes_B1 c _ (ref03_clashes_L1 c _ n) _ = _
    unfold ref03_clashes_B1
    have hr := wsT_at c c.layers.toNat c.layers.toNat (Nat.le_refl _) a ha
    have hp := wN_inv' hv a (k := c.layers.toNat) (by omega)
    obtain ⟨d, hd⟩ := ex_at (l := (wN c a c.layers.toNat).1) (j := a) (by rw [hp.l1]; omega)
    rw [if_pos (by omega), ix_nat hr, ix_nat hd, gd_pos (by omega)]
    have : gi (wN c a c.layers.toNat).1 a = d := by simp [gi, List.getD, hd]
    rw [this]
    by_cases h0 : d < 0 <;> simp [h0]
  · show ref03_clashes_B1 c _ (ref03_clashes_L1 c _ n) _ = _
    unfold ref03_clashes_B1
    rw [if_neg (by omega)]
    rfl
end Go.D3

set_option linter.unusedVariables false
set_option linter.unusedSimpArgs false
namespace Go.D3
open Go.Tb Go.Core
theorem Long_eq (c : Core) : law03_Long c = some (decide ((100 : Int) < c.bounds.length)) := rfl
def flip (x : Bound) : Bound := ⟨x.b, x.a, x.most⟩
def turn (c : Core) : Core := ⟨c.layers, c.bounds.map flip⟩
theorem Copy_eq (c : Core) (hl : c.bounds.length ≤ 1000000) : ref03_Copy c = some c := by
  unfold ref03_Copy
  rw [gd_pos (by simpa using hl)]
  simp
theorem beqB (x y : Bound) : ((x.a == y.a) && (x.b == y.b) && (x.most == y.most)) = true ↔ x = y := by
  cases x; cases y; simp [and_assoc]
theorem SameBounds_self (l : List Bound) (hl : l.length ≤ 1000000) : ref03_SameBounds l l = some true := by
  unfold ref03_SameBounds
  rw [if_pos rfl]
  refine for_loop0 l.length (fun _ => ()) (fun n _ i => ref03_SameBounds_L1 l l n i) _ (fun n i hi => ?_) (fun n => ?_) (by omega)
  · obtain ⟨x, hx⟩ := ex_at hi
    show ref03_SameBounds_B1 l l (ref03_SameBounds_L1 l l n) _ = _
    unfold ref03_SameBounds_B1
    rw [if_pos (by omega), ix_nat hx, ix_nat hx, if_pos ((beqB x x).2 rfl), gd_pos (by omega)]
    rfl
  · show ref03_SameBounds_B1 l l (ref03_SameBounds_L1 l l n) _ = _
    unfold ref03_SameBounds_B1
    rw [if_neg (by omega)]; rfl
theorem Equal_self (c : Core) (hl : c.bounds.length ≤ 1000000) : ref03_Equal c c = some true := by
  unfold ref03_Equal
  rw [if_pos rfl, bnd_eq (SameBounds_self _ hl)]
end Go.D3

set_option linter.unusedVariables false
set_option linter.unusedSimpArgs false
namespace Go.D3
open Go.Tb Go.Core
theorem clash_path {c : Core} (hv : validate c = 0) : clashes c = true ↔ ∃ u e, u < c.layers.toNat ∧ Path c u e u ∧ wt e < 0 := by
  constructor
  · intro h
    exact neg_of (lay_of hv) (by rw [← clash_iff hv]; exact h)
  · rintro ⟨u, e, hu, hp, hw⟩
    cases hc : clashes c with
    | true => rfl
    | false =>
      have := hp.pot (pot_of hv hc)
      omega
end Go.D3

set_option linter.unusedVariables false
set_option linter.unusedSimpArgs false
namespace Go.D3
open Go.Tb Go.Core
def bAt (c : Core) (k : Int) : Bound := c.bounds.getD k.toNat ⟨0, 0, 0⟩
theorem bAt_of {c : Core} {k : Int} {x : Bound} (h : c.bounds[k.toNat]? = some x) : bAt c k = x := by simp [bAt, List.getD, h]
def PE (c : Core) (s : RS) (x : Bound) : Prop := ∃ k : Nat, c.bounds[k]? = some x ∧ s.2.1[x.b.toNat]? = some (k : Int)
structure PI (c : Core) (r j : Nat) (s : RS) (lev : Nat → Nat) : Prop where
  l1 : s.1.length = c.layers.toNat
  l2 : s.2.1.length = c.layers.toNat
  le : ∀ v, lev v ≤ r
  zero : ∀ v, v < c.layers.toNat → lev v = 0 → s.2.1[v]? = some (-1)
  par : ∀ v, v < c.layers.toNat → lev v ≠ 0 → ∃ (k : Nat) (x : Bound), c.bounds[k]? = some x ∧ x.b.toNat = v ∧ s.2.1[v]? = some (k : Int) ∧ ds s x.a.toNat + x.most ≤ ds s v ∧ lev v ≤ lev x.a.toNat + 1
  cyc : ∀ u e, Path c u e u → e ≠ [] → (∀ x ∈ e, PE c s x) → wt e < 0
  chk : ∀ (i : Nat) (x : Bound), c.bounds[i]? = some x → (i < j ∧ lev x.a.toNat + 1 ≤ r) ∨ lev x.a.toNat + 2 ≤ r → ds s x.b.toNat ≤ ds s x.a.toNat + x.most
  last : s.2.2 < 0 ∨ (lev s.2.2.toNat = r ∧ s.2.2 < c.layers)
theorem PI.edge {c : Core} (hv : validate c = 0) {r j : Nat} {s : RS} {lev : Nat → Nat} (h : PI c r j s lev) {x : Bound} (hx : PE c s x) : ds s x.a.toNat + x.most ≤ ds s x.b.toNat := by
  obtain ⟨k, hk, hb⟩ := hx
  have hbo := bound_ok hv hk
  by_cases h0 : lev x.b.toNat = 0
  · have := h.zero _ (by omega) h0
    rw [hb] at this
    cases this
  · obtain ⟨k', x', hk', hb', hs', hd, _⟩ := h.par _ (by omega) h0
    rw [hb] at hs'
    have e : k = k' := by have := Option.some.inj hs'; omega
    subst e
    rw [hk] at hk'
    cases hk'
    exact hd
theorem tele {c : Core} {D : Nat → Int} {u v : Nat} {e : List Bound} (h : Path c u e v) : (∀ x ∈ e, D x.a.toNat + x.most ≤ D x.b.toNat) → wt e ≤ D v - D u ∧ ∀ y ∈ e, D y.a.toNat + y.most < D y.b.toNat → wt e < D v - D u := by
  induction h with
  | nil => intro _; simp [wt]
  | cons hx hp ih =>
    intro hall
    obtain ⟨i1, i2⟩ := ih fun y hy => hall y (by simp [hy])
    have h0 := hall _ (List.mem_cons_self)
    simp only [wt]
    refine ⟨by omega, fun y hy hlt => ?_⟩
    rcases List.mem_cons.1 hy with rfl | hy
    · omega
    · have := i2 y hy hlt; omega
theorem PI.step {c : Core} (hv : validate c = 0) {r j : Nat} {s : RS} {lev : Nat → Nat} (h : PI c r j s lev) (hr : 1 ≤ r) {x : Bound} (hx : c.bounds[j]? = some x) : ∃ lev', PI c r (j + 1) (relaxB s j x) lev' := by
  have hb := bound_ok hv hx
  have hD : ∀ v, ds (relaxB s j x) v = if v = x.b.toNat ∧ ds s x.a.toNat + x.most < ds s x.b.toNat then ds s x.a.toNat + x.most else ds s v := relaxB_ds h.l1 (by omega)
  by_cases hlt : ds s x.a.toNat + x.most < ds s x.b.toNat
  · have hS : relaxB s j x = (s.1.set x.b.toNat (ds s x.a.toNat + x.most), s.2.1.set x.b.toNat (j : Int), x.b) := by
      unfold relaxB; rw [gi_ds, gi_ds, if_pos hlt]
    have hDb : ds (relaxB s j x) x.b.toNat = ds s x.a.toNat + x.most := by rw [hD, if_pos ⟨rfl, hlt⟩]
    have hDn : ∀ v, v ≠ x.b.toNat → ds (relaxB s j x) v = ds s v := fun v hn => by rw [hD, if_neg (fun h => hn h.1)]
    have hDl : ∀ v, ds (relaxB s j x) v ≤ ds s v := fun v => by
      by_cases hn : v = x.b.toNat
      · subst hn; rw [hDb]; omega
      · rw [hDn v hn]; exact Int.le_refl _
    have hB2 : (relaxB s j x).2.1 = s.2.1.set x.b.toNat (j : Int) := by rw [hS]
    have hbn : ∀ v, v ≠ x.b.toNat → (relaxB s j x).2.1[v]? = s.2.1[v]? := fun v hn => by rw [hB2, List.getElem?_set_ne (Ne.symm hn)]
    have hbb : (relaxB s j x).2.1[x.b.toNat]? = some (j : Int) := by rw [hB2, List.getElem?_set_self (by rw [h.l2]; omega)]
    have hab : x.a.toNat ≠ x.b.toNat := by omega
    refine ⟨fun v => if v = x.b.toNat then r else lev v, ?_, ?_, ?_, ?_, ?_, ?_, ?_, ?_⟩
    · rw [hS]; simp [h.l1]
    · rw [hS]; simp [h.l2]
    · intro v
      show (if v = x.b.toNat then r else lev v) ≤ r
      split
      · exact Nat.le_refl _
      · exact h.le v
    · intro v hvn h0
      have hn : v ≠ x.b.toNat := fun e => by simp [e] at h0; omega
      simp only [if_neg hn] at h0
      rw [hbn v hn]; exact h.zero v hvn h0
    · intro v hvn h0
      by_cases hn : v = x.b.toNat
      · subst hn
        refine ⟨j, x, hx, rfl, hbb, by rw [hDb, hDn _ hab]; exact Int.le_refl _, ?_⟩
        simp only [if_true, if_neg hab]
        by_cases hl : lev x.a.toNat + 2 ≤ r
        · have := h.chk j x hx (.inr hl); omega
        · omega
      · simp only [if_neg hn] at h0 ⊢
        obtain ⟨k, y, hk, hy, hs, hd, hl⟩ := h.par v hvn h0
        refine ⟨k, y, hk, hy, by rw [hbn v hn]; exact hs, ?_, ?_⟩
        · have := hDl y.a.toNat; rw [hDn v hn]; omega
        · by_cases hya : y.a.toNat = x.b.toNat
          · rw [if_pos hya]; have := h.le v; omega
          · rw [if_neg hya]; exact hl
    · intro u e hp hne hall
      have hold : ∀ y ∈ e, y = x ∨ PE c s y := fun y hy => by
        obtain ⟨k, hk, hs⟩ := hall y hy
        by_cases hyb : y.b.toNat = x.b.toNat
        · rw [hyb, hbb] at hs
          have e1 : j = k := by have := Option.some.inj hs; omega
          subst e1
          rw [hx] at hk; cases hk
          exact .inl rfl
        · exact .inr ⟨k, hk, by rw [hbn _ hyb] at hs; exact hs⟩
      by_cases hxe : x ∈ e
      · have ht := tele (D := ds s) hp fun y hy => by
          rcases hold y hy with rfl | hy
          · omega
          · exact h.edge hv hy
        have := ht.2 x hxe hlt
        omega
      · exact h.cyc u e hp hne fun y hy => by
          rcases hold y hy with rfl | h'
          · exact absurd hy hxe
          · exact h'
    · intro i y hy hcase
      by_cases hya : y.a.toNat = x.b.toNat
      · simp only [if_pos hya] at hcase; omega
      · simp only [if_neg hya] at hcase
        rw [hDn _ hya]
        by_cases hij : i = j
        · subst hij
          rw [hx] at hy; cases hy
          rw [hDb]; exact Int.le_refl _
        · have := h.chk i y hy (by omega)
          have := hDl y.b.toNat
          omega
    · right
      rw [hS]
      exact ⟨by simp, hb.2.2.2.1⟩
  · have hS : relaxB s j x = s := by unfold relaxB; rw [gi_ds, gi_ds, if_neg hlt]
    rw [hS]
    refine ⟨lev, h.l1, h.l2, h.le, h.zero, h.par, h.cyc, fun i y hy hcase => ?_, h.last⟩
    by_cases hij : i = j
    · subst hij
      rw [hx] at hy; cases hy
      omega
    · exact h.chk i y hy (by omega)
theorem PI.to {c : Core} (hv : validate c = 0) {r : Nat} {s : RS} {lev : Nat → Nat} (h : PI c r 0 s lev) (hr : 1 ≤ r) : ∀ j, j ≤ c.bounds.length → ∃ lev', PI c r j (relaxTo c.bounds s j) lev'
  | 0, _ => ⟨lev, h⟩
  | j + 1, hj => by
    obtain ⟨lev', h'⟩ := PI.to hv h hr j (by omega)
    obtain ⟨x, hx⟩ := ex_at (l := c.bounds) (j := j) (by omega)
    rw [relaxTo_succ hx]
    exact h'.step hv hr hx
end Go.D3

set_option linter.unusedVariables false
set_option linter.unusedSimpArgs false
namespace Go.D3
open Go.Tb Go.Core
structure On (c : Core) (s : RS) (lev : Nat → Nat) (v : Int) (m : Nat) : Prop where
  lo : 0 ≤ v
  hi : v < c.layers
  lev : m ≤ lev v.toNat
theorem On.next {c : Core} (hv : validate c = 0) {r j : Nat} {s : RS} {lev : Nat → Nat} (h : PI c r j s lev) {v : Int} {m : Nat} (o : On c s lev v (m + 1)) :
    ∃ (k : Nat) (x : Bound), c.bounds[k]? = some x ∧ x.b = v ∧ s.2.1[v.toNat]? = some (k : Int) ∧ gi s.2.1 v = k ∧ bAt c (gi s.2.1 v) = x ∧ PE c s x ∧ On c s lev x.a m := by
  have h1 := o.lev
  have h2 := o.lo
  have h3 := o.hi
  obtain ⟨k, x, hk, hb, hs, _, hl⟩ := h.par v.toNat (by omega) (by omega)
  have hbo := bound_ok hv hk
  have hg : gi s.2.1 v = k := gi_of hs
  refine ⟨k, x, hk, by omega, hs, hg, ?_, ⟨k, hk, by rw [hb]; exact hs⟩, hbo.1, hbo.2.1, by omega⟩
  rw [hg]; exact bAt_of (by simpa using hk)
end Go.D3
