/- Lemmas and walks that the proof of this claim uses: D3m8, D3m9D, D3m9, Tb22, TbCoreSpec6, TbCoreSpec7, D3p1, D3p2, D3p3. -/
import Derived.Test.YtmjadkjcbaohbaaCoreEither6
import Derived.Test.YtmjadkjcbaohbaaProg
import Derived.KernelRfl
set_option linter.unusedVariables false
set_option linter.unusedSimpArgs false
namespace Go.D3
open Go.Tb Go.Proofs Go.RowKit Go.Core

theorem Tc43 : callable Try.prog 43 = true := by kernel_rfl
theorem Tc44 : callable Try.prog 44 = true := by kernel_rfl

set_option maxRecDepth 20000 in
set_option maxHeartbeats 1000000 in
theorem core_Shift_ok {a0 : Core} {a1 : List Int} {A_a0_bounds : Option Addr} {c_a0_bounds : Nat} {A_a1 : Option Addr} {c_a1 : Nat} {w : World} {res : Core × Int} (h_a0_bounds : Sl w A_a0_bounds c_a0_bounds 3 (a0.bounds.map encBound)) (h_a1 : Sl w A_a1 c_a1 1 (a1.map encN)) (F : core_Shift a0 a1 = some res) : Calls Try.prog 43 #[.agg #[.int .i64 a0.layers, .slice A_a0_bounds a0.bounds.length c_a0_bounds], .slice A_a1 a1.length c_a1] w (fun e w' => ∃ (A0_bounds : Option Addr) (c0_bounds : Nat), e = .returned (.tuple #[.agg #[.int .i64 res.1.layers, .slice A0_bounds res.1.bounds.length c0_bounds], .int .i64 res.2]) ∧ Hp w w' [.own A0_bounds c0_bounds 26 3 (List.map encBound res.1.bounds)]) := by
  refine calls_of_cw (args := [.agg #[.int .i64 a0.layers, .slice A_a0_bounds a0.bounds.length c_a0_bounds], .slice A_a1 a1.length c_a1]) Try.func43 rfl rfl rfl rfl ?_
  have H := Hp.start w
  have R0 := H.ext
  unfold core_Shift at F
  refine CW.seq fun K1 hK1 => ?_
  refine CW.region ?_
  refine LW.go rfl rfl (OW.box rfl fun b1 w1 N1 => ?_)
  replace H := H.new N1 N1.blk
  replace R0 := H.ext
  refine LW.go rfl rfl (OW.alloc Tz24 fun b2 w2 N2 => ?_)
  replace H := H.new N2 N2.blk
  replace R0 := H.ext
  refine LW.pure rfl rfl (RV.assign rfl) ?_
  refine LW.nil (hK1 _ _ ?_)
  refine CW.seq fun K2 hK2 => ?_
  refine CW.seq fun K3 hK3 => ?_
  obtain ⟨r2, hr2, F⟩ := bnd_some F
  refine CW.region ?_
  refine LW.pure rfl rfl (RV.loadA [.int .i64 a0.layers, .slice A_a0_bounds a0.bounds.length c_a0_bounds] Tk24 rfl (H.blk 1 rfl).cells rfl rfl) ?_
  refine LW.pure rfl rfl (RV.move rfl) ?_
  refine LW.go rfl rfl (OW.call Tc67 rfl (core_dated_ok (a0 := a0) (a1 := a1) (h_a0_bounds.ext R0) (h_a1.ext R0) hr2) ?_)
  rintro _ w3 ⟨rfl, E1⟩
  refine ⟨_, rfl, ?_⟩
  replace H := H.grow E1
  replace R0 := H.ext
  refine LW.pure rfl rfl (RV.assign rfl) ?_
  refine LW.nil (hK3 _ _ ?_)
  refine CW.seq fun K4 hK4 => ?_
  refine CW.region ?_
  refine LW.pure rfl rfl (RV.move rfl) ?_
  refine LW.pure rfl rfl (RV.nei rfl rfl) ?_
  refine LW.nil (hK4 _ _ ?_)
  by_cases hp1 : r2 = 0
  ·
    replace F := ite_y hp1 F
    have hq1 := dec_t hp1
    refine CW.condF rfl (not_f hq1) ?_
    refine CW.skip (hK2 _ _ ?_)
    refine CW.seq fun K5 hK5 => ?_
    refine CW.region ?_
    refine LW.pure rfl rfl (RV.fieldAddr Tf24_0 rfl) ?_
    refine LW.pure rfl rfl (RV.load1 Tk3 rfl ((H.blk 1 rfl).cells.off 0) rfl) ?_
    refine LW.pure rfl rfl (RV.build (vs := [.int .i64 a0.layers]) (cs := [.int .i64 a0.layers, .slice none 0 0]) rfl (fun _ => by kernel_rfl)) ?_
    refine LW.go rfl rfl (OW.alloc Tz24 fun b3 w4 N3 => ?_)
    replace H := H.new N3 N3.blk
    replace R0 := H.ext
    refine LW.go rfl rfl (OW.store Tk24 rfl rfl (H.blk 0 rfl) (off := 0) (vs := [.int .i64 a0.layers, .slice none 0 0]) rfl rfl rfl rfl rfl fun w5 S1 => ?_)
    replace H : Hp w w5 [.blk b3 24 [.int .i64 a0.layers, .slice none 0 0], .blk b2 24 [.int .i64 0, .slice none 0 0], .blk b1 24 [.int .i64 a0.layers, .slice A_a0_bounds a0.bounds.length c_a0_bounds]] := H.stored 0 rfl S1
    replace R0 := H.ext
    refine LW.nil (hK5 _ _ ?_)
    refine CW.seqJ (fun ρ wl1 => (∃ (l1 : List Bound) (Al1 : Option Addr) (cl1 : Nat), core_Shift_k1 a0 l1 = some res ∧ ρ = [(4, .pointer (some (⟨b2, 0, none⟩))), (5, .int .i64 0), (7, .pointer (some (⟨b3, 0, none⟩)))] ∧ Hp w wl1 [.own Al1 cl1 26 3 (List.map encBound l1), .blk b2 24 [.int .i64 0, .slice none 0 0], .blk b3 24 [.int .i64 a0.layers, .slice Al1 l1.length cl1]])) ?_ ?_
    ·
      rintro _ wl1 ⟨l1, Al1, cl1, F, rfl, H⟩
      have R0 := H.ext
      unfold core_Shift_k1 at F
      refine CW.seq fun K6 hK6 => ?_
      refine CW.region ?_
      refine LW.pure rfl rfl (RV.loadA [.int .i64 a0.layers, .slice Al1 l1.length cl1] Tk24 rfl (H.blk 2 rfl).cells rfl rfl) ?_
      refine LW.go rfl rfl (OW.store Tk24 rfl rfl (H.blk 1 rfl) (off := 0) (vs := [.int .i64 a0.layers, .slice Al1 l1.length cl1]) rfl rfl rfl rfl rfl fun w6 S2 => ?_)
      replace H : Hp w w6 [.own Al1 cl1 26 3 (List.map encBound l1), .blk b2 24 [.int .i64 a0.layers, .slice Al1 l1.length cl1], .blk b3 24 [.int .i64 a0.layers, .slice Al1 l1.length cl1]] := H.stored 1 rfl S2
      replace R0 := H.ext
      refine LW.pure rfl rfl (RV.assign rfl) ?_
      refine LW.nil (hK6 _ _ ?_)
      refine CW.ret ?_
      obtain rfl := Option.some.inj F
      refine ⟨_, (ResOK.two ⟨_, rfl, run_loadVar_agg Tk24 (H.blk 1 rfl).cells (us := [.int .i64 a0.layers, .slice Al1 l1.length cl1]) rfl rfl⟩ rfl), ?_⟩
      replace H := H.pick (L' := [.own Al1 cl1 26 3 (List.map encBound l1)]) [0] (by decide) rfl
      replace R0 := H.ext
      exact ⟨Al1, cl1, (by first | rfl | (simp; done) | (simp; omega)), H⟩
    ·
      intro K7 hK7 jK90
      refine CW.seq fun K8 hK8 => ?_
      refine CW.region ?_
      refine LW.pure rfl rfl (RV.fieldAddr Tf24_1 rfl) ?_
      refine LW.pure rfl rfl (RV.load1 Tk22 rfl ((H.blk 2 rfl).cells.off 1) rfl) ?_
      refine LW.pure rfl rfl (RV.len Ts22 rfl) ?_
      refine LW.pure rfl rfl (RV.move rfl) ?_
      refine LW.nil (hK8 _ _ ?_)
      refine CW.block ?_
      replace H := H.nilOwn 26 3
      replace R0 := H.ext
      replace H := H.pick (L' := [.own none 0 26 3 (List.map encBound (([] : List Bound))), .blk b1 24 [.int .i64 a0.layers, .slice A_a0_bounds a0.bounds.length c_a0_bounds], .blk b2 24 [.int .i64 0, .slice none 0 0], .blk b3 24 [.int .i64 a0.layers, .slice none 0 0]]) [0, 3, 2, 1] (by decide) rfl
      replace R0 := H.ext
      replace H := H.cast (L' := [.own none 0 26 3 (List.map encBound (([] : List Bound))), .blk b1 24 [.int .i64 a0.layers, .slice A_a0_bounds a0.bounds.length c_a0_bounds], .blk b2 24 [.int .i64 0, .slice none 0 0], .blk b3 24 [.int .i64 a0.layers, .slice none ((([] : List Bound)).length) 0]]) (by first | rfl | (simp only [List.length_set]; done) | simp)
      refine CW.loop (fun meas ρ wl2 => ∃ (t23_1 : Int) (l2 : List Bound) (Al2 : Option Addr) (cl2 : Nat), core_Shift_L1 a0 a1 meas t23_1 l2 = some res ∧ ρ = [(1, .slice A_a1 a1.length c_a1), (2, .pointer (some (⟨b1, 0, none⟩))), (4, .pointer (some (⟨b2, 0, none⟩))), (5, .int .i64 0), (7, .pointer (some (⟨b3, 0, none⟩))), (21, .slice A_a0_bounds a0.bounds.length c_a0_bounds), (22, .int .i64 ((a0.bounds.length : Int))), (23, .int .i64 t23_1)] ∧ Hp w wl2 [.own Al2 cl2 26 3 (List.map encBound l2), .blk b1 24 [.int .i64 a0.layers, .slice A_a0_bounds a0.bounds.length c_a0_bounds], .blk b2 24 [.int .i64 0, .slice none 0 0], .blk b3 24 [.int .i64 a0.layers, .slice Al2 l2.length cl2]]) FU ⟨_, ?_, ((0 : Int)), (([] : List Bound)), none, 0, F, rfl, H⟩ ?_
      · exact ⟨rfl, rfl, rfl, rfl, rfl, rfl, rfl, rfl, trivial⟩
      rintro mk1 _ wl2 ⟨t23_1, l2, Al2, cl2, F, rfl, H⟩
      have R0 := H.ext
      replace F := core_Shift_L1_s F
      obtain ⟨mk1, rfl, F⟩ := F
      generalize hrec1 : core_Shift_L1 a0 a1 mk1 = rec1 at F
      unfold core_Shift_B1 at F
      refine CW.seq fun K9 hK9 => ?_
      refine CW.region ?_
      refine LW.pure rfl rfl (RV.lss rfl rfl) ?_
      refine LW.nil (hK9 _ _ ?_)
      refine CW.seq fun K10 hK10 => ?_
      by_cases hp2 : t23_1 < ((a0.bounds.length : Int))
      ·
        replace F := ite_y hp2 F
        have hq2 := dec_t hp2
        refine CW.condT rfl hq2 ?_
        refine CW.skip (hK10 _ _ ?_)
        refine CW.seq fun K11 hK11 => ?_
        refine CW.block ?_
        refine CW.seq fun K12 hK12 => ?_
        obtain ⟨x1, hbx1, hx1, F⟩ := ix_some F
        refine CW.region ?_
        refine LW.pure rfl rfl (RV.indexAddr Ts22 rfl rfl hbx1 (h_a0_bounds.addr_ hx1)) ?_
        refine LW.pure rfl rfl (RV.loadA [.int .i64 x1.a, .int .i64 x1.b, .int .i64 x1.most] Tk26 rfl ((h_a0_bounds.at_ hx1).ext R0) rfl rfl) ?_
        refine LW.go rfl rfl (OW.alloc Tz26 fun b4 w7 N4 => ?_)
        replace H := H.new N4 N4.blk
        replace R0 := H.ext
        refine LW.go rfl rfl (OW.store Tk26 rfl rfl (H.blk 0 rfl) (off := 0) (vs := [.int .i64 x1.a, .int .i64 x1.b, .int .i64 x1.most]) rfl rfl rfl rfl rfl fun w8 S3 => ?_)
        replace H : Hp w w8 [.blk b4 26 [.int .i64 x1.a, .int .i64 x1.b, .int .i64 x1.most], .own Al2 cl2 26 3 (List.map encBound l2), .blk b1 24 [.int .i64 a0.layers, .slice A_a0_bounds a0.bounds.length c_a0_bounds], .blk b2 24 [.int .i64 0, .slice none 0 0], .blk b3 24 [.int .i64 a0.layers, .slice Al2 l2.length cl2]] := H.stored 0 rfl S3
        replace R0 := H.ext
        refine LW.nil (hK12 _ _ ?_)
        refine CW.seq fun K13 hK13 => ?_
        obtain ⟨x2, hbx2, hx2, F⟩ := ix_some F
        obtain ⟨x3, hbx3, hx3, F⟩ := ix_some F
        obtain ⟨hg1, F⟩ := gd_some F
        obtain ⟨hg2, F⟩ := gd_some F
        refine CW.draw [15] (fun _ => True) (.cons 0 1 (.cons 1 1 (.cons 2 1 (.cons 3 1 (.cons 4 1 (.cons 5 1 (.cons 6 1 (.cons 7 1 (.cons 8 1 (.cons 9 1 (.cons 10 1 (.cons 11 1 (.cons 12 1 (.cons 13 1 (.cons 14 1 (.cons 15 0 .nil)))))))))))))))) mixed (by kernel_rfl) fun w9 E2 => ?_
        replace H := H.grow E2
        replace R0 := H.ext
        refine DW.fix rfl rfl rfl (fun _ EQ => RV.fieldAddr Tf26_2 rfl) ?_
        refine DW.fix rfl rfl rfl (fun _ EQ => RV.load1 Tk3 rfl (((H.grow EQ).blk 0 rfl).cells.off 2) rfl) ?_
        refine DW.fix rfl rfl rfl (fun _ EQ => RV.move rfl) ?_
        refine DW.fix rfl rfl rfl (fun _ EQ => RV.fieldAddr Tf26_1 rfl) ?_
        refine DW.fix rfl rfl rfl (fun _ EQ => RV.load1 Tk3 rfl (((H.grow EQ).blk 0 rfl).cells.off 1) rfl) ?_
        refine DW.fix rfl rfl rfl (fun _ EQ => RV.indexAddr Ts43 rfl rfl hbx2 (h_a1.addr_ hx2)) ?_
        refine DW.fix rfl rfl rfl (fun _ EQ => RV.load1 Tk3 rfl ((h_a1.at_ hx2).ext (R0.trans EQ)) rfl) ?_
        refine DW.fix rfl rfl rfl (fun _ EQ => RV.move rfl) ?_
        refine DW.fix rfl rfl rfl (fun _ EQ => RV.fieldAddr Tf26_0 rfl) ?_
        refine DW.fix rfl rfl rfl (fun _ EQ => RV.load1 Tk3 rfl (((H.grow EQ).blk 0 rfl).cells.off 0) rfl) ?_
        refine DW.fix rfl rfl rfl (fun _ EQ => RV.indexAddr Ts43 rfl rfl hbx3 (h_a1.addr_ hx3)) ?_
        refine DW.fix rfl rfl rfl (fun _ EQ => RV.load1 Tk3 rfl ((h_a1.at_ hx3).ext (R0.trans EQ)) rfl) ?_
        refine DW.fix rfl rfl rfl (fun _ EQ => RV.sub rfl rfl hg1) ?_
        refine DW.fix rfl rfl rfl (fun _ EQ => RV.add rfl rfl hg2) ?_
        refine DW.fix rfl rfl rfl (fun _ EQ => RV.fieldAddr Tf26_2 rfl) ?_
        refine DW.sole rfl rfl rfl (OW.store Tk3 rfl rfl (H.blk 0 rfl) (off := 2) (vs := [.int .i64 (x1.most + (x2 - x3))]) rfl rfl rfl rfl rfl fun w10 S4 => ?_)
        refine ⟨fun h => absurd h (by decide), S4.modx trivial, ?_⟩
        replace H : Hp w w10 [.blk b4 26 [.int .i64 x1.a, .int .i64 x1.b, .int .i64 (x1.most + (x2 - x3))], .own Al2 cl2 26 3 (List.map encBound l2), .blk b1 24 [.int .i64 a0.layers, .slice A_a0_bounds a0.bounds.length c_a0_bounds], .blk b2 24 [.int .i64 0, .slice none 0 0], .blk b3 24 [.int .i64 a0.layers, .slice Al2 l2.length cl2]] := H.stored 0 rfl S4
        replace R0 := H.ext
        refine DW.nil (hK13 _ _ ?_)
        refine CW.seq fun K14 hK14 => ?_
        refine CW.seq fun K15 hK15 => ?_
        obtain ⟨r1, hr1, F⟩ := bnd_some F
        refine CW.region ?_
        refine LW.pure rfl rfl (RV.loadA [.int .i64 x1.a, .int .i64 x1.b, .int .i64 (x1.most + (x2 - x3))] Tk26 rfl (H.blk 0 rfl).cells rfl rfl) ?_
        refine LW.pure rfl rfl (RV.fieldAddr Tf24_0 rfl) ?_
        refine LW.pure rfl rfl (RV.load1 Tk3 rfl ((H.blk 2 rfl).cells.off 0) rfl) ?_
        refine LW.go rfl rfl (OW.call Tc59 rfl (core_right_ok (a0 := (⟨x1.a, x1.b, x1.most + (x2 - x3)⟩ : Bound)) (a1 := a0.layers) hr1) ?_)
        rintro _ w11 ⟨rfl, E3⟩
        refine ⟨_, rfl, ?_⟩
        replace H := H.grow E3
        replace R0 := H.ext
        refine LW.pure rfl rfl (RV.not rfl) ?_
        refine LW.nil (hK15 _ _ ?_)
        by_cases hp3 : r1 = true
        ·
          replace F := ite_y hp3 F
          have hq3 : r1 = true := hp3
          refine CW.condF rfl (not_f hq3) ?_
          refine CW.skip (hK14 _ _ ?_)
          obtain ⟨hg3, F⟩ := gd_some F
          refine CW.region ?_
          refine LW.pure rfl rfl (RV.fieldAddr Tf24_1 rfl) ?_
          refine LW.pure rfl rfl (RV.load1 Tk22 rfl ((H.blk 4 rfl).cells.off 1) rfl) ?_
          refine LW.pure rfl rfl (RV.loadA [.int .i64 x1.a, .int .i64 x1.b, .int .i64 (x1.most + (x2 - x3))] Tk26 rfl (H.blk 0 rfl).cells rfl rfl) ?_
          refine LW.go rfl rfl (OW.buildSlice (e := 26) (vs := [.agg #[.int .i64 x1.a, .int .i64 x1.b, .int .i64 (x1.most + (x2 - x3))]]) (cs := [.int .i64 x1.a, .int .i64 x1.b, .int .i64 (x1.most + (x2 - x3))]) rfl (fun _ => by kernel_rfl) fun b5 w12 N5 => ?_)
          replace H := H.made' (k := 3) (t := 26) (enc := encBound) (l := ([(⟨x1.a, x1.b, x1.most + (x2 - x3)⟩ : Bound)] : List Bound)) N5 N5.blk (fun _ => rfl) rfl (by first | decide | omega | (simp; done) | (simp; omega))
          replace R0 := H.ext
          refine LW.go rfl rfl (OW.appendG (enc := encBound) (l := l2) (xs := ([(⟨x1.a, x1.b, x1.most + (x2 - x3)⟩ : Bound)] : List Bound)) Ts22 rfl (look_slice rfl (by first | rfl | (simp; done) | (simp; omega))) (H.own 2 rfl) (H.own 0 rfl).sl (fun _ => rfl) rfl rfl hg3 (by decide) fun A1 c1 w13 O1 M1 D1 => ?_)
          replace H : Hp w w13 [.own (some ⟨b5, 0, none⟩) ((([(⟨x1.a, x1.b, x1.most + (x2 - x3)⟩ : Bound)] : List Bound)).length) 26 3 (List.map encBound (([(⟨x1.a, x1.b, x1.most + (x2 - x3)⟩ : Bound)] : List Bound))), .blk b4 26 [.int .i64 x1.a, .int .i64 x1.b, .int .i64 (x1.most + (x2 - x3))], .own A1 c1 26 3 (List.map encBound ((l2 ++ ([(⟨x1.a, x1.b, x1.most + (x2 - x3)⟩ : Bound)] : List Bound)))), .blk b1 24 [.int .i64 a0.layers, .slice A_a0_bounds a0.bounds.length c_a0_bounds], .blk b2 24 [.int .i64 0, .slice none 0 0], .blk b3 24 [.int .i64 a0.layers, .slice Al2 l2.length cl2]] := H.mod 2 rfl M1 O1 D1
          replace R0 := H.ext
          refine LW.pure rfl rfl (RV.fieldAddr Tf24_1 rfl) ?_
          refine LW.go rfl rfl (OW.store Tk22 rfl rfl (H.blk 5 rfl) (off := 1) (vs := [.slice A1 (((l2 ++ ([(⟨x1.a, x1.b, x1.most + (x2 - x3)⟩ : Bound)] : List Bound))).length) c1]) rfl rfl rfl rfl rfl fun w14 S5 => ?_)
          replace H : Hp w w14 [.own (some ⟨b5, 0, none⟩) ((([(⟨x1.a, x1.b, x1.most + (x2 - x3)⟩ : Bound)] : List Bound)).length) 26 3 (List.map encBound (([(⟨x1.a, x1.b, x1.most + (x2 - x3)⟩ : Bound)] : List Bound))), .blk b4 26 [.int .i64 x1.a, .int .i64 x1.b, .int .i64 (x1.most + (x2 - x3))], .own A1 c1 26 3 (List.map encBound ((l2 ++ ([(⟨x1.a, x1.b, x1.most + (x2 - x3)⟩ : Bound)] : List Bound)))), .blk b1 24 [.int .i64 a0.layers, .slice A_a0_bounds a0.bounds.length c_a0_bounds], .blk b2 24 [.int .i64 0, .slice none 0 0], .blk b3 24 [.int .i64 a0.layers, .slice A1 (((l2 ++ ([(⟨x1.a, x1.b, x1.most + (x2 - x3)⟩ : Bound)] : List Bound))).length) c1]] := H.stored 5 rfl S5
          replace R0 := H.ext
          refine LW.nil (hK11 _ _ ?_)
          obtain ⟨hg4, F⟩ := gd_some F
          refine CW.region ?_
          refine LW.pure rfl rfl (RV.add rfl rfl hg4) ?_
          refine LW.pure rfl rfl (RV.move rfl) ?_
          refine LW.nil ?_
          replace H := H.pick (L' := [.own A1 c1 26 3 (List.map encBound ((l2 ++ ([(⟨x1.a, x1.b, x1.most + (x2 - x3)⟩ : Bound)] : List Bound)))), .blk b1 24 [.int .i64 a0.layers, .slice A_a0_bounds a0.bounds.length c_a0_bounds], .blk b2 24 [.int .i64 0, .slice none 0 0], .blk b3 24 [.int .i64 a0.layers, .slice A1 (((l2 ++ ([(⟨x1.a, x1.b, x1.most + (x2 - x3)⟩ : Bound)] : List Bound))).length) c1]]) [2, 3, 4, 5] (by decide) rfl
          replace R0 := H.ext
          subst hrec1
          refine ⟨mk1, Nat.lt_succ_self _, _, ?_, (t23_1 + 1), ((l2 ++ ([(⟨x1.a, x1.b, x1.most + (x2 - x3)⟩ : Bound)] : List Bound))), A1, c1, F, rfl, H⟩
          exact ⟨rfl, rfl, rfl, rfl, rfl, rfl, rfl, rfl, trivial⟩
        ·
          replace F := ite_n hp3 F
          have hq3 : r1 = false := raw_f hp3
          refine CW.condT rfl (not_t hq3) ?_
          refine CW.seq fun K16 hK16 => ?_
          refine CW.region ?_
          refine LW.pure rfl rfl (RV.build (vs := []) (cs := [.int .i64 0, .slice none 0 0]) rfl (fun _ => by kernel_rfl)) ?_
          refine LW.go rfl rfl (OW.store Tk24 rfl rfl (H.blk 3 rfl) (off := 0) (vs := [.int .i64 0, .slice none 0 0]) rfl rfl rfl rfl rfl fun w15 S6 => ?_)
          replace H : Hp w w15 [.blk b4 26 [.int .i64 x1.a, .int .i64 x1.b, .int .i64 (x1.most + (x2 - x3))], .own Al2 cl2 26 3 (List.map encBound l2), .blk b1 24 [.int .i64 a0.layers, .slice A_a0_bounds a0.bounds.length c_a0_bounds], .blk b2 24 [.int .i64 0, .slice none 0 0], .blk b3 24 [.int .i64 a0.layers, .slice Al2 l2.length cl2]] := H.stored 3 rfl S6
          replace R0 := H.ext
          refine LW.pure rfl rfl (RV.assign rfl) ?_
          refine LW.nil (hK16 _ _ ?_)
          refine CW.ret ?_
          obtain rfl := Option.some.inj F
          refine ⟨_, (ResOK.two ⟨_, rfl, run_loadVar_agg Tk24 (H.blk 3 rfl).cells (us := [.int .i64 0, .slice none 0 0]) rfl rfl⟩ rfl), ?_⟩
          replace H := H.nilOwn 26 3
          replace R0 := H.ext
          replace H := H.pick (L' := [.own none 0 26 3 (List.map encBound (([] : List Bound)))]) [0] (by decide) rfl
          replace R0 := H.ext
          exact ⟨none, 0, (by first | rfl | (simp; done) | (simp; omega)), H⟩
      ·
        replace F := ite_n hp2 F
        have hq2 := dec_f hp2
        refine CW.condF rfl hq2 ?_
        replace H := H.pick (L' := [.own Al2 cl2 26 3 (List.map encBound l2), .blk b2 24 [.int .i64 0, .slice none 0 0], .blk b3 24 [.int .i64 a0.layers, .slice Al2 l2.length cl2]]) [0, 2, 3] (by decide) rfl
        replace R0 := H.ext
        refine CW.exit (jK90 _ _ ⟨_, ?_, ⟨l2, Al2, cl2, F, rfl, H⟩⟩)
        exact ⟨rfl, rfl, rfl, trivial⟩
  ·
    replace F := ite_n hp1 F
    have hq1 := dec_f hp1
    refine CW.condT rfl (not_t hq1) ?_
    refine CW.seq fun K17 hK17 => ?_
    refine CW.region ?_
    refine LW.pure rfl rfl (RV.build (vs := []) (cs := [.int .i64 0, .slice none 0 0]) rfl (fun _ => by kernel_rfl)) ?_
    refine LW.pure rfl rfl (RV.move rfl) ?_
    refine LW.go rfl rfl (OW.store Tk24 rfl rfl (H.blk 0 rfl) (off := 0) (vs := [.int .i64 0, .slice none 0 0]) rfl rfl rfl rfl rfl fun w16 S7 => ?_)
    replace H : Hp w w16 [.blk b2 24 [.int .i64 0, .slice none 0 0], .blk b1 24 [.int .i64 a0.layers, .slice A_a0_bounds a0.bounds.length c_a0_bounds]] := H.stored 0 rfl S7
    replace R0 := H.ext
    refine LW.pure rfl rfl (RV.assign rfl) ?_
    refine LW.nil (hK17 _ _ ?_)
    refine CW.ret ?_
    obtain rfl := Option.some.inj F
    refine ⟨_, (ResOK.two ⟨_, rfl, run_loadVar_agg Tk24 (H.blk 0 rfl).cells (us := [.int .i64 0, .slice none 0 0]) rfl rfl⟩ rfl), ?_⟩
    replace H := H.nilOwn 26 3
    replace R0 := H.ext
    replace H := H.pick (L' := [.own none 0 26 3 (List.map encBound (([] : List Bound)))]) [0] (by decide) rfl
    replace R0 := H.ext
    exact ⟨none, 0, (by first | rfl | (simp; done) | (simp; omega)), H⟩

set_option maxRecDepth 20000 in
set_option maxHeartbeats 1000000 in
theorem ref03_Shift_ok {a0 : Core} {a1 : List Int} {A_a0_bounds : Option Addr} {c_a0_bounds : Nat} {A_a1 : Option Addr} {c_a1 : Nat} {w : World} {res : Core × Int} (h_a0_bounds : Sl w A_a0_bounds c_a0_bounds 3 (a0.bounds.map encBound)) (h_a1 : Sl w A_a1 c_a1 1 (a1.map encN)) (F : ref03_Shift a0 a1 = some res) : Calls Try.prog 44 #[.agg #[.int .i64 a0.layers, .slice A_a0_bounds a0.bounds.length c_a0_bounds], .slice A_a1 a1.length c_a1] w (fun e w' => ∃ (A0_bounds : Option Addr) (c0_bounds : Nat), e = .returned (.tuple #[.agg #[.int .i64 res.1.layers, .slice A0_bounds res.1.bounds.length c0_bounds], .int .i64 res.2]) ∧ Hp w w' [.own A0_bounds c0_bounds 26 3 (List.map encBound res.1.bounds)]) := by
  refine calls_of_cw (args := [.agg #[.int .i64 a0.layers, .slice A_a0_bounds a0.bounds.length c_a0_bounds], .slice A_a1 a1.length c_a1]) Try.func44 rfl rfl rfl rfl ?_
  have H := Hp.start w
  have R0 := H.ext
  unfold ref03_Shift at F
  refine CW.seq fun K1 hK1 => ?_
  refine CW.region ?_
  refine LW.go rfl rfl (OW.box rfl fun b1 w1 N1 => ?_)
  replace H := H.new N1 N1.blk
  replace R0 := H.ext
  refine LW.go rfl rfl (OW.alloc Tz24 fun b2 w2 N2 => ?_)
  replace H := H.new N2 N2.blk
  replace R0 := H.ext
  refine LW.pure rfl rfl (RV.assign rfl) ?_
  refine LW.nil (hK1 _ _ ?_)
  refine CW.seq fun K2 hK2 => ?_
  refine CW.seq fun K3 hK3 => ?_
  obtain ⟨r3, hr3, F⟩ := bnd_some F
  refine CW.region ?_
  refine LW.pure rfl rfl (RV.loadA [.int .i64 a0.layers, .slice A_a0_bounds a0.bounds.length c_a0_bounds] Tk24 rfl (H.blk 1 rfl).cells rfl rfl) ?_
  refine LW.go rfl rfl (OW.call Tc37 rfl (ref03_Validate_ok (a0 := a0) (h_a0_bounds.ext R0) hr3) ?_)
  rintro _ w3 ⟨rfl, E1⟩
  refine ⟨_, rfl, ?_⟩
  replace H := H.grow E1
  replace R0 := H.ext
  refine LW.pure rfl rfl (RV.assign rfl) ?_
  refine LW.nil (hK3 _ _ ?_)
  refine CW.seq fun K4 hK4 => ?_
  refine CW.region ?_
  refine LW.pure rfl rfl (RV.move rfl) ?_
  refine LW.pure rfl rfl (RV.nei rfl rfl) ?_
  refine LW.nil (hK4 _ _ ?_)
  by_cases hp1 : r3 = 0
  ·
    replace F := ite_y hp1 F
    have hq1 := dec_t hp1
    refine CW.condF rfl (not_f hq1) ?_
    refine CW.skip (hK2 _ _ ?_)
    refine CW.seq fun K5 hK5 => ?_
    refine CW.seq fun K6 hK6 => ?_
    obtain ⟨r4, hr4, F⟩ := bnd_some F
    refine CW.region ?_
    refine LW.pure rfl rfl (RV.loadA [.int .i64 a0.layers, .slice A_a0_bounds a0.bounds.length c_a0_bounds] Tk24 rfl (H.blk 1 rfl).cells rfl rfl) ?_
    refine LW.pure rfl rfl (RV.move rfl) ?_
    refine LW.go rfl rfl (OW.call Tc71 rfl (ref03_isDates_ok (a0 := a0) (a1 := a1) (h_a0_bounds.ext R0) (h_a1.ext R0) hr4) ?_)
    rintro _ w4 ⟨rfl, E2⟩
    refine ⟨_, rfl, ?_⟩
    replace H := H.grow E2
    replace R0 := H.ext
    refine LW.pure rfl rfl (RV.not rfl) ?_
    refine LW.nil (hK6 _ _ ?_)
    by_cases hp2 : r4 = true
    ·
      replace F := ite_y hp2 F
      have hq2 : r4 = true := hp2
      refine CW.condF rfl (not_f hq2) ?_
      refine CW.skip (hK5 _ _ ?_)
      refine CW.seq fun K7 hK7 => ?_
      obtain ⟨r1, hr1, F⟩ := bnd_some F
      refine CW.region ?_
      refine LW.pure rfl rfl (RV.loadA [.int .i64 a0.layers, .slice A_a0_bounds a0.bounds.length c_a0_bounds] Tk24 rfl (H.blk 1 rfl).cells rfl rfl) ?_
      refine LW.go rfl rfl (OW.call Tc55 rfl (ref03_Copy_ok (a0 := a0) (h_a0_bounds.ext R0) hr1) ?_)
      rintro _ w5 ⟨A10_0_bounds, c10_0_bounds, rfl, E3⟩
      refine ⟨_, rfl, ?_⟩
      replace H : Hp w w5 [.own A10_0_bounds c10_0_bounds 26 3 (List.map encBound r1.bounds), .blk b2 24 [.int .i64 0, .slice none 0 0], .blk b1 24 [.int .i64 a0.layers, .slice A_a0_bounds a0.bounds.length c_a0_bounds]] := H.append E3
      replace R0 := H.ext
      refine LW.go rfl rfl (OW.alloc Tz24 fun b3 w6 N3 => ?_)
      replace H := H.new N3 N3.blk
      replace R0 := H.ext
      refine LW.go rfl rfl (OW.store Tk24 rfl rfl (H.blk 0 rfl) (off := 0) (vs := [.int .i64 r1.layers, .slice A10_0_bounds r1.bounds.length c10_0_bounds]) rfl rfl rfl rfl rfl fun w7 S1 => ?_)
      replace H : Hp w w7 [.blk b3 24 [.int .i64 r1.layers, .slice A10_0_bounds r1.bounds.length c10_0_bounds], .own A10_0_bounds c10_0_bounds 26 3 (List.map encBound r1.bounds), .blk b2 24 [.int .i64 0, .slice none 0 0], .blk b1 24 [.int .i64 a0.layers, .slice A_a0_bounds a0.bounds.length c_a0_bounds]] := H.stored 0 rfl S1
      replace R0 := H.ext
      refine LW.nil (hK7 _ _ ?_)
      refine CW.seqJ (fun ρ wl1 => (∃ (l1 : List Bound), ref03_Shift_k1 r1 l1 = some res ∧ ρ = [(4, .pointer (some (⟨b2, 0, none⟩))), (5, .int .i64 0), (7, .pointer (some (⟨b3, 0, none⟩)))] ∧ Hp w wl1 [.own A10_0_bounds c10_0_bounds 26 3 (List.map encBound l1), .blk b2 24 [.int .i64 0, .slice none 0 0], .blk b3 24 [.int .i64 r1.layers, .slice A10_0_bounds l1.length c10_0_bounds]])) ?_ ?_
      ·
        rintro _ wl1 ⟨l1, F, rfl, H⟩
        have R0 := H.ext
        unfold ref03_Shift_k1 at F
        refine CW.seq fun K8 hK8 => ?_
        refine CW.seq fun K9 hK9 => ?_
        obtain ⟨r2, hr2, F⟩ := bnd_some F
        refine CW.region ?_
        refine LW.pure rfl rfl (RV.loadA [.int .i64 r1.layers, .slice A10_0_bounds l1.length c10_0_bounds] Tk24 rfl (H.blk 2 rfl).cells rfl rfl) ?_
        refine LW.go rfl rfl (OW.call Tc37 rfl (ref03_Validate_ok (a0 := (⟨r1.layers, l1⟩ : Core)) (H.own 0 rfl).sl hr2) ?_)
        rintro _ w8 ⟨rfl, E4⟩
        refine ⟨_, rfl, ?_⟩
        replace H := H.grow E4
        replace R0 := H.ext
        refine LW.pure rfl rfl (RV.nei rfl rfl) ?_
        refine LW.nil (hK9 _ _ ?_)
        by_cases hp3 : r2 = 0
        ·
          replace F := ite_y hp3 F
          have hq3 := dec_t hp3
          refine CW.condF rfl (not_f hq3) ?_
          refine CW.skip (hK8 _ _ ?_)
          refine CW.seq fun K10 hK10 => ?_
          refine CW.region ?_
          refine LW.pure rfl rfl (RV.loadA [.int .i64 r1.layers, .slice A10_0_bounds l1.length c10_0_bounds] Tk24 rfl (H.blk 2 rfl).cells rfl rfl) ?_
          refine LW.go rfl rfl (OW.store Tk24 rfl rfl (H.blk 1 rfl) (off := 0) (vs := [.int .i64 r1.layers, .slice A10_0_bounds l1.length c10_0_bounds]) rfl rfl rfl rfl rfl fun w9 S2 => ?_)
          replace H : Hp w w9 [.own A10_0_bounds c10_0_bounds 26 3 (List.map encBound l1), .blk b2 24 [.int .i64 r1.layers, .slice A10_0_bounds l1.length c10_0_bounds], .blk b3 24 [.int .i64 r1.layers, .slice A10_0_bounds l1.length c10_0_bounds]] := H.stored 1 rfl S2
          replace R0 := H.ext
          refine LW.pure rfl rfl (RV.assign rfl) ?_
          refine LW.nil (hK10 _ _ ?_)
          refine CW.ret ?_
          obtain rfl := Option.some.inj F
          refine ⟨_, (ResOK.two ⟨_, rfl, run_loadVar_agg Tk24 (H.blk 1 rfl).cells (us := [.int .i64 r1.layers, .slice A10_0_bounds l1.length c10_0_bounds]) rfl rfl⟩ rfl), ?_⟩
          replace H := H.pick (L' := [.own A10_0_bounds c10_0_bounds 26 3 (List.map encBound l1)]) [0] (by decide) rfl
          replace R0 := H.ext
          exact ⟨A10_0_bounds, c10_0_bounds, (by first | rfl | (simp; done) | (simp; omega)), H⟩
        ·
          replace F := ite_n hp3 F
          have hq3 := dec_f hp3
          refine CW.condT rfl (not_t hq3) ?_
          refine CW.seq fun K11 hK11 => ?_
          refine CW.region ?_
          refine LW.pure rfl rfl (RV.build (vs := []) (cs := [.int .i64 0, .slice none 0 0]) rfl (fun _ => by kernel_rfl)) ?_
          refine LW.go rfl rfl (OW.store Tk24 rfl rfl (H.blk 1 rfl) (off := 0) (vs := [.int .i64 0, .slice none 0 0]) rfl rfl rfl rfl rfl fun w10 S3 => ?_)
          replace H : Hp w w10 [.own A10_0_bounds c10_0_bounds 26 3 (List.map encBound l1), .blk b2 24 [.int .i64 0, .slice none 0 0], .blk b3 24 [.int .i64 r1.layers, .slice A10_0_bounds l1.length c10_0_bounds]] := H.stored 1 rfl S3
          replace R0 := H.ext
          refine LW.pure rfl rfl (RV.assign rfl) ?_
          refine LW.nil (hK11 _ _ ?_)
          refine CW.ret ?_
          obtain rfl := Option.some.inj F
          refine ⟨_, (ResOK.two ⟨_, rfl, run_loadVar_agg Tk24 (H.blk 1 rfl).cells (us := [.int .i64 0, .slice none 0 0]) rfl rfl⟩ rfl), ?_⟩
          replace H := H.nilOwn 26 3
          replace R0 := H.ext
          replace H := H.pick (L' := [.own none 0 26 3 (List.map encBound (([] : List Bound)))]) [0] (by decide) rfl
          replace R0 := H.ext
          exact ⟨none, 0, (by first | rfl | (simp; done) | (simp; omega)), H⟩
      ·
        intro K12 hK12 jK65
        refine CW.seq fun K13 hK13 => ?_
        refine CW.region ?_
        refine LW.pure rfl rfl (RV.assign rfl) ?_
        refine LW.nil (hK13 _ _ ?_)
        refine CW.block ?_
        replace H := H.pick (L' := [.own A10_0_bounds c10_0_bounds 26 3 (List.map encBound r1.bounds), .blk b2 24 [.int .i64 0, .slice none 0 0], .blk b3 24 [.int .i64 r1.layers, .slice A10_0_bounds r1.bounds.length c10_0_bounds]]) [1, 2, 0] (by decide) rfl
        replace R0 := H.ext
        refine CW.loop (fun meas ρ wl2 => ∃ (t8_1 : Int) (l2 : List Bound), ref03_Shift_L1 a1 r1 meas t8_1 l2 = some res ∧ ρ = [(1, .slice A_a1 a1.length c_a1), (4, .pointer (some (⟨b2, 0, none⟩))), (5, .int .i64 0), (7, .pointer (some (⟨b3, 0, none⟩))), (8, .int .i64 t8_1)] ∧ Hp w wl2 [.own A10_0_bounds c10_0_bounds 26 3 (List.map encBound l2), .blk b2 24 [.int .i64 0, .slice none 0 0], .blk b3 24 [.int .i64 r1.layers, .slice A10_0_bounds l2.length c10_0_bounds]]) FU ⟨_, ?_, ((0 : Int)), r1.bounds, F, rfl, H⟩ ?_
        · exact ⟨rfl, rfl, rfl, rfl, rfl, trivial⟩
        rintro mk1 _ wl2 ⟨t8_1, l2, F, rfl, H⟩
        have R0 := H.ext
        replace F := ref03_Shift_L1_s F
        obtain ⟨mk1, rfl, F⟩ := F
        generalize hrec1 : ref03_Shift_L1 a1 r1 mk1 = rec1 at F
        unfold ref03_Shift_B1 at F
        refine CW.seq fun K14 hK14 => ?_
        refine CW.seq fun K15 hK15 => ?_
        refine CW.region ?_
        refine LW.pure rfl rfl (RV.move rfl) ?_
        refine LW.pure rfl rfl (RV.fieldAddr Tf24_1 rfl) ?_
        refine LW.pure rfl rfl (RV.load1 Tk22 rfl ((H.blk 2 rfl).cells.off 1) rfl) ?_
        refine LW.pure rfl rfl (RV.len Ts22 rfl) ?_
        refine LW.pure rfl rfl (RV.lss rfl rfl) ?_
        refine LW.nil (hK15 _ _ ?_)
        by_cases hp4 : t8_1 < ((l2.length : Int))
        ·
          replace F := ite_y hp4 F
          have hq4 := dec_t hp4
          refine CW.condT rfl hq4 ?_
          refine CW.skip (hK14 _ _ ?_)
          refine CW.seq fun K16 hK16 => ?_
          refine CW.block ?_
          refine CW.seq fun K17 hK17 => ?_
          obtain ⟨x1, hbx1, hx1, F⟩ := ix_some F
          refine CW.region ?_
          refine LW.pure rfl rfl (RV.fieldAddr Tf24_1 rfl) ?_
          refine LW.pure rfl rfl (RV.load1 Tk22 rfl ((H.blk 2 rfl).cells.off 1) rfl) ?_
          refine LW.pure rfl rfl (RV.move rfl) ?_
          refine LW.pure rfl rfl (RV.indexAddr Ts22 rfl rfl hbx1 ((H.own 0 rfl).sl.addr_ hx1)) ?_
          refine LW.pure rfl rfl (RV.loadA [.int .i64 x1.a, .int .i64 x1.b, .int .i64 x1.most] Tk26 rfl ((H.own 0 rfl).sl.at_ hx1) rfl rfl) ?_
          refine LW.go rfl rfl (OW.alloc Tz26 fun b4 w11 N4 => ?_)
          replace H := H.new N4 N4.blk
          replace R0 := H.ext
          refine LW.go rfl rfl (OW.store Tk26 rfl rfl (H.blk 0 rfl) (off := 0) (vs := [.int .i64 x1.a, .int .i64 x1.b, .int .i64 x1.most]) rfl rfl rfl rfl rfl fun w12 S4 => ?_)
          replace H : Hp w w12 [.blk b4 26 [.int .i64 x1.a, .int .i64 x1.b, .int .i64 x1.most], .own A10_0_bounds c10_0_bounds 26 3 (List.map encBound l2), .blk b2 24 [.int .i64 0, .slice none 0 0], .blk b3 24 [.int .i64 r1.layers, .slice A10_0_bounds l2.length c10_0_bounds]] := H.stored 0 rfl S4
          replace R0 := H.ext
          refine LW.nil (hK17 _ _ ?_)
          obtain ⟨x2, hbx2, hx2, F⟩ := ix_some F
          obtain ⟨hg1, F⟩ := gd_some F
          obtain ⟨x3, hbx3, hx3, F⟩ := ix_some F
          obtain ⟨hg2, F⟩ := gd_some F
          obtain ⟨x4, hbx4, hx4, F⟩ := ix_some F
          refine CW.draw [19] (fun _ => True) (.cons 0 1 (.cons 1 1 (.cons 2 1 (.cons 3 1 (.cons 4 1 (.cons 5 1 (.cons 6 1 (.cons 7 1 (.cons 8 1 (.cons 9 1 (.cons 10 1 (.cons 11 1 (.cons 12 1 (.cons 13 1 (.cons 14 1 (.cons 15 1 (.cons 16 1 (.cons 17 2 (.cons 18 1 (.cons 19 0 .nil)))))))))))))))))))) mixed (by kernel_rfl) fun w13 E5 => ?_
          replace H := H.grow E5
          replace R0 := H.ext
          refine DW.fix rfl rfl rfl (fun _ EQ => RV.fieldAddr Tf24_1 rfl) ?_
          refine DW.fix rfl rfl rfl (fun _ EQ => RV.load1 Tk22 rfl (((H.grow EQ).blk 3 rfl).cells.off 1) rfl) ?_
          refine DW.fix rfl rfl rfl (fun _ EQ => RV.move rfl) ?_
          refine DW.fix rfl rfl rfl (fun _ EQ => RV.fieldAddr Tf26_2 rfl) ?_
          refine DW.fix rfl rfl rfl (fun _ EQ => RV.load1 Tk3 rfl (((H.grow EQ).blk 0 rfl).cells.off 2) rfl) ?_
          refine DW.fix rfl rfl rfl (fun _ EQ => RV.move rfl) ?_
          refine DW.fix rfl rfl rfl (fun _ EQ => RV.fieldAddr Tf26_1 rfl) ?_
          refine DW.fix rfl rfl rfl (fun _ EQ => RV.load1 Tk3 rfl (((H.grow EQ).blk 0 rfl).cells.off 1) rfl) ?_
          refine DW.fix rfl rfl rfl (fun _ EQ => RV.indexAddr Ts43 rfl rfl hbx2 (h_a1.addr_ hx2)) ?_
          refine DW.fix rfl rfl rfl (fun _ EQ => RV.load1 Tk3 rfl ((h_a1.at_ hx2).ext (R0.trans EQ)) rfl) ?_
          refine DW.fix rfl rfl rfl (fun _ EQ => RV.add rfl rfl hg1) ?_
          refine DW.fix rfl rfl rfl (fun _ EQ => RV.move rfl) ?_
          refine DW.fix rfl rfl rfl (fun _ EQ => RV.fieldAddr Tf26_0 rfl) ?_
          refine DW.fix rfl rfl rfl (fun _ EQ => RV.load1 Tk3 rfl (((H.grow EQ).blk 0 rfl).cells.off 0) rfl) ?_
          refine DW.fix rfl rfl rfl (fun _ EQ => RV.indexAddr Ts43 rfl rfl hbx3 (h_a1.addr_ hx3)) ?_
          refine DW.fix rfl rfl rfl (fun _ EQ => RV.load1 Tk3 rfl ((h_a1.at_ hx3).ext (R0.trans EQ)) rfl) ?_
          refine DW.fix rfl rfl rfl (fun _ EQ => RV.sub rfl rfl hg2) ?_
          refine DW.thru rfl rfl rfl (fun _ EQ => RV.indexAddr Ts22 rfl rfl hbx4 ((H.own 1 rfl).sl.addr_ hx4)) ?_
          refine DW.fix rfl rfl rfl (fun _ EQ => RV.fieldAddr Tf26_2 rfl) ?_
          refine DW.sole rfl rfl rfl (OW.storeO (enc := encBound) (vs := [.int .i64 ((x1.most + x2) - x3)]) 2 ((⟨x4.a, x4.b, (x1.most + x2) - x3⟩ : Bound)) Tk3 rfl rfl (H.own 1 rfl) (fun _ => rfl) rfl hx4 rfl rfl (by decide) rfl rfl fun w14 M1 O1 => ?_)
          refine ⟨fun h => absurd h (by decide), M1.modx (fun _ _ => trivial), ?_⟩
          replace H : Hp w w14 [.blk b4 26 [.int .i64 x1.a, .int .i64 x1.b, .int .i64 x1.most], .own A10_0_bounds c10_0_bounds 26 3 (List.map encBound ((l2.set (Int.toNat t8_1) ((⟨x4.a, x4.b, (x1.most + x2) - x3⟩ : Bound))))), .blk b2 24 [.int .i64 0, .slice none 0 0], .blk b3 24 [.int .i64 r1.layers, .slice A10_0_bounds l2.length c10_0_bounds]] := H.mod 1 rfl M1 O1 (.inl rfl)
          replace R0 := H.ext
          refine DW.nil (hK16 _ _ ?_)
          obtain ⟨hg3, F⟩ := gd_some F
          refine CW.region ?_
          refine LW.pure rfl rfl (RV.move rfl) ?_
          refine LW.pure rfl rfl (RV.add rfl rfl hg3) ?_
          refine LW.pure rfl rfl (RV.assign rfl) ?_
          refine LW.nil ?_
          replace H := H.pick (L' := [.own A10_0_bounds c10_0_bounds 26 3 (List.map encBound ((l2.set (Int.toNat t8_1) ((⟨x4.a, x4.b, (x1.most + x2) - x3⟩ : Bound))))), .blk b2 24 [.int .i64 0, .slice none 0 0], .blk b3 24 [.int .i64 r1.layers, .slice A10_0_bounds l2.length c10_0_bounds]]) [1, 2, 3] (by decide) rfl
          replace R0 := H.ext
          replace H := H.cast (L' := [.own A10_0_bounds c10_0_bounds 26 3 (List.map encBound ((l2.set (Int.toNat t8_1) ((⟨x4.a, x4.b, (x1.most + x2) - x3⟩ : Bound))))), .blk b2 24 [.int .i64 0, .slice none 0 0], .blk b3 24 [.int .i64 r1.layers, .slice A10_0_bounds (((l2.set (Int.toNat t8_1) ((⟨x4.a, x4.b, (x1.most + x2) - x3⟩ : Bound)))).length) c10_0_bounds]]) (by first | rfl | (simp only [List.length_set]; done) | simp)
          subst hrec1
          refine ⟨mk1, Nat.lt_succ_self _, _, ?_, (t8_1 + 1), ((l2.set (Int.toNat t8_1) ((⟨x4.a, x4.b, (x1.most + x2) - x3⟩ : Bound)))), F, rfl, H⟩
          exact ⟨rfl, rfl, rfl, rfl, rfl, trivial⟩
        ·
          replace F := ite_n hp4 F
          have hq4 := dec_f hp4
          refine CW.condF rfl hq4 ?_
          refine CW.exit (jK65 _ _ ⟨_, ?_, ⟨l2, F, rfl, H⟩⟩)
          exact ⟨rfl, rfl, rfl, trivial⟩
    ·
      replace F := ite_n hp2 F
      have hq2 : r4 = false := raw_f hp2
      refine CW.condT rfl (not_t hq2) ?_
      refine CW.seq fun K18 hK18 => ?_
      refine CW.region ?_
      refine LW.pure rfl rfl (RV.build (vs := []) (cs := [.int .i64 0, .slice none 0 0]) rfl (fun _ => by kernel_rfl)) ?_
      refine LW.go rfl rfl (OW.store Tk24 rfl rfl (H.blk 0 rfl) (off := 0) (vs := [.int .i64 0, .slice none 0 0]) rfl rfl rfl rfl rfl fun w15 S5 => ?_)
      replace H : Hp w w15 [.blk b2 24 [.int .i64 0, .slice none 0 0], .blk b1 24 [.int .i64 a0.layers, .slice A_a0_bounds a0.bounds.length c_a0_bounds]] := H.stored 0 rfl S5
      replace R0 := H.ext
      refine LW.pure rfl rfl (RV.assign rfl) ?_
      refine LW.nil (hK18 _ _ ?_)
      refine CW.ret ?_
      obtain rfl := Option.some.inj F
      refine ⟨_, (ResOK.two ⟨_, rfl, run_loadVar_agg Tk24 (H.blk 0 rfl).cells (us := [.int .i64 0, .slice none 0 0]) rfl rfl⟩ rfl), ?_⟩
      replace H := H.nilOwn 26 3
      replace R0 := H.ext
      replace H := H.pick (L' := [.own none 0 26 3 (List.map encBound (([] : List Bound)))]) [0] (by decide) rfl
      replace R0 := H.ext
      exact ⟨none, 0, (by first | rfl | (simp; done) | (simp; omega)), H⟩
  ·
    replace F := ite_n hp1 F
    have hq1 := dec_f hp1
    refine CW.condT rfl (not_t hq1) ?_
    refine CW.seq fun K19 hK19 => ?_
    refine CW.region ?_
    refine LW.pure rfl rfl (RV.build (vs := []) (cs := [.int .i64 0, .slice none 0 0]) rfl (fun _ => by kernel_rfl)) ?_
    refine LW.pure rfl rfl (RV.move rfl) ?_
    refine LW.go rfl rfl (OW.store Tk24 rfl rfl (H.blk 0 rfl) (off := 0) (vs := [.int .i64 0, .slice none 0 0]) rfl rfl rfl rfl rfl fun w16 S6 => ?_)
    replace H : Hp w w16 [.blk b2 24 [.int .i64 0, .slice none 0 0], .blk b1 24 [.int .i64 a0.layers, .slice A_a0_bounds a0.bounds.length c_a0_bounds]] := H.stored 0 rfl S6
    replace R0 := H.ext
    refine LW.pure rfl rfl (RV.assign rfl) ?_
    refine LW.nil (hK19 _ _ ?_)
    refine CW.ret ?_
    obtain rfl := Option.some.inj F
    refine ⟨_, (ResOK.two ⟨_, rfl, run_loadVar_agg Tk24 (H.blk 0 rfl).cells (us := [.int .i64 0, .slice none 0 0]) rfl rfl⟩ rfl), ?_⟩
    replace H := H.nilOwn 26 3
    replace R0 := H.ext
    replace H := H.pick (L' := [.own none 0 26 3 (List.map encBound (([] : List Bound)))]) [0] (by decide) rfl
    replace R0 := H.ext
    exact ⟨none, 0, (by first | rfl | (simp; done) | (simp; omega)), H⟩

set_option maxRecDepth 20000 in
set_option maxHeartbeats 1000000 in
theorem law03_CoreShifts_ok {a0 : Core} {a1 : List Int} {a2 : List Int} {A_a0_bounds : Option Addr} {c_a0_bounds : Nat} {A_a1 : Option Addr} {c_a1 : Nat} {A_a2 : Option Addr} {c_a2 : Nat} {w : World} {res : Bool} (h_a0_bounds : Sl w A_a0_bounds c_a0_bounds 3 (a0.bounds.map encBound)) (h_a1 : Sl w A_a1 c_a1 1 (a1.map encN)) (h_a2 : Sl w A_a2 c_a2 1 (a2.map encN)) (F : law03_CoreShifts a0 a1 a2 = some res) : Calls Try.prog 10 #[.agg #[.int .i64 a0.layers, .slice A_a0_bounds a0.bounds.length c_a0_bounds], .slice A_a1 a1.length c_a1, .slice A_a2 a2.length c_a2] w (Rt w (.bool res)) := by
  refine calls_of_cw (args := [.agg #[.int .i64 a0.layers, .slice A_a0_bounds a0.bounds.length c_a0_bounds], .slice A_a1 a1.length c_a1, .slice A_a2 a2.length c_a2]) Try.func10 rfl rfl rfl rfl ?_
  have H := Hp.start w
  have R0 := H.ext
  unfold law03_CoreShifts at F
  refine CW.seq fun K1 hK1 => ?_
  refine CW.region ?_
  refine LW.go rfl rfl (OW.box rfl fun b1 w1 N1 => ?_)
  replace H := H.new N1 N1.blk
  replace R0 := H.ext
  refine LW.pure rfl rfl (RV.assign rfl) ?_
  refine LW.nil (hK1 _ _ ?_)
  refine CW.seq fun K2 hK2 => ?_
  refine CW.seqJ (fun ρ wl1 => (∃ (t30_1 : Bool), law03_CoreShifts_k4 a0 a1 a2 t30_1 = some res ∧ ρ = [(1, .slice A_a1 a1.length c_a1), (2, .slice A_a2 a2.length c_a2), (3, .pointer (some (⟨b1, 0, none⟩))), (6, .bool false), (30, .bool t30_1)] ∧ Hp w wl1 [.blk b1 24 [.int .i64 a0.layers, .slice A_a0_bounds a0.bounds.length c_a0_bounds]])) ?_ ?_
  ·
    rintro _ wl1 ⟨t30_1, F, rfl, H⟩
    have R0 := H.ext
    unfold law03_CoreShifts_k4 at F
    by_cases hp1 : t30_1 = true
    ·
      replace F := ite_y hp1 F
      have hq1 : t30_1 = true := hp1
      refine CW.condT rfl hq1 ?_
      refine CW.seq fun K3 hK3 => ?_
      obtain ⟨r9, hr9, F⟩ := bnd_some F
      refine CW.region ?_
      refine LW.go rfl rfl (OW.call Tc18 rfl (law03_known_ok hr9) ?_)
      rintro _ w2 ⟨rfl, E1⟩
      refine ⟨_, rfl, ?_⟩
      replace H := H.grow E1
      replace R0 := H.ext
      refine LW.pure rfl rfl (RV.assign rfl) ?_
      refine LW.nil (hK3 _ _ ?_)
      refine CW.ret ?_
      obtain rfl := Option.some.inj F
      refine ⟨_, (ResOK.one rfl), ?_⟩
      refine ⟨(by first | rfl | simp), R0⟩
    ·
      replace F := ite_n hp1 F
      have hq1 : t30_1 = false := raw_f hp1
      refine CW.condF rfl hq1 ?_
      refine CW.skip (hK2 _ _ ?_)
      refine CW.seq fun K4 hK4 => ?_
      obtain ⟨r1, hr1, F⟩ := bnd_some F
      refine CW.region ?_
      refine LW.pure rfl rfl (RV.loadA [.int .i64 a0.layers, .slice A_a0_bounds a0.bounds.length c_a0_bounds] Tk24 rfl (H.blk 0 rfl).cells rfl rfl) ?_
      refine LW.pure rfl rfl (RV.move rfl) ?_
      refine LW.go rfl rfl (OW.call Tc43 rfl (core_Shift_ok (a0 := a0) (a1 := a1) (h_a0_bounds.ext R0) (h_a1.ext R0) hr1) ?_)
      rintro _ w3 ⟨A19_0_bounds, c19_0_bounds, rfl, E2⟩
      refine ⟨_, rfl, ?_⟩
      replace H : Hp w w3 [.own A19_0_bounds c19_0_bounds 26 3 (List.map encBound r1.1.bounds), .blk b1 24 [.int .i64 a0.layers, .slice A_a0_bounds a0.bounds.length c_a0_bounds]] := H.append E2
      replace R0 := H.ext
      refine LW.pure rfl rfl (RV.move rfl) ?_
      refine LW.pure rfl rfl (RV.extract rfl rfl) ?_
      refine LW.pure rfl rfl (RV.extract rfl rfl) ?_
      refine LW.go rfl rfl (OW.alloc Tz24 fun b2 w4 N2 => ?_)
      replace H := H.new N2 N2.blk
      replace R0 := H.ext
      refine LW.go rfl rfl (OW.store Tk24 rfl rfl (H.blk 0 rfl) (off := 0) (vs := [.int .i64 r1.1.layers, .slice A19_0_bounds r1.1.bounds.length c19_0_bounds]) rfl rfl rfl rfl rfl fun w5 S1 => ?_)
      replace H : Hp w w5 [.blk b2 24 [.int .i64 r1.1.layers, .slice A19_0_bounds r1.1.bounds.length c19_0_bounds], .own A19_0_bounds c19_0_bounds 26 3 (List.map encBound r1.1.bounds), .blk b1 24 [.int .i64 a0.layers, .slice A_a0_bounds a0.bounds.length c_a0_bounds]] := H.stored 0 rfl S1
      replace R0 := H.ext
      refine LW.pure rfl rfl (RV.assign rfl) ?_
      refine LW.nil (hK4 _ _ ?_)
      refine CW.seq fun K5 hK5 => ?_
      obtain ⟨r10, hr10, F⟩ := bnd_some F
      refine CW.region ?_
      refine LW.pure rfl rfl (RV.loadA [.int .i64 a0.layers, .slice A_a0_bounds a0.bounds.length c_a0_bounds] Tk24 rfl (H.blk 2 rfl).cells rfl rfl) ?_
      refine LW.pure rfl rfl (RV.move rfl) ?_
      refine LW.go rfl rfl (OW.call Tc44 rfl (ref03_Shift_ok (a0 := a0) (a1 := a1) (h_a0_bounds.ext R0) (h_a1.ext R0) hr10) ?_)
      rintro _ w6 ⟨A21_0_bounds, c21_0_bounds, rfl, E3⟩
      refine ⟨_, rfl, ?_⟩
      replace H : Hp w w6 [.own A21_0_bounds c21_0_bounds 26 3 (List.map encBound r10.1.bounds), .blk b2 24 [.int .i64 r1.1.layers, .slice A19_0_bounds r1.1.bounds.length c19_0_bounds], .own A19_0_bounds c19_0_bounds 26 3 (List.map encBound r1.1.bounds), .blk b1 24 [.int .i64 a0.layers, .slice A_a0_bounds a0.bounds.length c_a0_bounds]] := H.append E3
      replace R0 := H.ext
      refine LW.pure rfl rfl (RV.move rfl) ?_
      refine LW.pure rfl rfl (RV.extract rfl rfl) ?_
      refine LW.pure rfl rfl (RV.extract rfl rfl) ?_
      refine LW.go rfl rfl (OW.alloc Tz24 fun b3 w7 N3 => ?_)
      replace H := H.new N3 N3.blk
      replace R0 := H.ext
      refine LW.go rfl rfl (OW.store Tk24 rfl rfl (H.blk 0 rfl) (off := 0) (vs := [.int .i64 r10.1.layers, .slice A21_0_bounds r10.1.bounds.length c21_0_bounds]) rfl rfl rfl rfl rfl fun w8 S2 => ?_)
      replace H : Hp w w8 [.blk b3 24 [.int .i64 r10.1.layers, .slice A21_0_bounds r10.1.bounds.length c21_0_bounds], .own A21_0_bounds c21_0_bounds 26 3 (List.map encBound r10.1.bounds), .blk b2 24 [.int .i64 r1.1.layers, .slice A19_0_bounds r1.1.bounds.length c19_0_bounds], .own A19_0_bounds c19_0_bounds 26 3 (List.map encBound r1.1.bounds), .blk b1 24 [.int .i64 a0.layers, .slice A_a0_bounds a0.bounds.length c_a0_bounds]] := H.stored 0 rfl S2
      replace R0 := H.ext
      refine LW.pure rfl rfl (RV.assign rfl) ?_
      refine LW.nil (hK5 _ _ ?_)
      refine CW.seq fun K6 hK6 => ?_
      refine CW.seqJ (fun ρ wl2 => (∃ (t52_1 : Bool), law03_CoreShifts_k3 a0 a1 a2 r1 t52_1 = some res ∧ ρ = [(1, .slice A_a1 a1.length c_a1), (2, .slice A_a2 a2.length c_a2), (3, .pointer (some (⟨b1, 0, none⟩))), (6, .bool false), (7, .pointer (some (⟨b2, 0, none⟩))), (8, .int .i64 r1.2), (52, .bool t52_1)] ∧ Hp w wl2 [.own A19_0_bounds c19_0_bounds 26 3 (List.map encBound r1.1.bounds), .blk b1 24 [.int .i64 a0.layers, .slice A_a0_bounds a0.bounds.length c_a0_bounds], .blk b2 24 [.int .i64 r1.1.layers, .slice A19_0_bounds r1.1.bounds.length c19_0_bounds]])) ?_ ?_
      ·
        rintro _ wl2 ⟨t52_1, F, rfl, H⟩
        have R0 := H.ext
        unfold law03_CoreShifts_k3 at F
        by_cases hp2 : t52_1 = true
        ·
          replace F := ite_y hp2 F
          have hq2 : t52_1 = true := hp2
          refine CW.condT rfl hq2 ?_
          refine CW.seq fun K7 hK7 => ?_
          refine CW.region ?_
          refine LW.pure rfl rfl (RV.assign rfl) ?_
          refine LW.nil (hK7 _ _ ?_)
          refine CW.ret ?_
          obtain rfl := Option.some.inj F
          refine ⟨_, (ResOK.one rfl), ?_⟩
          refine ⟨(by first | rfl | simp), R0⟩
        ·
          replace F := ite_n hp2 F
          have hq2 : t52_1 = false := raw_f hp2
          refine CW.condF rfl hq2 ?_
          refine CW.skip (hK6 _ _ ?_)
          refine CW.seq fun K8 hK8 => ?_
          obtain ⟨r2, hr2, F⟩ := bnd_some F
          refine CW.region ?_
          refine LW.pure rfl rfl (RV.loadA [.int .i64 a0.layers, .slice A_a0_bounds a0.bounds.length c_a0_bounds] Tk24 rfl (H.blk 1 rfl).cells rfl rfl) ?_
          refine LW.pure rfl rfl (RV.move rfl) ?_
          refine LW.go rfl rfl (OW.call Tc33 rfl (core_CheckDates_ok (a0 := a0) (a1 := a2) (h_a0_bounds.ext R0) (h_a2.ext R0) hr2) ?_)
          rintro _ w9 ⟨rfl, E4⟩
          refine ⟨_, rfl, ?_⟩
          replace H := H.grow E4
          replace R0 := H.ext
          refine LW.pure rfl rfl (RV.assign rfl) ?_
          refine LW.nil (hK8 _ _ ?_)
          refine CW.seq fun K9 hK9 => ?_
          refine CW.seqJ (fun ρ wl3 => (∃ (t72_1 : Bool), law03_CoreShifts_k2 a0 a1 a2 r1 r2 t72_1 = some res ∧ ρ = [(1, .slice A_a1 a1.length c_a1), (2, .slice A_a2 a2.length c_a2), (3, .pointer (some (⟨b1, 0, none⟩))), (6, .bool false), (7, .pointer (some (⟨b2, 0, none⟩))), (11, .int .i64 r2), (72, .bool t72_1)] ∧ Hp w wl3 [.own A19_0_bounds c19_0_bounds 26 3 (List.map encBound r1.1.bounds), .blk b1 24 [.int .i64 a0.layers, .slice A_a0_bounds a0.bounds.length c_a0_bounds], .blk b2 24 [.int .i64 r1.1.layers, .slice A19_0_bounds r1.1.bounds.length c19_0_bounds]])) ?_ ?_
          ·
            rintro _ wl3 ⟨t72_1, F, rfl, H⟩
            have R0 := H.ext
            unfold law03_CoreShifts_k2 at F
            by_cases hp3 : t72_1 = true
            ·
              replace F := ite_y hp3 F
              have hq3 : t72_1 = true := hp3
              refine CW.condT rfl hq3 ?_
              refine CW.seq fun K10 hK10 => ?_
              obtain ⟨r8, hr8, F⟩ := bnd_some F
              refine CW.region ?_
              refine LW.go rfl rfl (OW.call Tc18 rfl (law03_known_ok hr8) ?_)
              rintro _ w10 ⟨rfl, E5⟩
              refine ⟨_, rfl, ?_⟩
              replace H := H.grow E5
              replace R0 := H.ext
              refine LW.pure rfl rfl (RV.assign rfl) ?_
              refine LW.nil (hK10 _ _ ?_)
              refine CW.ret ?_
              obtain rfl := Option.some.inj F
              refine ⟨_, (ResOK.one rfl), ?_⟩
              refine ⟨(by first | rfl | simp), R0⟩
            ·
              replace F := ite_n hp3 F
              have hq3 : t72_1 = false := raw_f hp3
              refine CW.condF rfl hq3 ?_
              refine CW.skip (hK9 _ _ ?_)
              refine CW.seq fun K11 hK11 => ?_
              refine CW.region ?_
              refine LW.pure rfl rfl (RV.assign rfl) ?_
              refine LW.nil (hK11 _ _ ?_)
              refine CW.seqJ (fun ρ wl4 => (∃ (l1 : List Int) (Al1 : Option Addr) (cl1 : Nat), law03_CoreShifts_k1 a0 r1 r2 l1 = some res ∧ ρ = [(3, .pointer (some (⟨b1, 0, none⟩))), (6, .bool false), (7, .pointer (some (⟨b2, 0, none⟩))), (11, .int .i64 r2), (12, .slice Al1 l1.length cl1)] ∧ Hp w wl4 [.own Al1 cl1 3 1 (List.map encN l1), .own A19_0_bounds c19_0_bounds 26 3 (List.map encBound r1.1.bounds), .blk b1 24 [.int .i64 a0.layers, .slice A_a0_bounds a0.bounds.length c_a0_bounds], .blk b2 24 [.int .i64 r1.1.layers, .slice A19_0_bounds r1.1.bounds.length c19_0_bounds]])) ?_ ?_
              ·
                rintro _ wl4 ⟨l1, Al1, cl1, F, rfl, H⟩
                have R0 := H.ext
                unfold law03_CoreShifts_k1 at F
                refine CW.seq fun K12 hK12 => ?_
                obtain ⟨r3, hr3, F⟩ := bnd_some F
                refine CW.region ?_
                refine LW.pure rfl rfl (RV.loadA [.int .i64 r1.1.layers, .slice A19_0_bounds r1.1.bounds.length c19_0_bounds] Tk24 rfl (H.blk 3 rfl).cells rfl rfl) ?_
                refine LW.pure rfl rfl (RV.move rfl) ?_
                refine LW.go rfl rfl (OW.call Tc33 rfl (core_CheckDates_ok (a0 := r1.1) (a1 := l1) (H.own 1 rfl).sl (H.own 0 rfl).sl hr3) ?_)
                rintro _ w11 ⟨rfl, E6⟩
                refine ⟨_, rfl, ?_⟩
                replace H := H.grow E6
                replace R0 := H.ext
                refine LW.pure rfl rfl (RV.assign rfl) ?_
                refine LW.nil (hK12 _ _ ?_)
                refine CW.seq fun K13 hK13 => ?_
                obtain ⟨r4, hr4, F⟩ := bnd_some F
                refine CW.region ?_
                refine LW.pure rfl rfl (RV.loadA [.int .i64 a0.layers, .slice A_a0_bounds a0.bounds.length c_a0_bounds] Tk24 rfl (H.blk 2 rfl).cells rfl rfl) ?_
                refine LW.go rfl rfl (OW.call Tc34 rfl (core_IsPossible_ok (a0 := a0) (h_a0_bounds.ext R0) hr4) ?_)
                rintro _ w12 ⟨rfl, E7⟩
                refine ⟨_, rfl, ?_⟩
                replace H := H.grow E7
                replace R0 := H.ext
                refine LW.pure rfl rfl (RV.move rfl) ?_
                refine LW.pure rfl rfl (RV.extract rfl rfl) ?_
                refine LW.pure rfl rfl (RV.extract rfl rfl) ?_
                refine LW.pure rfl rfl (RV.assign rfl) ?_
                refine LW.pure rfl rfl (RV.assign rfl) ?_
                refine LW.nil (hK13 _ _ ?_)
                refine CW.seq fun K14 hK14 => ?_
                obtain ⟨r5, hr5, F⟩ := bnd_some F
                refine CW.region ?_
                refine LW.pure rfl rfl (RV.loadA [.int .i64 r1.1.layers, .slice A19_0_bounds r1.1.bounds.length c19_0_bounds] Tk24 rfl (H.blk 3 rfl).cells rfl rfl) ?_
                refine LW.go rfl rfl (OW.call Tc34 rfl (core_IsPossible_ok (a0 := r1.1) (H.own 1 rfl).sl hr5) ?_)
                rintro _ w13 ⟨rfl, E8⟩
                refine ⟨_, rfl, ?_⟩
                replace H := H.grow E8
                replace R0 := H.ext
                refine LW.pure rfl rfl (RV.move rfl) ?_
                refine LW.pure rfl rfl (RV.extract rfl rfl) ?_
                refine LW.pure rfl rfl (RV.extract rfl rfl) ?_
                refine LW.pure rfl rfl (RV.assign rfl) ?_
                refine LW.pure rfl rfl (RV.assign rfl) ?_
                refine LW.nil (hK14 _ _ ?_)
                refine CW.seq fun K15 hK15 => ?_
                by_cases hp4 : r3 = r2
                ·
                  replace F := ite_y hp4 F
                  have hq4 := dec_t hp4
                  by_cases hp5 : r4.2 = 0
                  ·
                    replace F := ite_y hp5 F
                    have hq5 := dec_t hp5
                    by_cases hp6 : r5.2 = 0
                    ·
                      replace F := ite_y hp6 F
                      have hq6 := dec_t hp6
                      by_cases hp7 : (r4.1 == r5.1) = true
                      ·
                        replace F := ite_y hp7 F
                        have hq7 : (r4.1 == r5.1) = true := hp7
                        obtain ⟨r6, hr6, F⟩ := bnd_some F
                        refine CW.region ?_
                        refine LW.pure rfl rfl (RV.move rfl) ?_
                        refine LW.pure rfl rfl (RV.move rfl) ?_
                        refine LW.pure rfl rfl (RV.eqi rfl rfl) ?_
                        refine LW.pure rfl rfl (RV.move rfl) ?_
                        refine LW.noB rfl rfl rfl rfl (ne_beq (v := true) hq4 rfl) ?_
                        refine LW.noB rfl rfl rfl rfl (ne_beq (v := true) hq4 rfl) ?_
                        refine LW.pure rfl rfl (RV.pickTB rfl hq4 rfl) ?_
                        refine LW.pure rfl rfl (RV.move rfl) ?_
                        refine LW.pureYB rfl rfl rfl rfl rfl (RV.move rfl) ?_
                        refine LW.pureYB rfl rfl rfl rfl rfl (RV.eqi rfl rfl) ?_
                        refine LW.pure rfl rfl (RV.pickTB rfl rfl rfl) ?_
                        refine LW.pure rfl rfl (RV.move rfl) ?_
                        refine LW.pureYB rfl rfl rfl rfl hq5 (RV.move rfl) ?_
                        refine LW.pureYB rfl rfl rfl rfl hq5 (RV.eqi rfl rfl) ?_
                        refine LW.pure rfl rfl (RV.pickTB rfl hq5 rfl) ?_
                        refine LW.pure rfl rfl (RV.move rfl) ?_
                        refine LW.pureYB rfl rfl rfl rfl hq6 (RV.move rfl) ?_
                        refine LW.pureYB rfl rfl rfl rfl hq6 (RV.move rfl) ?_
                        refine LW.pureYB rfl rfl rfl rfl hq6 (RV.eqb Tb4 rfl rfl) ?_
                        refine LW.pure rfl rfl (RV.pickTB rfl hq6 rfl) ?_
                        refine LW.pure rfl rfl (RV.move rfl) ?_
                        refine LW.yesB rfl rfl rfl rfl hq7 (OW.call Tc18 rfl (law03_known_ok hr6) ?_)
                        rintro _ w14 ⟨rfl, E9⟩
                        refine ⟨_, rfl, ?_⟩
                        replace H := H.grow E9
                        replace R0 := H.ext
                        refine LW.pure rfl rfl (RV.pickTB rfl hq7 rfl) ?_
                        refine LW.pure rfl rfl (RV.assign rfl) ?_
                        refine LW.nil (hK15 _ _ ?_)
                        refine CW.ret ?_
                        obtain rfl := Option.some.inj F
                        refine ⟨_, (ResOK.one rfl), ?_⟩
                        refine ⟨(by first | rfl | simp), R0⟩
                      ·
                        replace F := ite_n hp7 F
                        have hq7 : (r4.1 == r5.1) = false := raw_f hp7
                        refine CW.region ?_
                        refine LW.pure rfl rfl (RV.move rfl) ?_
                        refine LW.pure rfl rfl (RV.move rfl) ?_
                        refine LW.pure rfl rfl (RV.eqi rfl rfl) ?_
                        refine LW.pure rfl rfl (RV.move rfl) ?_
                        refine LW.noB rfl rfl rfl rfl (ne_beq (v := true) hq4 rfl) ?_
                        refine LW.noB rfl rfl rfl rfl (ne_beq (v := true) hq4 rfl) ?_
                        refine LW.pure rfl rfl (RV.pickTB rfl hq4 rfl) ?_
                        refine LW.pure rfl rfl (RV.move rfl) ?_
                        refine LW.pureYB rfl rfl rfl rfl rfl (RV.move rfl) ?_
                        refine LW.pureYB rfl rfl rfl rfl rfl (RV.eqi rfl rfl) ?_
                        refine LW.pure rfl rfl (RV.pickTB rfl rfl rfl) ?_
                        refine LW.pure rfl rfl (RV.move rfl) ?_
                        refine LW.pureYB rfl rfl rfl rfl hq5 (RV.move rfl) ?_
                        refine LW.pureYB rfl rfl rfl rfl hq5 (RV.eqi rfl rfl) ?_
                        refine LW.pure rfl rfl (RV.pickTB rfl hq5 rfl) ?_
                        refine LW.pure rfl rfl (RV.move rfl) ?_
                        refine LW.pureYB rfl rfl rfl rfl hq6 (RV.move rfl) ?_
                        refine LW.pureYB rfl rfl rfl rfl hq6 (RV.move rfl) ?_
                        refine LW.pureYB rfl rfl rfl rfl hq6 (RV.eqb Tb4 rfl rfl) ?_
                        refine LW.pure rfl rfl (RV.pickTB rfl hq6 rfl) ?_
                        refine LW.pure rfl rfl (RV.move rfl) ?_
                        refine LW.noB rfl rfl rfl rfl (ne_beq (v := false) hq7 rfl) ?_
                        refine LW.pure rfl rfl (RV.pickFB rfl hq7 rfl) ?_
                        refine LW.pure rfl rfl (RV.assign rfl) ?_
                        refine LW.nil (hK15 _ _ ?_)
                        refine CW.ret ?_
                        obtain rfl := Option.some.inj F
                        refine ⟨_, (ResOK.one rfl), ?_⟩
                        refine ⟨(by first | rfl | simp), R0⟩
                    ·
                      replace F := ite_n hp6 F
                      have hq6 := dec_f hp6
                      refine CW.region ?_
                      refine LW.pure rfl rfl (RV.move rfl) ?_
                      refine LW.pure rfl rfl (RV.move rfl) ?_
                      refine LW.pure rfl rfl (RV.eqi rfl rfl) ?_
                      refine LW.pure rfl rfl (RV.move rfl) ?_
                      refine LW.noB rfl rfl rfl rfl (ne_beq (v := true) hq4 rfl) ?_
                      refine LW.noB rfl rfl rfl rfl (ne_beq (v := true) hq4 rfl) ?_
                      refine LW.pure rfl rfl (RV.pickTB rfl hq4 rfl) ?_
                      refine LW.pure rfl rfl (RV.move rfl) ?_
                      refine LW.pureYB rfl rfl rfl rfl rfl (RV.move rfl) ?_
                      refine LW.pureYB rfl rfl rfl rfl rfl (RV.eqi rfl rfl) ?_
                      refine LW.pure rfl rfl (RV.pickTB rfl rfl rfl) ?_
                      refine LW.pure rfl rfl (RV.move rfl) ?_
                      refine LW.pureYB rfl rfl rfl rfl hq5 (RV.move rfl) ?_
                      refine LW.pureYB rfl rfl rfl rfl hq5 (RV.eqi rfl rfl) ?_
                      refine LW.pure rfl rfl (RV.pickTB rfl hq5 rfl) ?_
                      refine LW.pure rfl rfl (RV.move rfl) ?_
                      refine LW.noB rfl rfl rfl rfl (ne_beq (v := false) hq6 rfl) ?_
                      refine LW.noB rfl rfl rfl rfl (ne_beq (v := false) hq6 rfl) ?_
                      refine LW.noB rfl rfl rfl rfl (ne_beq (v := false) hq6 rfl) ?_
                      refine LW.pure rfl rfl (RV.pickFB rfl hq6 rfl) ?_
                      refine LW.pure rfl rfl (RV.move rfl) ?_
                      refine LW.noB rfl rfl rfl rfl (ne_beq (v := false) rfl rfl) ?_
                      refine LW.pure rfl rfl (RV.pickFB rfl rfl rfl) ?_
                      refine LW.pure rfl rfl (RV.assign rfl) ?_
                      refine LW.nil (hK15 _ _ ?_)
                      refine CW.ret ?_
                      obtain rfl := Option.some.inj F
                      refine ⟨_, (ResOK.one rfl), ?_⟩
                      refine ⟨(by first | rfl | simp), R0⟩
                  ·
                    replace F := ite_n hp5 F
                    have hq5 := dec_f hp5
                    refine CW.region ?_
                    refine LW.pure rfl rfl (RV.move rfl) ?_
                    refine LW.pure rfl rfl (RV.move rfl) ?_
                    refine LW.pure rfl rfl (RV.eqi rfl rfl) ?_
                    refine LW.pure rfl rfl (RV.move rfl) ?_
                    refine LW.noB rfl rfl rfl rfl (ne_beq (v := true) hq4 rfl) ?_
                    refine LW.noB rfl rfl rfl rfl (ne_beq (v := true) hq4 rfl) ?_
                    refine LW.pure rfl rfl (RV.pickTB rfl hq4 rfl) ?_
                    refine LW.pure rfl rfl (RV.move rfl) ?_
                    refine LW.pureYB rfl rfl rfl rfl rfl (RV.move rfl) ?_
                    refine LW.pureYB rfl rfl rfl rfl rfl (RV.eqi rfl rfl) ?_
                    refine LW.pure rfl rfl (RV.pickTB rfl rfl rfl) ?_
                    refine LW.pure rfl rfl (RV.move rfl) ?_
                    refine LW.noB rfl rfl rfl rfl (ne_beq (v := false) hq5 rfl) ?_
                    refine LW.noB rfl rfl rfl rfl (ne_beq (v := false) hq5 rfl) ?_
                    refine LW.pure rfl rfl (RV.pickFB rfl hq5 rfl) ?_
                    refine LW.pure rfl rfl (RV.move rfl) ?_
                    refine LW.noB rfl rfl rfl rfl (ne_beq (v := false) rfl rfl) ?_
                    refine LW.noB rfl rfl rfl rfl (ne_beq (v := false) rfl rfl) ?_
                    refine LW.noB rfl rfl rfl rfl (ne_beq (v := false) rfl rfl) ?_
                    refine LW.pure rfl rfl (RV.pickFB rfl rfl rfl) ?_
                    refine LW.pure rfl rfl (RV.move rfl) ?_
                    refine LW.noB rfl rfl rfl rfl (ne_beq (v := false) rfl rfl) ?_
                    refine LW.pure rfl rfl (RV.pickFB rfl rfl rfl) ?_
                    refine LW.pure rfl rfl (RV.assign rfl) ?_
                    refine LW.nil (hK15 _ _ ?_)
                    refine CW.ret ?_
                    obtain rfl := Option.some.inj F
                    refine ⟨_, (ResOK.one rfl), ?_⟩
                    refine ⟨(by first | rfl | simp), R0⟩
                ·
                  replace F := ite_n hp4 F
                  have hq4 := dec_f hp4
                  by_cases hp8 : r3 = 1
                  ·
                    replace F := ite_y hp8 F
                    have hq8 := dec_t hp8
                    by_cases hp9 : r4.2 = 0
                    ·
                      replace F := ite_y hp9 F
                      have hq9 := dec_t hp9
                      by_cases hp10 : r5.2 = 0
                      ·
                        replace F := ite_y hp10 F
                        have hq10 := dec_t hp10
                        by_cases hp11 : (r4.1 == r5.1) = true
                        ·
                          replace F := ite_y hp11 F
                          have hq11 : (r4.1 == r5.1) = true := hp11
                          obtain ⟨r7, hr7, F⟩ := bnd_some F
                          refine CW.region ?_
                          refine LW.pure rfl rfl (RV.move rfl) ?_
                          refine LW.pure rfl rfl (RV.move rfl) ?_
                          refine LW.pure rfl rfl (RV.eqi rfl rfl) ?_
                          refine LW.pure rfl rfl (RV.move rfl) ?_
                          refine LW.pureYB rfl rfl rfl rfl hq4 (RV.move rfl) ?_
                          refine LW.pureYB rfl rfl rfl rfl hq4 (RV.eqi rfl rfl) ?_
                          refine LW.pure rfl rfl (RV.pickFB rfl hq4 rfl) ?_
                          refine LW.pure rfl rfl (RV.move rfl) ?_
                          refine LW.pureYB rfl rfl rfl rfl hq8 (RV.move rfl) ?_
                          refine LW.pureYB rfl rfl rfl rfl hq8 (RV.eqi rfl rfl) ?_
                          refine LW.pure rfl rfl (RV.pickTB rfl hq8 rfl) ?_
                          refine LW.pure rfl rfl (RV.move rfl) ?_
                          refine LW.pureYB rfl rfl rfl rfl hq9 (RV.move rfl) ?_
                          refine LW.pureYB rfl rfl rfl rfl hq9 (RV.eqi rfl rfl) ?_
                          refine LW.pure rfl rfl (RV.pickTB rfl hq9 rfl) ?_
                          refine LW.pure rfl rfl (RV.move rfl) ?_
                          refine LW.pureYB rfl rfl rfl rfl hq10 (RV.move rfl) ?_
                          refine LW.pureYB rfl rfl rfl rfl hq10 (RV.move rfl) ?_
                          refine LW.pureYB rfl rfl rfl rfl hq10 (RV.eqb Tb4 rfl rfl) ?_
                          refine LW.pure rfl rfl (RV.pickTB rfl hq10 rfl) ?_
                          refine LW.pure rfl rfl (RV.move rfl) ?_
                          refine LW.yesB rfl rfl rfl rfl hq11 (OW.call Tc18 rfl (law03_known_ok hr7) ?_)
                          rintro _ w15 ⟨rfl, E10⟩
                          refine ⟨_, rfl, ?_⟩
                          replace H := H.grow E10
                          replace R0 := H.ext
                          refine LW.pure rfl rfl (RV.pickTB rfl hq11 rfl) ?_
                          refine LW.pure rfl rfl (RV.assign rfl) ?_
                          refine LW.nil (hK15 _ _ ?_)
                          refine CW.ret ?_
                          obtain rfl := Option.some.inj F
                          refine ⟨_, (ResOK.one rfl), ?_⟩
                          refine ⟨(by first | rfl | simp), R0⟩
                        ·
                          replace F := ite_n hp11 F
                          have hq11 : (r4.1 == r5.1) = false := raw_f hp11
                          refine CW.region ?_
                          refine LW.pure rfl rfl (RV.move rfl) ?_
                          refine LW.pure rfl rfl (RV.move rfl) ?_
                          refine LW.pure rfl rfl (RV.eqi rfl rfl) ?_
                          refine LW.pure rfl rfl (RV.move rfl) ?_
                          refine LW.pureYB rfl rfl rfl rfl hq4 (RV.move rfl) ?_
                          refine LW.pureYB rfl rfl rfl rfl hq4 (RV.eqi rfl rfl) ?_
                          refine LW.pure rfl rfl (RV.pickFB rfl hq4 rfl) ?_
                          refine LW.pure rfl rfl (RV.move rfl) ?_
                          refine LW.pureYB rfl rfl rfl rfl hq8 (RV.move rfl) ?_
                          refine LW.pureYB rfl rfl rfl rfl hq8 (RV.eqi rfl rfl) ?_
                          refine LW.pure rfl rfl (RV.pickTB rfl hq8 rfl) ?_
                          refine LW.pure rfl rfl (RV.move rfl) ?_
                          refine LW.pureYB rfl rfl rfl rfl hq9 (RV.move rfl) ?_
                          refine LW.pureYB rfl rfl rfl rfl hq9 (RV.eqi rfl rfl) ?_
                          refine LW.pure rfl rfl (RV.pickTB rfl hq9 rfl) ?_
                          refine LW.pure rfl rfl (RV.move rfl) ?_
                          refine LW.pureYB rfl rfl rfl rfl hq10 (RV.move rfl) ?_
                          refine LW.pureYB rfl rfl rfl rfl hq10 (RV.move rfl) ?_
                          refine LW.pureYB rfl rfl rfl rfl hq10 (RV.eqb Tb4 rfl rfl) ?_
                          refine LW.pure rfl rfl (RV.pickTB rfl hq10 rfl) ?_
                          refine LW.pure rfl rfl (RV.move rfl) ?_
                          refine LW.noB rfl rfl rfl rfl (ne_beq (v := false) hq11 rfl) ?_
                          refine LW.pure rfl rfl (RV.pickFB rfl hq11 rfl) ?_
                          refine LW.pure rfl rfl (RV.assign rfl) ?_
                          refine LW.nil (hK15 _ _ ?_)
                          refine CW.ret ?_
                          obtain rfl := Option.some.inj F
                          refine ⟨_, (ResOK.one rfl), ?_⟩
                          refine ⟨(by first | rfl | simp), R0⟩
                      ·
                        replace F := ite_n hp10 F
                        have hq10 := dec_f hp10
                        refine CW.region ?_
                        refine LW.pure rfl rfl (RV.move rfl) ?_
                        refine LW.pure rfl rfl (RV.move rfl) ?_
                        refine LW.pure rfl rfl (RV.eqi rfl rfl) ?_
                        refine LW.pure rfl rfl (RV.move rfl) ?_
                        refine LW.pureYB rfl rfl rfl rfl hq4 (RV.move rfl) ?_
                        refine LW.pureYB rfl rfl rfl rfl hq4 (RV.eqi rfl rfl) ?_
                        refine LW.pure rfl rfl (RV.pickFB rfl hq4 rfl) ?_
                        refine LW.pure rfl rfl (RV.move rfl) ?_
                        refine LW.pureYB rfl rfl rfl rfl hq8 (RV.move rfl) ?_
                        refine LW.pureYB rfl rfl rfl rfl hq8 (RV.eqi rfl rfl) ?_
                        refine LW.pure rfl rfl (RV.pickTB rfl hq8 rfl) ?_
                        refine LW.pure rfl rfl (RV.move rfl) ?_
                        refine LW.pureYB rfl rfl rfl rfl hq9 (RV.move rfl) ?_
                        refine LW.pureYB rfl rfl rfl rfl hq9 (RV.eqi rfl rfl) ?_
                        refine LW.pure rfl rfl (RV.pickTB rfl hq9 rfl) ?_
                        refine LW.pure rfl rfl (RV.move rfl) ?_
                        refine LW.noB rfl rfl rfl rfl (ne_beq (v := false) hq10 rfl) ?_
                        refine LW.noB rfl rfl rfl rfl (ne_beq (v := false) hq10 rfl) ?_
                        refine LW.noB rfl rfl rfl rfl (ne_beq (v := false) hq10 rfl) ?_
                        refine LW.pure rfl rfl (RV.pickFB rfl hq10 rfl) ?_
                        refine LW.pure rfl rfl (RV.move rfl) ?_
                        refine LW.noB rfl rfl rfl rfl (ne_beq (v := false) rfl rfl) ?_
                        refine LW.pure rfl rfl (RV.pickFB rfl rfl rfl) ?_
                        refine LW.pure rfl rfl (RV.assign rfl) ?_
                        refine LW.nil (hK15 _ _ ?_)
                        refine CW.ret ?_
                        obtain rfl := Option.some.inj F
                        refine ⟨_, (ResOK.one rfl), ?_⟩
                        refine ⟨(by first | rfl | simp), R0⟩
                    ·
                      replace F := ite_n hp9 F
                      have hq9 := dec_f hp9
                      refine CW.region ?_
                      refine LW.pure rfl rfl (RV.move rfl) ?_
                      refine LW.pure rfl rfl (RV.move rfl) ?_
                      refine LW.pure rfl rfl (RV.eqi rfl rfl) ?_
                      refine LW.pure rfl rfl (RV.move rfl) ?_
                      refine LW.pureYB rfl rfl rfl rfl hq4 (RV.move rfl) ?_
                      refine LW.pureYB rfl rfl rfl rfl hq4 (RV.eqi rfl rfl) ?_
                      refine LW.pure rfl rfl (RV.pickFB rfl hq4 rfl) ?_
                      refine LW.pure rfl rfl (RV.move rfl) ?_
                      refine LW.pureYB rfl rfl rfl rfl hq8 (RV.move rfl) ?_
                      refine LW.pureYB rfl rfl rfl rfl hq8 (RV.eqi rfl rfl) ?_
                      refine LW.pure rfl rfl (RV.pickTB rfl hq8 rfl) ?_
                      refine LW.pure rfl rfl (RV.move rfl) ?_
                      refine LW.noB rfl rfl rfl rfl (ne_beq (v := false) hq9 rfl) ?_
                      refine LW.noB rfl rfl rfl rfl (ne_beq (v := false) hq9 rfl) ?_
                      refine LW.pure rfl rfl (RV.pickFB rfl hq9 rfl) ?_
                      refine LW.pure rfl rfl (RV.move rfl) ?_
                      refine LW.noB rfl rfl rfl rfl (ne_beq (v := false) rfl rfl) ?_
                      refine LW.noB rfl rfl rfl rfl (ne_beq (v := false) rfl rfl) ?_
                      refine LW.noB rfl rfl rfl rfl (ne_beq (v := false) rfl rfl) ?_
                      refine LW.pure rfl rfl (RV.pickFB rfl rfl rfl) ?_
                      refine LW.pure rfl rfl (RV.move rfl) ?_
                      refine LW.noB rfl rfl rfl rfl (ne_beq (v := false) rfl rfl) ?_
                      refine LW.pure rfl rfl (RV.pickFB rfl rfl rfl) ?_
                      refine LW.pure rfl rfl (RV.assign rfl) ?_
                      refine LW.nil (hK15 _ _ ?_)
                      refine CW.ret ?_
                      obtain rfl := Option.some.inj F
                      refine ⟨_, (ResOK.one rfl), ?_⟩
                      refine ⟨(by first | rfl | simp), R0⟩
                  ·
                    replace F := ite_n hp8 F
                    have hq8 := dec_f hp8
                    refine CW.region ?_
                    refine LW.pure rfl rfl (RV.move rfl) ?_
                    refine LW.pure rfl rfl (RV.move rfl) ?_
                    refine LW.pure rfl rfl (RV.eqi rfl rfl) ?_
                    refine LW.pure rfl rfl (RV.move rfl) ?_
                    refine LW.pureYB rfl rfl rfl rfl hq4 (RV.move rfl) ?_
                    refine LW.pureYB rfl rfl rfl rfl hq4 (RV.eqi rfl rfl) ?_
                    refine LW.pure rfl rfl (RV.pickFB rfl hq4 rfl) ?_
                    refine LW.pure rfl rfl (RV.move rfl) ?_
                    refine LW.noB rfl rfl rfl rfl (ne_beq (v := false) hq8 rfl) ?_
                    refine LW.noB rfl rfl rfl rfl (ne_beq (v := false) hq8 rfl) ?_
                    refine LW.pure rfl rfl (RV.pickFB rfl hq8 rfl) ?_
                    refine LW.pure rfl rfl (RV.move rfl) ?_
                    refine LW.noB rfl rfl rfl rfl (ne_beq (v := false) rfl rfl) ?_
                    refine LW.noB rfl rfl rfl rfl (ne_beq (v := false) rfl rfl) ?_
                    refine LW.pure rfl rfl (RV.pickFB rfl rfl rfl) ?_
                    refine LW.pure rfl rfl (RV.move rfl) ?_
                    refine LW.noB rfl rfl rfl rfl (ne_beq (v := false) rfl rfl) ?_
                    refine LW.noB rfl rfl rfl rfl (ne_beq (v := false) rfl rfl) ?_
                    refine LW.noB rfl rfl rfl rfl (ne_beq (v := false) rfl rfl) ?_
                    refine LW.pure rfl rfl (RV.pickFB rfl rfl rfl) ?_
                    refine LW.pure rfl rfl (RV.move rfl) ?_
                    refine LW.noB rfl rfl rfl rfl (ne_beq (v := false) rfl rfl) ?_
                    refine LW.pure rfl rfl (RV.pickFB rfl rfl rfl) ?_
                    refine LW.pure rfl rfl (RV.assign rfl) ?_
                    refine LW.nil (hK15 _ _ ?_)
                    refine CW.ret ?_
                    obtain rfl := Option.some.inj F
                    refine ⟨_, (ResOK.one rfl), ?_⟩
                    refine ⟨(by first | rfl | simp), R0⟩
              ·
                intro K16 hK16 jK65
                refine CW.seq fun K17 hK17 => ?_
                refine CW.region ?_
                refine LW.pure rfl rfl (RV.assign rfl) ?_
                refine LW.nil (hK17 _ _ ?_)
                refine CW.block ?_
                replace H := H.nilOwn 3 1
                replace R0 := H.ext
                refine CW.loop (fun meas ρ wl5 => ∃ (t13_1 : Int) (l2 : List Int) (Al2 : Option Addr) (cl2 : Nat), law03_CoreShifts_L1 a0 a1 a2 r1 r2 meas t13_1 l2 = some res ∧ ρ = [(1, .slice A_a1 a1.length c_a1), (2, .slice A_a2 a2.length c_a2), (3, .pointer (some (⟨b1, 0, none⟩))), (6, .bool false), (7, .pointer (some (⟨b2, 0, none⟩))), (11, .int .i64 r2), (12, .slice Al2 l2.length cl2), (13, .int .i64 t13_1)] ∧ Hp w wl5 [.own Al2 cl2 3 1 (List.map encN l2), .own A19_0_bounds c19_0_bounds 26 3 (List.map encBound r1.1.bounds), .blk b1 24 [.int .i64 a0.layers, .slice A_a0_bounds a0.bounds.length c_a0_bounds], .blk b2 24 [.int .i64 r1.1.layers, .slice A19_0_bounds r1.1.bounds.length c19_0_bounds]]) FU ⟨_, ?_, ((0 : Int)), (([] : List Int)), none, 0, F, rfl, H⟩ ?_
                · exact ⟨rfl, rfl, rfl, rfl, rfl, rfl, (look_slice rfl (by first | rfl | (simp; done) | (simp; omega))), rfl, trivial⟩
                rintro mk1 _ wl5 ⟨t13_1, l2, Al2, cl2, F, rfl, H⟩
                have R0 := H.ext
                replace F := law03_CoreShifts_L1_s F
                obtain ⟨mk1, rfl, F⟩ := F
                generalize hrec1 : law03_CoreShifts_L1 a0 a1 a2 r1 r2 mk1 = rec1 at F
                unfold law03_CoreShifts_B1 at F
                refine CW.seq fun K18 hK18 => ?_
                refine CW.seq fun K19 hK19 => ?_
                refine CW.region ?_
                refine LW.pure rfl rfl (RV.move rfl) ?_
                refine LW.pure rfl rfl (RV.move rfl) ?_
                refine LW.pure rfl rfl (RV.len Ts43 rfl) ?_
                refine LW.pure rfl rfl (RV.lss rfl rfl) ?_
                refine LW.nil (hK19 _ _ ?_)
                by_cases hp12 : t13_1 < ((a2.length : Int))
                ·
                  replace F := ite_y hp12 F
                  have hq12 := dec_t hp12
                  refine CW.condT rfl hq12 ?_
                  refine CW.skip (hK18 _ _ ?_)
                  refine CW.seq fun K20 hK20 => ?_
                  refine CW.block ?_
                  obtain ⟨x1, hbx1, hx1, F⟩ := ix_some F
                  obtain ⟨x2, hbx2, hx2, F⟩ := ix_some F
                  obtain ⟨hg1, F⟩ := gd_some F
                  obtain ⟨hg2, F⟩ := gd_some F
                  have H0 := H
                  have hz : wl5.heap.size ≤ wl5.heap.size := Nat.le_refl _
                  refine CW.draw [11] (XB wl5 [.own Al2 cl2 3 1 (List.map encN l2), .own A19_0_bounds c19_0_bounds 26 3 (List.map encBound r1.1.bounds), .blk b1 24 [.int .i64 a0.layers, .slice A_a0_bounds a0.bounds.length c_a0_bounds], .blk b2 24 [.int .i64 r1.1.layers, .slice A19_0_bounds r1.1.bounds.length c19_0_bounds]] [0]) (.cons 0 1 (.cons 1 2 (.cons 2 2 (.cons 3 2 (.cons 4 2 (.cons 5 2 (.cons 6 2 (.cons 7 2 (.cons 8 2 (.cons 9 2 (.cons 10 0 (.cons 11 0 (.cons 12 2 .nil))))))))))))) mixed (by kernel_rfl) fun w16 E11 => ?_
                  replace H := H.grow E11
                  replace R0 := H.ext
                  replace hz := Nat.le_trans hz (Ext.size E11)
                  refine DW.fix rfl rfl rfl (fun _ EQ => RV.move rfl) ?_
                  refine DW.thru rfl rfl rfl (fun _ EQ => RV.move rfl) ?_
                  refine DW.thru rfl rfl rfl (fun _ EQ => RV.move rfl) ?_
                  refine DW.thru rfl rfl rfl (fun _ EQ => RV.indexAddr Ts43 rfl rfl hbx1 (h_a2.addr_ hx1)) ?_
                  refine DW.thru rfl rfl rfl (fun _ EQ => RV.load1 Tk3 rfl (H0.old EQ R0 (h_a2.at_ hx1)) rfl) ?_
                  refine DW.thru rfl rfl rfl (fun _ EQ => RV.move rfl) ?_
                  refine DW.thru rfl rfl rfl (fun _ EQ => RV.move rfl) ?_
                  refine DW.thru rfl rfl rfl (fun _ EQ => RV.indexAddr Ts43 rfl rfl hbx2 (h_a1.addr_ hx2)) ?_
                  refine DW.thru rfl rfl rfl (fun _ EQ => RV.load1 Tk3 rfl (H0.old EQ R0 (h_a1.at_ hx2)) rfl) ?_
                  refine DW.thru rfl rfl rfl (fun _ EQ => RV.add rfl rfl hg1) ?_
                  refine DW.sole rfl rfl rfl (OW.buildSlice (e := 3) (vs := [.int .i64 (x1 + x2)]) (cs := [.int .i64 (x1 + x2)]) rfl (fun _ => by kernel_rfl) fun b4 w17 N4 => ?_)
                  refine ⟨fun _ => N4.ext, ModX.ext N4.ext, ?_⟩
                  have G0_b4 : wl5.heap.size ≤ b4 := by rw [N4.at_]; exact hz
                  replace H := H.made' (k := 1) (t := 3) (enc := encN) (l := ([x1 + x2] : List Int)) N4 N4.blk (fun _ => rfl) rfl (by first | decide | omega | (simp; done) | (simp; omega))
                  replace R0 := H.ext
                  replace hz := Nat.le_trans hz (Ext.size N4.ext)
                  refine DW.sole rfl rfl rfl (OW.appendG (enc := encN) (l := l2) (xs := ([x1 + x2] : List Int)) Ts43 rfl (look_slice rfl (by first | rfl | (simp; done) | (simp; omega))) (H.own 1 rfl) (H.own 0 rfl).sl (fun _ => rfl) rfl rfl hg2 (by decide) fun A1 c1 w18 O1 M1 D1 => ?_)
                  refine ⟨fun h => absurd h (by decide), M1.modx (XB.own_ 0 (by decide) rfl), ?_⟩
                  replace H : Hp w w18 [.own (some ⟨b4, 0, none⟩) ((([x1 + x2] : List Int)).length) 3 1 (List.map encN (([x1 + x2] : List Int))), .own A1 c1 3 1 (List.map encN ((l2 ++ ([x1 + x2] : List Int)))), .own A19_0_bounds c19_0_bounds 26 3 (List.map encBound r1.1.bounds), .blk b1 24 [.int .i64 a0.layers, .slice A_a0_bounds a0.bounds.length c_a0_bounds], .blk b2 24 [.int .i64 r1.1.layers, .slice A19_0_bounds r1.1.bounds.length c19_0_bounds]] := H.mod 1 rfl M1 O1 D1
                  replace R0 := H.ext
                  replace hz := Nat.le_trans hz M1.size
                  refine DW.thru rfl rfl rfl (fun _ EQ => RV.assign rfl) ?_
                  refine DW.nil (hK20 _ _ ?_)
                  obtain ⟨hg3, F⟩ := gd_some F
                  refine CW.region ?_
                  refine LW.pure rfl rfl (RV.move rfl) ?_
                  refine LW.pure rfl rfl (RV.add rfl rfl hg3) ?_
                  refine LW.pure rfl rfl (RV.assign rfl) ?_
                  refine LW.nil ?_
                  replace H := H.pick (L' := [.own A1 c1 3 1 (List.map encN ((l2 ++ ([x1 + x2] : List Int)))), .own A19_0_bounds c19_0_bounds 26 3 (List.map encBound r1.1.bounds), .blk b1 24 [.int .i64 a0.layers, .slice A_a0_bounds a0.bounds.length c_a0_bounds], .blk b2 24 [.int .i64 r1.1.layers, .slice A19_0_bounds r1.1.bounds.length c19_0_bounds]]) [1, 2, 3, 4] (by decide) rfl
                  replace R0 := H.ext
                  subst hrec1
                  refine ⟨mk1, Nat.lt_succ_self _, _, ?_, (t13_1 + 1), ((l2 ++ ([x1 + x2] : List Int))), A1, c1, F, rfl, H⟩
                  exact ⟨rfl, rfl, rfl, rfl, rfl, rfl, (look_slice rfl (by first | rfl | (simp; done) | (simp; omega))), rfl, trivial⟩
                ·
                  replace F := ite_n hp12 F
                  have hq12 := dec_f hp12
                  refine CW.condF rfl hq12 ?_
                  refine CW.exit (jK65 _ _ ⟨_, ?_, ⟨l2, Al2, cl2, F, rfl, H⟩⟩)
                  exact ⟨rfl, rfl, rfl, rfl, (look_slice rfl (by first | rfl | (simp; done) | (simp; omega))), trivial⟩
          ·
            intro K21 hK21 jK76
            by_cases hp13 : r1.2 = 0
            ·
              replace F := ite_y hp13 F
              have hq13 := dec_t hp13
              by_cases hp14 : r2 = 0
              ·
                replace F := ite_y hp14 F
                have hq14 := dec_t hp14
                refine CW.region ?_
                refine LW.pure rfl rfl (RV.move rfl) ?_
                refine LW.pure rfl rfl (RV.nei rfl rfl) ?_
                refine LW.pure rfl rfl (RV.move rfl) ?_
                refine LW.pureYB rfl rfl rfl rfl (not_f hq13) (RV.move rfl) ?_
                refine LW.pureYB rfl rfl rfl rfl (not_f hq13) (RV.nei rfl rfl) ?_
                refine LW.pureYB rfl rfl rfl rfl (not_f hq13) (RV.move rfl) ?_
                refine LW.noB rfl rfl rfl rfl (ne_beq (v := false) (not_f hq14) rfl) ?_
                refine LW.noB rfl rfl rfl rfl (ne_beq (v := false) (not_f hq14) rfl) ?_
                refine LW.pureYB rfl rfl rfl rfl (not_f hq13) (RV.pickFB rfl (not_f hq14) rfl) ?_
                refine LW.pure rfl rfl (RV.pickFB rfl (not_f hq13) rfl) ?_
                refine LW.pure rfl rfl (RV.move rfl) ?_
                refine LW.pureYB rfl rfl rfl rfl rfl (RV.move rfl) ?_
                refine LW.pureYB rfl rfl rfl rfl rfl (RV.len Ts43 rfl) ?_
                refine LW.pureYB rfl rfl rfl rfl rfl (RV.move rfl) ?_
                refine LW.pureYB rfl rfl rfl rfl rfl (RV.len Ts43 rfl) ?_
                refine LW.pureYB rfl rfl rfl rfl rfl (RV.nei rfl rfl) ?_
                refine LW.pure rfl rfl (RV.pickFB rfl rfl rfl) ?_
                refine LW.nil (jK76 _ _ ⟨_, ?_, ⟨(!(decide (((a1.length : Int)) = ((a2.length : Int))))), F, rfl, H⟩⟩)
                exact ⟨rfl, rfl, rfl, rfl, rfl, rfl, rfl, trivial⟩
              ·
                replace F := ite_n hp14 F
                have hq14 := dec_f hp14
                by_cases hp15 : r2 = 7
                ·
                  replace F := ite_y hp15 F
                  have hq15 := dec_t hp15
                  refine CW.region ?_
                  refine LW.pure rfl rfl (RV.move rfl) ?_
                  refine LW.pure rfl rfl (RV.nei rfl rfl) ?_
                  refine LW.pure rfl rfl (RV.move rfl) ?_
                  refine LW.pureYB rfl rfl rfl rfl (not_f hq13) (RV.move rfl) ?_
                  refine LW.pureYB rfl rfl rfl rfl (not_f hq13) (RV.nei rfl rfl) ?_
                  refine LW.pureYB rfl rfl rfl rfl (not_f hq13) (RV.move rfl) ?_
                  refine LW.pureYB rfl rfl rfl rfl (not_t hq14) (RV.move rfl) ?_
                  refine LW.pureYB rfl rfl rfl rfl (not_t hq14) (RV.nei rfl rfl) ?_
                  refine LW.pureYB rfl rfl rfl rfl (not_f hq13) (RV.pickTB rfl (not_t hq14) rfl) ?_
                  refine LW.pure rfl rfl (RV.pickFB rfl (not_f hq13) rfl) ?_
                  refine LW.pure rfl rfl (RV.move rfl) ?_
                  refine LW.pureYB rfl rfl rfl rfl (not_f hq15) (RV.move rfl) ?_
                  refine LW.pureYB rfl rfl rfl rfl (not_f hq15) (RV.len Ts43 rfl) ?_
                  refine LW.pureYB rfl rfl rfl rfl (not_f hq15) (RV.move rfl) ?_
                  refine LW.pureYB rfl rfl rfl rfl (not_f hq15) (RV.len Ts43 rfl) ?_
                  refine LW.pureYB rfl rfl rfl rfl (not_f hq15) (RV.nei rfl rfl) ?_
                  refine LW.pure rfl rfl (RV.pickFB rfl (not_f hq15) rfl) ?_
                  refine LW.nil (jK76 _ _ ⟨_, ?_, ⟨(!(decide (((a1.length : Int)) = ((a2.length : Int))))), F, rfl, H⟩⟩)
                  exact ⟨rfl, rfl, rfl, rfl, rfl, rfl, rfl, trivial⟩
                ·
                  replace F := ite_n hp15 F
                  have hq15 := dec_f hp15
                  refine CW.region ?_
                  refine LW.pure rfl rfl (RV.move rfl) ?_
                  refine LW.pure rfl rfl (RV.nei rfl rfl) ?_
                  refine LW.pure rfl rfl (RV.move rfl) ?_
                  refine LW.pureYB rfl rfl rfl rfl (not_f hq13) (RV.move rfl) ?_
                  refine LW.pureYB rfl rfl rfl rfl (not_f hq13) (RV.nei rfl rfl) ?_
                  refine LW.pureYB rfl rfl rfl rfl (not_f hq13) (RV.move rfl) ?_
                  refine LW.pureYB rfl rfl rfl rfl (not_t hq14) (RV.move rfl) ?_
                  refine LW.pureYB rfl rfl rfl rfl (not_t hq14) (RV.nei rfl rfl) ?_
                  refine LW.pureYB rfl rfl rfl rfl (not_f hq13) (RV.pickTB rfl (not_t hq14) rfl) ?_
                  refine LW.pure rfl rfl (RV.pickFB rfl (not_f hq13) rfl) ?_
                  refine LW.pure rfl rfl (RV.move rfl) ?_
                  refine LW.noB rfl rfl rfl rfl (ne_beq (v := true) (not_t hq15) rfl) ?_
                  refine LW.noB rfl rfl rfl rfl (ne_beq (v := true) (not_t hq15) rfl) ?_
                  refine LW.noB rfl rfl rfl rfl (ne_beq (v := true) (not_t hq15) rfl) ?_
                  refine LW.noB rfl rfl rfl rfl (ne_beq (v := true) (not_t hq15) rfl) ?_
                  refine LW.noB rfl rfl rfl rfl (ne_beq (v := true) (not_t hq15) rfl) ?_
                  refine LW.pure rfl rfl (RV.pickTB rfl (not_t hq15) rfl) ?_
                  refine LW.nil (jK76 _ _ ⟨_, ?_, ⟨true, F, rfl, H⟩⟩)
                  exact ⟨rfl, rfl, rfl, rfl, rfl, rfl, rfl, trivial⟩
            ·
              replace F := ite_n hp13 F
              have hq13 := dec_f hp13
              refine CW.region ?_
              refine LW.pure rfl rfl (RV.move rfl) ?_
              refine LW.pure rfl rfl (RV.nei rfl rfl) ?_
              refine LW.pure rfl rfl (RV.move rfl) ?_
              refine LW.noB rfl rfl rfl rfl (ne_beq (v := true) (not_t hq13) rfl) ?_
              refine LW.noB rfl rfl rfl rfl (ne_beq (v := true) (not_t hq13) rfl) ?_
              refine LW.noB rfl rfl rfl rfl (ne_beq (v := true) (not_t hq13) rfl) ?_
              refine LW.noU rfl rfl rfl rfl ?_
              refine LW.noU rfl rfl rfl rfl ?_
              refine LW.noB rfl rfl rfl rfl (ne_beq (v := true) (not_t hq13) rfl) ?_
              refine LW.pure rfl rfl (RV.pickTB rfl (not_t hq13) rfl) ?_
              refine LW.pure rfl rfl (RV.move rfl) ?_
              refine LW.noB rfl rfl rfl rfl (ne_beq (v := true) rfl rfl) ?_
              refine LW.noB rfl rfl rfl rfl (ne_beq (v := true) rfl rfl) ?_
              refine LW.noB rfl rfl rfl rfl (ne_beq (v := true) rfl rfl) ?_
              refine LW.noB rfl rfl rfl rfl (ne_beq (v := true) rfl rfl) ?_
              refine LW.noB rfl rfl rfl rfl (ne_beq (v := true) rfl rfl) ?_
              refine LW.pure rfl rfl (RV.pickTB rfl rfl rfl) ?_
              refine LW.nil (jK76 _ _ ⟨_, ?_, ⟨true, F, rfl, H⟩⟩)
              exact ⟨rfl, rfl, rfl, rfl, rfl, rfl, rfl, trivial⟩
      ·
        intro K22 hK22 jK77
        obtain ⟨r11, hr11, F⟩ := bnd_some F
        by_cases hp16 : r11 = true
        ·
          replace F := ite_y hp16 F
          have hq16 : r11 = true := hp16
          refine CW.region ?_
          refine LW.pure rfl rfl (RV.loadA [.int .i64 r1.1.layers, .slice A19_0_bounds r1.1.bounds.length c19_0_bounds] Tk24 rfl (H.blk 2 rfl).cells rfl rfl) ?_
          refine LW.pure rfl rfl (RV.loadA [.int .i64 r10.1.layers, .slice A21_0_bounds r10.1.bounds.length c21_0_bounds] Tk24 rfl (H.blk 0 rfl).cells rfl rfl) ?_
          refine LW.go rfl rfl (OW.call Tc32 rfl (ref03_Equal_ok (a0 := r1.1) (a1 := r10.1) (H.own 3 rfl).sl (H.own 1 rfl).sl hr11) ?_)
          rintro _ w19 ⟨rfl, E12⟩
          refine ⟨_, rfl, ?_⟩
          replace H := H.grow E12
          replace R0 := H.ext
          refine LW.pure rfl rfl (RV.not rfl) ?_
          refine LW.pure rfl rfl (RV.move rfl) ?_
          refine LW.pureYB rfl rfl rfl rfl (not_f hq16) (RV.move rfl) ?_
          refine LW.pureYB rfl rfl rfl rfl (not_f hq16) (RV.move rfl) ?_
          refine LW.pureYB rfl rfl rfl rfl (not_f hq16) (RV.nei rfl rfl) ?_
          refine LW.pure rfl rfl (RV.pickFB rfl (not_f hq16) rfl) ?_
          replace H := H.pick (L' := [.own A19_0_bounds c19_0_bounds 26 3 (List.map encBound r1.1.bounds), .blk b1 24 [.int .i64 a0.layers, .slice A_a0_bounds a0.bounds.length c_a0_bounds], .blk b2 24 [.int .i64 r1.1.layers, .slice A19_0_bounds r1.1.bounds.length c19_0_bounds]]) [3, 4, 2] (by decide) rfl
          replace R0 := H.ext
          refine LW.nil (jK77 _ _ ⟨_, ?_, ⟨(!(decide (r1.2 = r10.2))), F, rfl, H⟩⟩)
          exact ⟨rfl, rfl, rfl, rfl, rfl, rfl, rfl, trivial⟩
        ·
          replace F := ite_n hp16 F
          have hq16 : r11 = false := raw_f hp16
          refine CW.region ?_
          refine LW.pure rfl rfl (RV.loadA [.int .i64 r1.1.layers, .slice A19_0_bounds r1.1.bounds.length c19_0_bounds] Tk24 rfl (H.blk 2 rfl).cells rfl rfl) ?_
          refine LW.pure rfl rfl (RV.loadA [.int .i64 r10.1.layers, .slice A21_0_bounds r10.1.bounds.length c21_0_bounds] Tk24 rfl (H.blk 0 rfl).cells rfl rfl) ?_
          refine LW.go rfl rfl (OW.call Tc32 rfl (ref03_Equal_ok (a0 := r1.1) (a1 := r10.1) (H.own 3 rfl).sl (H.own 1 rfl).sl hr11) ?_)
          rintro _ w20 ⟨rfl, E13⟩
          refine ⟨_, rfl, ?_⟩
          replace H := H.grow E13
          replace R0 := H.ext
          refine LW.pure rfl rfl (RV.not rfl) ?_
          refine LW.pure rfl rfl (RV.move rfl) ?_
          refine LW.noB rfl rfl rfl rfl (ne_beq (v := true) (not_t hq16) rfl) ?_
          refine LW.noB rfl rfl rfl rfl (ne_beq (v := true) (not_t hq16) rfl) ?_
          refine LW.noB rfl rfl rfl rfl (ne_beq (v := true) (not_t hq16) rfl) ?_
          refine LW.pure rfl rfl (RV.pickTB rfl (not_t hq16) rfl) ?_
          replace H := H.pick (L' := [.own A19_0_bounds c19_0_bounds 26 3 (List.map encBound r1.1.bounds), .blk b1 24 [.int .i64 a0.layers, .slice A_a0_bounds a0.bounds.length c_a0_bounds], .blk b2 24 [.int .i64 r1.1.layers, .slice A19_0_bounds r1.1.bounds.length c19_0_bounds]]) [3, 4, 2] (by decide) rfl
          replace R0 := H.ext
          refine LW.nil (jK77 _ _ ⟨_, ?_, ⟨true, F, rfl, H⟩⟩)
          exact ⟨rfl, rfl, rfl, rfl, rfl, rfl, rfl, trivial⟩
  ·
    intro K23 hK23 jK78
    obtain ⟨r12, hr12, F⟩ := bnd_some F
    by_cases hp17 : r12 = true
    ·
      replace F := ite_y hp17 F
      have hq17 : r12 = true := hp17
      refine CW.region ?_
      refine LW.pure rfl rfl (RV.loadA [.int .i64 a0.layers, .slice A_a0_bounds a0.bounds.length c_a0_bounds] Tk24 rfl (H.blk 0 rfl).cells rfl rfl) ?_
      refine LW.go rfl rfl (OW.call Tc17 rfl (law03_Long_ok (a0 := a0) (h_a0_bounds.ext R0) hr12) ?_)
      rintro _ w21 ⟨rfl, E14⟩
      refine ⟨_, rfl, ?_⟩
      replace H := H.grow E14
      replace R0 := H.ext
      refine LW.pure rfl rfl (RV.move rfl) ?_
      refine LW.noB rfl rfl rfl rfl (ne_beq (v := true) hq17 rfl) ?_
      refine LW.noB rfl rfl rfl rfl (ne_beq (v := true) hq17 rfl) ?_
      refine LW.noB rfl rfl rfl rfl (ne_beq (v := true) hq17 rfl) ?_
      refine LW.pure rfl rfl (RV.pickTB rfl hq17 rfl) ?_
      refine LW.pure rfl rfl (RV.move rfl) ?_
      refine LW.noB rfl rfl rfl rfl (ne_beq (v := true) rfl rfl) ?_
      refine LW.noB rfl rfl rfl rfl (ne_beq (v := true) rfl rfl) ?_
      refine LW.noB rfl rfl rfl rfl (ne_beq (v := true) rfl rfl) ?_
      refine LW.pure rfl rfl (RV.pickTB rfl rfl rfl) ?_
      refine LW.nil (jK78 _ _ ⟨_, ?_, ⟨true, F, rfl, H⟩⟩)
      exact ⟨rfl, rfl, rfl, rfl, rfl, trivial⟩
    ·
      replace F := ite_n hp17 F
      have hq17 : r12 = false := raw_f hp17
      by_cases hp18 : (100 : Int) < ((a1.length : Int))
      ·
        replace F := ite_y hp18 F
        have hq18 := dec_t hp18
        refine CW.region ?_
        refine LW.pure rfl rfl (RV.loadA [.int .i64 a0.layers, .slice A_a0_bounds a0.bounds.length c_a0_bounds] Tk24 rfl (H.blk 0 rfl).cells rfl rfl) ?_
        refine LW.go rfl rfl (OW.call Tc17 rfl (law03_Long_ok (a0 := a0) (h_a0_bounds.ext R0) hr12) ?_)
        rintro _ w22 ⟨rfl, E15⟩
        refine ⟨_, rfl, ?_⟩
        replace H := H.grow E15
        replace R0 := H.ext
        refine LW.pure rfl rfl (RV.move rfl) ?_
        refine LW.pureYB rfl rfl rfl rfl hq17 (RV.move rfl) ?_
        refine LW.pureYB rfl rfl rfl rfl hq17 (RV.len Ts43 rfl) ?_
        refine LW.pureYB rfl rfl rfl rfl hq17 (RV.gtr rfl rfl) ?_
        refine LW.pure rfl rfl (RV.pickFB rfl hq17 rfl) ?_
        refine LW.pure rfl rfl (RV.move rfl) ?_
        refine LW.noB rfl rfl rfl rfl (ne_beq (v := true) hq18 rfl) ?_
        refine LW.noB rfl rfl rfl rfl (ne_beq (v := true) hq18 rfl) ?_
        refine LW.noB rfl rfl rfl rfl (ne_beq (v := true) hq18 rfl) ?_
        refine LW.pure rfl rfl (RV.pickTB rfl hq18 rfl) ?_
        refine LW.nil (jK78 _ _ ⟨_, ?_, ⟨true, F, rfl, H⟩⟩)
        exact ⟨rfl, rfl, rfl, rfl, rfl, trivial⟩
      ·
        replace F := ite_n hp18 F
        have hq18 := dec_f hp18
        refine CW.region ?_
        refine LW.pure rfl rfl (RV.loadA [.int .i64 a0.layers, .slice A_a0_bounds a0.bounds.length c_a0_bounds] Tk24 rfl (H.blk 0 rfl).cells rfl rfl) ?_
        refine LW.go rfl rfl (OW.call Tc17 rfl (law03_Long_ok (a0 := a0) (h_a0_bounds.ext R0) hr12) ?_)
        rintro _ w23 ⟨rfl, E16⟩
        refine ⟨_, rfl, ?_⟩
        replace H := H.grow E16
        replace R0 := H.ext
        refine LW.pure rfl rfl (RV.move rfl) ?_
        refine LW.pureYB rfl rfl rfl rfl hq17 (RV.move rfl) ?_
        refine LW.pureYB rfl rfl rfl rfl hq17 (RV.len Ts43 rfl) ?_
        refine LW.pureYB rfl rfl rfl rfl hq17 (RV.gtr rfl rfl) ?_
        refine LW.pure rfl rfl (RV.pickFB rfl hq17 rfl) ?_
        refine LW.pure rfl rfl (RV.move rfl) ?_
        refine LW.pureYB rfl rfl rfl rfl hq18 (RV.move rfl) ?_
        refine LW.pureYB rfl rfl rfl rfl hq18 (RV.len Ts43 rfl) ?_
        refine LW.pureYB rfl rfl rfl rfl hq18 (RV.gtr rfl rfl) ?_
        refine LW.pure rfl rfl (RV.pickFB rfl hq18 rfl) ?_
        refine LW.nil (jK78 _ _ ⟨_, ?_, ⟨(decide ((100 : Int) < ((a2.length : Int)))), F, rfl, H⟩⟩)
        exact ⟨rfl, rfl, rfl, rfl, rfl, trivial⟩

end Go.D3

set_option linter.unusedVariables false
namespace Go.D3
open Go.Tb Go.Core




def law03_CoreEither (a0 : Core) : Option Bool :=
  bnd (law03_Long a0) fun r1 =>
  if r1 = true then
    bnd (law03_known) fun r2 =>
    some r2
  else
    bnd (core_Dates a0) fun r3 =>
    bnd (core_Clash a0) fun r4 =>
    if r3.2.2 = r4.2.2 then
      if r3.2.2 = 0 then
        if (r3.2.1 == r4.2.1) = true then
          some false
        else
          if r3.2.1 = true then
            bnd (core_CheckDates a0 r3.1) fun r5 =>
            if r5 = 0 then
              if r4.2.1 = true then
                bnd (core_CheckClash a0 r4.1) fun r6 =>
                if r6 = 0 then
                  bnd (law03_known) fun r7 =>
                  some r7
                else
                  some false
              else
                bnd (law03_known) fun r8 =>
                some r8
            else
              some false
          else
            if r4.2.1 = true then
              bnd (core_CheckClash a0 r4.1) fun r9 =>
              if r9 = 0 then
                bnd (law03_known) fun r10 =>
                some r10
              else
                some false
            else
              bnd (law03_known) fun r11 =>
              some r11
      else
        bnd (law03_known) fun r12 =>
        some r12
    else
      some false
end Go.D3

set_option linter.unusedVariables false
set_option linter.unusedSimpArgs false
namespace Go.D3
open Go.Tb Go.Proofs Go.RowKit Go.Core



set_option maxRecDepth 20000 in
set_option maxHeartbeats 1000000 in
theorem law03_CoreEither_ok {a0 : Core} {A_a0_bounds : Option Addr} {c_a0_bounds : Nat} {w : World} {res : Bool} (h_a0_bounds : Sl w A_a0_bounds c_a0_bounds 3 (a0.bounds.map encBound)) (F : law03_CoreEither a0 = some res) : Calls Try.prog 12 #[.agg #[.int .i64 a0.layers, .slice A_a0_bounds a0.bounds.length c_a0_bounds]] w (Rt w (.bool res)) := by
  refine calls_of_cw (args := [.agg #[.int .i64 a0.layers, .slice A_a0_bounds a0.bounds.length c_a0_bounds]]) Try.func12 rfl rfl rfl rfl ?_
  have H := Hp.start w
  have R0 := H.ext
  unfold law03_CoreEither at F
  refine CW.seq fun K1 hK1 => ?_
  refine CW.region ?_
  refine LW.go rfl rfl (OW.box rfl fun b1 w1 N1 => ?_)
  replace H := H.new N1 N1.blk
  replace R0 := H.ext
  refine LW.pure rfl rfl (RV.assign rfl) ?_
  refine LW.nil (hK1 _ _ ?_)
  refine CW.seq fun K2 hK2 => ?_
  refine CW.seq fun K3 hK3 => ?_
  obtain ⟨r1, hr1, F⟩ := bnd_some F
  refine CW.region ?_
  refine LW.pure rfl rfl (RV.loadA [.int .i64 a0.layers, .slice A_a0_bounds a0.bounds.length c_a0_bounds] Tk24 rfl (H.blk 0 rfl).cells rfl rfl) ?_
  refine LW.go rfl rfl (OW.call Tc17 rfl (law03_Long_ok (a0 := a0) (h_a0_bounds.ext R0) hr1) ?_)
  rintro _ w2 ⟨rfl, E1⟩
  refine ⟨_, rfl, ?_⟩
  replace H := H.grow E1
  replace R0 := H.ext
  refine LW.nil (hK3 _ _ ?_)
  by_cases hp1 : r1 = true
  ·
    replace F := ite_y hp1 F
    have hq1 : r1 = true := hp1
    refine CW.condT rfl hq1 ?_
    refine CW.seq fun K4 hK4 => ?_
    obtain ⟨r2, hr2, F⟩ := bnd_some F
    refine CW.region ?_
    refine LW.go rfl rfl (OW.call Tc18 rfl (law03_known_ok hr2) ?_)
    rintro _ w3 ⟨rfl, E2⟩
    refine ⟨_, rfl, ?_⟩
    replace H := H.grow E2
    replace R0 := H.ext
    refine LW.pure rfl rfl (RV.assign rfl) ?_
    refine LW.nil (hK4 _ _ ?_)
    refine CW.ret ?_
    obtain rfl := Option.some.inj F
    refine ⟨_, (ResOK.one rfl), ?_⟩
    refine ⟨(by first | rfl | simp), R0⟩
  ·
    replace F := ite_n hp1 F
    have hq1 : r1 = false := raw_f hp1
    refine CW.condF rfl hq1 ?_
    refine CW.skip (hK2 _ _ ?_)
    refine CW.seq fun K5 hK5 => ?_
    obtain ⟨r3, hr3, F⟩ := bnd_some F
    refine CW.region ?_
    refine LW.pure rfl rfl (RV.loadA [.int .i64 a0.layers, .slice A_a0_bounds a0.bounds.length c_a0_bounds] Tk24 rfl (H.blk 0 rfl).cells rfl rfl) ?_
    refine LW.go rfl rfl (OW.call Tc39 rfl (core_Dates_ok (a0 := a0) (h_a0_bounds.ext R0) hr3) ?_)
    rintro _ w4 ⟨A18_0, c18_0, rfl, E3⟩
    refine ⟨_, rfl, ?_⟩
    replace H : Hp w w4 [.own A18_0 c18_0 3 1 (List.map encN r3.1), .blk b1 24 [.int .i64 a0.layers, .slice A_a0_bounds a0.bounds.length c_a0_bounds]] := H.append E3
    replace R0 := H.ext
    refine LW.pure rfl rfl (RV.move rfl) ?_
    refine LW.pure rfl rfl (RV.extract rfl rfl) ?_
    refine LW.pure rfl rfl (RV.extract rfl rfl) ?_
    refine LW.pure rfl rfl (RV.extract rfl rfl) ?_
    refine LW.pure rfl rfl (RV.assign rfl) ?_
    refine LW.pure rfl rfl (RV.assign rfl) ?_
    refine LW.pure rfl rfl (RV.assign rfl) ?_
    refine LW.nil (hK5 _ _ ?_)
    refine CW.seq fun K6 hK6 => ?_
    obtain ⟨r4, hr4, F⟩ := bnd_some F
    refine CW.region ?_
    refine LW.pure rfl rfl (RV.loadA [.int .i64 a0.layers, .slice A_a0_bounds a0.bounds.length c_a0_bounds] Tk24 rfl (H.blk 1 rfl).cells rfl rfl) ?_
    refine LW.go rfl rfl (OW.call Tc42 rfl (core_Clash_ok (a0 := a0) (h_a0_bounds.ext R0) hr4) ?_)
    rintro _ w5 ⟨A20_0, c20_0, rfl, E4⟩
    refine ⟨_, rfl, ?_⟩
    replace H : Hp w w5 [.own A20_0 c20_0 3 1 (List.map encN r4.1), .own A18_0 c18_0 3 1 (List.map encN r3.1), .blk b1 24 [.int .i64 a0.layers, .slice A_a0_bounds a0.bounds.length c_a0_bounds]] := H.append E4
    replace R0 := H.ext
    refine LW.pure rfl rfl (RV.move rfl) ?_
    refine LW.pure rfl rfl (RV.extract rfl rfl) ?_
    refine LW.pure rfl rfl (RV.extract rfl rfl) ?_
    refine LW.pure rfl rfl (RV.extract rfl rfl) ?_
    refine LW.pure rfl rfl (RV.assign rfl) ?_
    refine LW.pure rfl rfl (RV.assign rfl) ?_
    refine LW.pure rfl rfl (RV.assign rfl) ?_
    refine LW.nil (hK6 _ _ ?_)
    refine CW.seq fun K7 hK7 => ?_
    refine CW.seq fun K8 hK8 => ?_
    refine CW.region ?_
    refine LW.pure rfl rfl (RV.move rfl) ?_
    refine LW.pure rfl rfl (RV.move rfl) ?_
    refine LW.pure rfl rfl (RV.nei rfl rfl) ?_
    refine LW.nil (hK8 _ _ ?_)
    by_cases hp2 : r3.2.2 = r4.2.2
    ·
      replace F := ite_y hp2 F
      have hq2 := dec_t hp2
      refine CW.condF rfl (not_f hq2) ?_
      refine CW.skip (hK7 _ _ ?_)
      refine CW.seq fun K9 hK9 => ?_
      refine CW.seq fun K10 hK10 => ?_
      refine CW.region ?_
      refine LW.pure rfl rfl (RV.move rfl) ?_
      refine LW.pure rfl rfl (RV.nei rfl rfl) ?_
      refine LW.nil (hK10 _ _ ?_)
      by_cases hp3 : r3.2.2 = 0
      ·
        replace F := ite_y hp3 F
        have hq3 := dec_t hp3
        refine CW.condF rfl (not_f hq3) ?_
        refine CW.skip (hK9 _ _ ?_)
        refine CW.seq fun K11 hK11 => ?_
        by_cases hp4 : (r3.2.1 == r4.2.1) = true
        ·
          replace F := ite_y hp4 F
          have hq4 : (r3.2.1 == r4.2.1) = true := hp4
          refine CW.region ?_
          refine LW.pure rfl rfl (RV.move rfl) ?_
          refine LW.pure rfl rfl (RV.move rfl) ?_
          refine LW.pure rfl rfl (RV.neb Tb4 rfl rfl) ?_
          refine LW.pure rfl rfl (RV.move rfl) ?_
          refine LW.noB rfl rfl rfl rfl (ne_beq (v := false) (not_f hq4) rfl) ?_
          refine LW.noB rfl rfl rfl rfl (ne_beq (v := false) (not_f hq4) rfl) ?_
          refine LW.noB rfl rfl rfl rfl (ne_beq (v := false) (not_f hq4) rfl) ?_
          refine LW.noU rfl rfl rfl rfl ?_
          refine LW.noU rfl rfl rfl rfl ?_
          refine LW.noU rfl rfl rfl rfl ?_
          refine LW.noU rfl rfl rfl rfl ?_
          refine LW.noB rfl rfl rfl rfl (ne_beq (v := false) (not_f hq4) rfl) ?_
          refine LW.pure rfl rfl (RV.pickFB rfl (not_f hq4) rfl) ?_
          refine LW.pure rfl rfl (RV.move rfl) ?_
          refine LW.noB rfl rfl rfl rfl (ne_beq (v := false) rfl rfl) ?_
          refine LW.noB rfl rfl rfl rfl (ne_beq (v := false) rfl rfl) ?_
          refine LW.noB rfl rfl rfl rfl (ne_beq (v := false) rfl rfl) ?_
          refine LW.noU rfl rfl rfl rfl ?_
          refine LW.noU rfl rfl rfl rfl ?_
          refine LW.noU rfl rfl rfl rfl ?_
          refine LW.noU rfl rfl rfl rfl ?_
          refine LW.noB rfl rfl rfl rfl (ne_beq (v := false) rfl rfl) ?_
          refine LW.pure rfl rfl (RV.pickFB rfl rfl rfl) ?_
          refine LW.pure rfl rfl (RV.move rfl) ?_
          refine LW.noB rfl rfl rfl rfl (ne_beq (v := false) rfl rfl) ?_
          refine LW.pure rfl rfl (RV.pickFB rfl rfl rfl) ?_
          refine LW.pure rfl rfl (RV.assign rfl) ?_
          refine LW.nil (hK11 _ _ ?_)
          refine CW.ret ?_
          obtain rfl := Option.some.inj F
          refine ⟨_, (ResOK.one rfl), ?_⟩
          refine ⟨(by first | rfl | simp), R0⟩
        ·
          replace F := ite_n hp4 F
          have hq4 : (r3.2.1 == r4.2.1) = false := raw_f hp4
          by_cases hp5 : r3.2.1 = true
          ·
            replace F := ite_y hp5 F
            have hq5 : r3.2.1 = true := hp5
            obtain ⟨r5, hr5, F⟩ := bnd_some F
            by_cases hp6 : r5 = 0
            ·
              replace F := ite_y hp6 F
              have hq6 := dec_t hp6
              by_cases hp7 : r4.2.1 = true
              ·
                replace F := ite_y hp7 F
                have hq7 : r4.2.1 = true := hp7
                obtain ⟨r6, hr6, F⟩ := bnd_some F
                by_cases hp8 : r6 = 0
                ·
                  replace F := ite_y hp8 F
                  have hq8 := dec_t hp8
                  obtain ⟨r7, hr7, F⟩ := bnd_some F
                  refine CW.region ?_
                  refine LW.pure rfl rfl (RV.move rfl) ?_
                  refine LW.pure rfl rfl (RV.move rfl) ?_
                  refine LW.pure rfl rfl (RV.neb Tb4 rfl rfl) ?_
                  refine LW.pure rfl rfl (RV.move rfl) ?_
                  refine LW.pureYB rfl rfl rfl rfl (not_t hq4) (RV.move rfl) ?_
                  refine LW.pureYB rfl rfl rfl rfl (not_t hq4) (RV.not rfl) ?_
                  refine LW.pureYB rfl rfl rfl rfl (not_t hq4) (RV.move rfl) ?_
                  refine LW.pureYB rfl rfl rfl rfl (not_f hq5) (RV.loadA [.int .i64 a0.layers, .slice A_a0_bounds a0.bounds.length c_a0_bounds] Tk24 rfl (H.blk 2 rfl).cells rfl rfl) ?_
                  refine LW.pureYB rfl rfl rfl rfl (not_f hq5) (RV.move rfl) ?_
                  refine LW.yesB rfl rfl rfl rfl (not_f hq5) (OW.call Tc33 rfl (core_CheckDates_ok (a0 := a0) (a1 := r3.1) (h_a0_bounds.ext R0) (H.own 1 rfl).sl hr5) ?_)
                  rintro _ w6 ⟨rfl, E5⟩
                  refine ⟨_, rfl, ?_⟩
                  replace H := H.grow E5
                  replace R0 := H.ext
                  refine LW.pureYB rfl rfl rfl rfl (not_f hq5) (RV.eqi rfl rfl) ?_
                  refine LW.pureYB rfl rfl rfl rfl (not_t hq4) (RV.pickFB rfl (not_f hq5) rfl) ?_
                  refine LW.pure rfl rfl (RV.pickTB rfl (not_t hq4) rfl) ?_
                  refine LW.pure rfl rfl (RV.move rfl) ?_
                  refine LW.pureYB rfl rfl rfl rfl hq6 (RV.move rfl) ?_
                  refine LW.pureYB rfl rfl rfl rfl hq6 (RV.not rfl) ?_
                  refine LW.pureYB rfl rfl rfl rfl hq6 (RV.move rfl) ?_
                  refine LW.pureYB rfl rfl rfl rfl (not_f hq7) (RV.loadA [.int .i64 a0.layers, .slice A_a0_bounds a0.bounds.length c_a0_bounds] Tk24 rfl (H.blk 2 rfl).cells rfl rfl) ?_
                  refine LW.pureYB rfl rfl rfl rfl (not_f hq7) (RV.move rfl) ?_
                  refine LW.yesB rfl rfl rfl rfl (not_f hq7) (OW.call Tc40 rfl (core_CheckClash_ok (a0 := a0) (a1 := r4.1) (h_a0_bounds.ext R0) (H.own 0 rfl).sl hr6) ?_)
                  rintro _ w7 ⟨rfl, E6⟩
                  refine ⟨_, rfl, ?_⟩
                  replace H := H.grow E6
                  replace R0 := H.ext
                  refine LW.pureYB rfl rfl rfl rfl (not_f hq7) (RV.eqi rfl rfl) ?_
                  refine LW.pureYB rfl rfl rfl rfl hq6 (RV.pickFB rfl (not_f hq7) rfl) ?_
                  refine LW.pure rfl rfl (RV.pickTB rfl hq6 rfl) ?_
                  refine LW.pure rfl rfl (RV.move rfl) ?_
                  refine LW.yesB rfl rfl rfl rfl hq8 (OW.call Tc18 rfl (law03_known_ok hr7) ?_)
                  rintro _ w8 ⟨rfl, E7⟩
                  refine ⟨_, rfl, ?_⟩
                  replace H := H.grow E7
                  replace R0 := H.ext
                  refine LW.pure rfl rfl (RV.pickTB rfl hq8 rfl) ?_
                  refine LW.pure rfl rfl (RV.assign rfl) ?_
                  refine LW.nil (hK11 _ _ ?_)
                  refine CW.ret ?_
                  obtain rfl := Option.some.inj F
                  refine ⟨_, (ResOK.one rfl), ?_⟩
                  refine ⟨(by first | rfl | simp), R0⟩
                ·
                  replace F := ite_n hp8 F
                  have hq8 := dec_f hp8
                  refine CW.region ?_
                  refine LW.pure rfl rfl (RV.move rfl) ?_
                  refine LW.pure rfl rfl (RV.move rfl) ?_
                  refine LW.pure rfl rfl (RV.neb Tb4 rfl rfl) ?_
                  refine LW.pure rfl rfl (RV.move rfl) ?_
                  refine LW.pureYB rfl rfl rfl rfl (not_t hq4) (RV.move rfl) ?_
                  refine LW.pureYB rfl rfl rfl rfl (not_t hq4) (RV.not rfl) ?_
                  refine LW.pureYB rfl rfl rfl rfl (not_t hq4) (RV.move rfl) ?_
                  refine LW.pureYB rfl rfl rfl rfl (not_f hq5) (RV.loadA [.int .i64 a0.layers, .slice A_a0_bounds a0.bounds.length c_a0_bounds] Tk24 rfl (H.blk 2 rfl).cells rfl rfl) ?_
                  refine LW.pureYB rfl rfl rfl rfl (not_f hq5) (RV.move rfl) ?_
                  refine LW.yesB rfl rfl rfl rfl (not_f hq5) (OW.call Tc33 rfl (core_CheckDates_ok (a0 := a0) (a1 := r3.1) (h_a0_bounds.ext R0) (H.own 1 rfl).sl hr5) ?_)
                  rintro _ w9 ⟨rfl, E8⟩
                  refine ⟨_, rfl, ?_⟩
                  replace H := H.grow E8
                  replace R0 := H.ext
                  refine LW.pureYB rfl rfl rfl rfl (not_f hq5) (RV.eqi rfl rfl) ?_
                  refine LW.pureYB rfl rfl rfl rfl (not_t hq4) (RV.pickFB rfl (not_f hq5) rfl) ?_
                  refine LW.pure rfl rfl (RV.pickTB rfl (not_t hq4) rfl) ?_
                  refine LW.pure rfl rfl (RV.move rfl) ?_
                  refine LW.pureYB rfl rfl rfl rfl hq6 (RV.move rfl) ?_
                  refine LW.pureYB rfl rfl rfl rfl hq6 (RV.not rfl) ?_
                  refine LW.pureYB rfl rfl rfl rfl hq6 (RV.move rfl) ?_
                  refine LW.pureYB rfl rfl rfl rfl (not_f hq7) (RV.loadA [.int .i64 a0.layers, .slice A_a0_bounds a0.bounds.length c_a0_bounds] Tk24 rfl (H.blk 2 rfl).cells rfl rfl) ?_
                  refine LW.pureYB rfl rfl rfl rfl (not_f hq7) (RV.move rfl) ?_
                  refine LW.yesB rfl rfl rfl rfl (not_f hq7) (OW.call Tc40 rfl (core_CheckClash_ok (a0 := a0) (a1 := r4.1) (h_a0_bounds.ext R0) (H.own 0 rfl).sl hr6) ?_)
                  rintro _ w10 ⟨rfl, E9⟩
                  refine ⟨_, rfl, ?_⟩
                  replace H := H.grow E9
                  replace R0 := H.ext
                  refine LW.pureYB rfl rfl rfl rfl (not_f hq7) (RV.eqi rfl rfl) ?_
                  refine LW.pureYB rfl rfl rfl rfl hq6 (RV.pickFB rfl (not_f hq7) rfl) ?_
                  refine LW.pure rfl rfl (RV.pickTB rfl hq6 rfl) ?_
                  refine LW.pure rfl rfl (RV.move rfl) ?_
                  refine LW.noB rfl rfl rfl rfl (ne_beq (v := false) hq8 rfl) ?_
                  refine LW.pure rfl rfl (RV.pickFB rfl hq8 rfl) ?_
                  refine LW.pure rfl rfl (RV.assign rfl) ?_
                  refine LW.nil (hK11 _ _ ?_)
                  refine CW.ret ?_
                  obtain rfl := Option.some.inj F
                  refine ⟨_, (ResOK.one rfl), ?_⟩
                  refine ⟨(by first | rfl | simp), R0⟩
              ·
                replace F := ite_n hp7 F
                have hq7 : r4.2.1 = false := raw_f hp7
                obtain ⟨r8, hr8, F⟩ := bnd_some F
                refine CW.region ?_
                refine LW.pure rfl rfl (RV.move rfl) ?_
                refine LW.pure rfl rfl (RV.move rfl) ?_
                refine LW.pure rfl rfl (RV.neb Tb4 rfl rfl) ?_
                refine LW.pure rfl rfl (RV.move rfl) ?_
                refine LW.pureYB rfl rfl rfl rfl (not_t hq4) (RV.move rfl) ?_
                refine LW.pureYB rfl rfl rfl rfl (not_t hq4) (RV.not rfl) ?_
                refine LW.pureYB rfl rfl rfl rfl (not_t hq4) (RV.move rfl) ?_
                refine LW.pureYB rfl rfl rfl rfl (not_f hq5) (RV.loadA [.int .i64 a0.layers, .slice A_a0_bounds a0.bounds.length c_a0_bounds] Tk24 rfl (H.blk 2 rfl).cells rfl rfl) ?_
                refine LW.pureYB rfl rfl rfl rfl (not_f hq5) (RV.move rfl) ?_
                refine LW.yesB rfl rfl rfl rfl (not_f hq5) (OW.call Tc33 rfl (core_CheckDates_ok (a0 := a0) (a1 := r3.1) (h_a0_bounds.ext R0) (H.own 1 rfl).sl hr5) ?_)
                rintro _ w11 ⟨rfl, E10⟩
                refine ⟨_, rfl, ?_⟩
                replace H := H.grow E10
                replace R0 := H.ext
                refine LW.pureYB rfl rfl rfl rfl (not_f hq5) (RV.eqi rfl rfl) ?_
                refine LW.pureYB rfl rfl rfl rfl (not_t hq4) (RV.pickFB rfl (not_f hq5) rfl) ?_
                refine LW.pure rfl rfl (RV.pickTB rfl (not_t hq4) rfl) ?_
                refine LW.pure rfl rfl (RV.move rfl) ?_
                refine LW.pureYB rfl rfl rfl rfl hq6 (RV.move rfl) ?_
                refine LW.pureYB rfl rfl rfl rfl hq6 (RV.not rfl) ?_
                refine LW.pureYB rfl rfl rfl rfl hq6 (RV.move rfl) ?_
                refine LW.noB rfl rfl rfl rfl (ne_beq (v := true) (not_t hq7) rfl) ?_
                refine LW.noB rfl rfl rfl rfl (ne_beq (v := true) (not_t hq7) rfl) ?_
                refine LW.noB rfl rfl rfl rfl (ne_beq (v := true) (not_t hq7) rfl) ?_
                refine LW.noB rfl rfl rfl rfl (ne_beq (v := true) (not_t hq7) rfl) ?_
                refine LW.pureYB rfl rfl rfl rfl hq6 (RV.pickTB rfl (not_t hq7) rfl) ?_
                refine LW.pure rfl rfl (RV.pickTB rfl hq6 rfl) ?_
                refine LW.pure rfl rfl (RV.move rfl) ?_
                refine LW.yesB rfl rfl rfl rfl rfl (OW.call Tc18 rfl (law03_known_ok hr8) ?_)
                rintro _ w12 ⟨rfl, E11⟩
                refine ⟨_, rfl, ?_⟩
                replace H := H.grow E11
                replace R0 := H.ext
                refine LW.pure rfl rfl (RV.pickTB rfl rfl rfl) ?_
                refine LW.pure rfl rfl (RV.assign rfl) ?_
                refine LW.nil (hK11 _ _ ?_)
                refine CW.ret ?_
                obtain rfl := Option.some.inj F
                refine ⟨_, (ResOK.one rfl), ?_⟩
                refine ⟨(by first | rfl | simp), R0⟩
            ·
              replace F := ite_n hp6 F
              have hq6 := dec_f hp6
              refine CW.region ?_
              refine LW.pure rfl rfl (RV.move rfl) ?_
              refine LW.pure rfl rfl (RV.move rfl) ?_
              refine LW.pure rfl rfl (RV.neb Tb4 rfl rfl) ?_
              refine LW.pure rfl rfl (RV.move rfl) ?_
              refine LW.pureYB rfl rfl rfl rfl (not_t hq4) (RV.move rfl) ?_
              refine LW.pureYB rfl rfl rfl rfl (not_t hq4) (RV.not rfl) ?_
              refine LW.pureYB rfl rfl rfl rfl (not_t hq4) (RV.move rfl) ?_
              refine LW.pureYB rfl rfl rfl rfl (not_f hq5) (RV.loadA [.int .i64 a0.layers, .slice A_a0_bounds a0.bounds.length c_a0_bounds] Tk24 rfl (H.blk 2 rfl).cells rfl rfl) ?_
              refine LW.pureYB rfl rfl rfl rfl (not_f hq5) (RV.move rfl) ?_
              refine LW.yesB rfl rfl rfl rfl (not_f hq5) (OW.call Tc33 rfl (core_CheckDates_ok (a0 := a0) (a1 := r3.1) (h_a0_bounds.ext R0) (H.own 1 rfl).sl hr5) ?_)
              rintro _ w13 ⟨rfl, E12⟩
              refine ⟨_, rfl, ?_⟩
              replace H := H.grow E12
              replace R0 := H.ext
              refine LW.pureYB rfl rfl rfl rfl (not_f hq5) (RV.eqi rfl rfl) ?_
              refine LW.pureYB rfl rfl rfl rfl (not_t hq4) (RV.pickFB rfl (not_f hq5) rfl) ?_
              refine LW.pure rfl rfl (RV.pickTB rfl (not_t hq4) rfl) ?_
              refine LW.pure rfl rfl (RV.move rfl) ?_
              refine LW.noB rfl rfl rfl rfl (ne_beq (v := false) hq6 rfl) ?_
              refine LW.noB rfl rfl rfl rfl (ne_beq (v := false) hq6 rfl) ?_
              refine LW.noB rfl rfl rfl rfl (ne_beq (v := false) hq6 rfl) ?_
              refine LW.noU rfl rfl rfl rfl ?_
              refine LW.noU rfl rfl rfl rfl ?_
              refine LW.noU rfl rfl rfl rfl ?_
              refine LW.noU rfl rfl rfl rfl ?_
              refine LW.noB rfl rfl rfl rfl (ne_beq (v := false) hq6 rfl) ?_
              refine LW.pure rfl rfl (RV.pickFB rfl hq6 rfl) ?_
              refine LW.pure rfl rfl (RV.move rfl) ?_
              refine LW.noB rfl rfl rfl rfl (ne_beq (v := false) rfl rfl) ?_
              refine LW.pure rfl rfl (RV.pickFB rfl rfl rfl) ?_
              refine LW.pure rfl rfl (RV.assign rfl) ?_
              refine LW.nil (hK11 _ _ ?_)
              refine CW.ret ?_
              obtain rfl := Option.some.inj F
              refine ⟨_, (ResOK.one rfl), ?_⟩
              refine ⟨(by first | rfl | simp), R0⟩
          ·
            replace F := ite_n hp5 F
            have hq5 : r3.2.1 = false := raw_f hp5
            by_cases hp9 : r4.2.1 = true
            ·
              replace F := ite_y hp9 F
              have hq9 : r4.2.1 = true := hp9
              obtain ⟨r9, hr9, F⟩ := bnd_some F
              by_cases hp10 : r9 = 0
              ·
                replace F := ite_y hp10 F
                have hq10 := dec_t hp10
                obtain ⟨r10, hr10, F⟩ := bnd_some F
                refine CW.region ?_
                refine LW.pure rfl rfl (RV.move rfl) ?_
                refine LW.pure rfl rfl (RV.move rfl) ?_
                refine LW.pure rfl rfl (RV.neb Tb4 rfl rfl) ?_
                refine LW.pure rfl rfl (RV.move rfl) ?_
                refine LW.pureYB rfl rfl rfl rfl (not_t hq4) (RV.move rfl) ?_
                refine LW.pureYB rfl rfl rfl rfl (not_t hq4) (RV.not rfl) ?_
                refine LW.pureYB rfl rfl rfl rfl (not_t hq4) (RV.move rfl) ?_
                refine LW.noB rfl rfl rfl rfl (ne_beq (v := true) (not_t hq5) rfl) ?_
                refine LW.noB rfl rfl rfl rfl (ne_beq (v := true) (not_t hq5) rfl) ?_
                refine LW.noB rfl rfl rfl rfl (ne_beq (v := true) (not_t hq5) rfl) ?_
                refine LW.noB rfl rfl rfl rfl (ne_beq (v := true) (not_t hq5) rfl) ?_
                refine LW.pureYB rfl rfl rfl rfl (not_t hq4) (RV.pickTB rfl (not_t hq5) rfl) ?_
                refine LW.pure rfl rfl (RV.pickTB rfl (not_t hq4) rfl) ?_
                refine LW.pure rfl rfl (RV.move rfl) ?_
                refine LW.pureYB rfl rfl rfl rfl rfl (RV.move rfl) ?_
                refine LW.pureYB rfl rfl rfl rfl rfl (RV.not rfl) ?_
                refine LW.pureYB rfl rfl rfl rfl rfl (RV.move rfl) ?_
                refine LW.pureYB rfl rfl rfl rfl (not_f hq9) (RV.loadA [.int .i64 a0.layers, .slice A_a0_bounds a0.bounds.length c_a0_bounds] Tk24 rfl (H.blk 2 rfl).cells rfl rfl) ?_
                refine LW.pureYB rfl rfl rfl rfl (not_f hq9) (RV.move rfl) ?_
                refine LW.yesB rfl rfl rfl rfl (not_f hq9) (OW.call Tc40 rfl (core_CheckClash_ok (a0 := a0) (a1 := r4.1) (h_a0_bounds.ext R0) (H.own 0 rfl).sl hr9) ?_)
                rintro _ w14 ⟨rfl, E13⟩
                refine ⟨_, rfl, ?_⟩
                replace H := H.grow E13
                replace R0 := H.ext
                refine LW.pureYB rfl rfl rfl rfl (not_f hq9) (RV.eqi rfl rfl) ?_
                refine LW.pureYB rfl rfl rfl rfl rfl (RV.pickFB rfl (not_f hq9) rfl) ?_
                refine LW.pure rfl rfl (RV.pickTB rfl rfl rfl) ?_
                refine LW.pure rfl rfl (RV.move rfl) ?_
                refine LW.yesB rfl rfl rfl rfl hq10 (OW.call Tc18 rfl (law03_known_ok hr10) ?_)
                rintro _ w15 ⟨rfl, E14⟩
                refine ⟨_, rfl, ?_⟩
                replace H := H.grow E14
                replace R0 := H.ext
                refine LW.pure rfl rfl (RV.pickTB rfl hq10 rfl) ?_
                refine LW.pure rfl rfl (RV.assign rfl) ?_
                refine LW.nil (hK11 _ _ ?_)
                refine CW.ret ?_
                obtain rfl := Option.some.inj F
                refine ⟨_, (ResOK.one rfl), ?_⟩
                refine ⟨(by first | rfl | simp), R0⟩
              ·
                replace F := ite_n hp10 F
                have hq10 := dec_f hp10
                refine CW.region ?_
                refine LW.pure rfl rfl (RV.move rfl) ?_
                refine LW.pure rfl rfl (RV.move rfl) ?_
                refine LW.pure rfl rfl (RV.neb Tb4 rfl rfl) ?_
                refine LW.pure rfl rfl (RV.move rfl) ?_
                refine LW.pureYB rfl rfl rfl rfl (not_t hq4) (RV.move rfl) ?_
                refine LW.pureYB rfl rfl rfl rfl (not_t hq4) (RV.not rfl) ?_
                refine LW.pureYB rfl rfl rfl rfl (not_t hq4) (RV.move rfl) ?_
                refine LW.noB rfl rfl rfl rfl (ne_beq (v := true) (not_t hq5) rfl) ?_
                refine LW.noB rfl rfl rfl rfl (ne_beq (v := true) (not_t hq5) rfl) ?_
                refine LW.noB rfl rfl rfl rfl (ne_beq (v := true) (not_t hq5) rfl) ?_
                refine LW.noB rfl rfl rfl rfl (ne_beq (v := true) (not_t hq5) rfl) ?_
                refine LW.pureYB rfl rfl rfl rfl (not_t hq4) (RV.pickTB rfl (not_t hq5) rfl) ?_
                refine LW.pure rfl rfl (RV.pickTB rfl (not_t hq4) rfl) ?_
                refine LW.pure rfl rfl (RV.move rfl) ?_
                refine LW.pureYB rfl rfl rfl rfl rfl (RV.move rfl) ?_
                refine LW.pureYB rfl rfl rfl rfl rfl (RV.not rfl) ?_
                refine LW.pureYB rfl rfl rfl rfl rfl (RV.move rfl) ?_
                refine LW.pureYB rfl rfl rfl rfl (not_f hq9) (RV.loadA [.int .i64 a0.layers, .slice A_a0_bounds a0.bounds.length c_a0_bounds] Tk24 rfl (H.blk 2 rfl).cells rfl rfl) ?_
                refine LW.pureYB rfl rfl rfl rfl (not_f hq9) (RV.move rfl) ?_
                refine LW.yesB rfl rfl rfl rfl (not_f hq9) (OW.call Tc40 rfl (core_CheckClash_ok (a0 := a0) (a1 := r4.1) (h_a0_bounds.ext R0) (H.own 0 rfl).sl hr9) ?_)
                rintro _ w16 ⟨rfl, E15⟩
                refine ⟨_, rfl, ?_⟩
                replace H := H.grow E15
                replace R0 := H.ext
                refine LW.pureYB rfl rfl rfl rfl (not_f hq9) (RV.eqi rfl rfl) ?_
                refine LW.pureYB rfl rfl rfl rfl rfl (RV.pickFB rfl (not_f hq9) rfl) ?_
                refine LW.pure rfl rfl (RV.pickTB rfl rfl rfl) ?_
                refine LW.pure rfl rfl (RV.move rfl) ?_
                refine LW.noB rfl rfl rfl rfl (ne_beq (v := false) hq10 rfl) ?_
                refine LW.pure rfl rfl (RV.pickFB rfl hq10 rfl) ?_
                refine LW.pure rfl rfl (RV.assign rfl) ?_
                refine LW.nil (hK11 _ _ ?_)
                refine CW.ret ?_
                obtain rfl := Option.some.inj F
                refine ⟨_, (ResOK.one rfl), ?_⟩
                refine ⟨(by first | rfl | simp), R0⟩
            ·
              replace F := ite_n hp9 F
              have hq9 : r4.2.1 = false := raw_f hp9
              obtain ⟨r11, hr11, F⟩ := bnd_some F
              refine CW.region ?_
              refine LW.pure rfl rfl (RV.move rfl) ?_
              refine LW.pure rfl rfl (RV.move rfl) ?_
              refine LW.pure rfl rfl (RV.neb Tb4 rfl rfl) ?_
              refine LW.pure rfl rfl (RV.move rfl) ?_
              refine LW.pureYB rfl rfl rfl rfl (not_t hq4) (RV.move rfl) ?_
              refine LW.pureYB rfl rfl rfl rfl (not_t hq4) (RV.not rfl) ?_
              refine LW.pureYB rfl rfl rfl rfl (not_t hq4) (RV.move rfl) ?_
              refine LW.noB rfl rfl rfl rfl (ne_beq (v := true) (not_t hq5) rfl) ?_
              refine LW.noB rfl rfl rfl rfl (ne_beq (v := true) (not_t hq5) rfl) ?_
              refine LW.noB rfl rfl rfl rfl (ne_beq (v := true) (not_t hq5) rfl) ?_
              refine LW.noB rfl rfl rfl rfl (ne_beq (v := true) (not_t hq5) rfl) ?_
              refine LW.pureYB rfl rfl rfl rfl (not_t hq4) (RV.pickTB rfl (not_t hq5) rfl) ?_
              refine LW.pure rfl rfl (RV.pickTB rfl (not_t hq4) rfl) ?_
              refine LW.pure rfl rfl (RV.move rfl) ?_
              refine LW.pureYB rfl rfl rfl rfl rfl (RV.move rfl) ?_
              refine LW.pureYB rfl rfl rfl rfl rfl (RV.not rfl) ?_
              refine LW.pureYB rfl rfl rfl rfl rfl (RV.move rfl) ?_
              refine LW.noB rfl rfl rfl rfl (ne_beq (v := true) (not_t hq9) rfl) ?_
              refine LW.noB rfl rfl rfl rfl (ne_beq (v := true) (not_t hq9) rfl) ?_
              refine LW.noB rfl rfl rfl rfl (ne_beq (v := true) (not_t hq9) rfl) ?_
              refine LW.noB rfl rfl rfl rfl (ne_beq (v := true) (not_t hq9) rfl) ?_
              refine LW.pureYB rfl rfl rfl rfl rfl (RV.pickTB rfl (not_t hq9) rfl) ?_
              refine LW.pure rfl rfl (RV.pickTB rfl rfl rfl) ?_
              refine LW.pure rfl rfl (RV.move rfl) ?_
              refine LW.yesB rfl rfl rfl rfl rfl (OW.call Tc18 rfl (law03_known_ok hr11) ?_)
              rintro _ w17 ⟨rfl, E16⟩
              refine ⟨_, rfl, ?_⟩
              replace H := H.grow E16
              replace R0 := H.ext
              refine LW.pure rfl rfl (RV.pickTB rfl rfl rfl) ?_
              refine LW.pure rfl rfl (RV.assign rfl) ?_
              refine LW.nil (hK11 _ _ ?_)
              refine CW.ret ?_
              obtain rfl := Option.some.inj F
              refine ⟨_, (ResOK.one rfl), ?_⟩
              refine ⟨(by first | rfl | simp), R0⟩
      ·
        replace F := ite_n hp3 F
        have hq3 := dec_f hp3
        refine CW.condT rfl (not_t hq3) ?_
        refine CW.seq fun K12 hK12 => ?_
        obtain ⟨r12, hr12, F⟩ := bnd_some F
        refine CW.region ?_
        refine LW.go rfl rfl (OW.call Tc18 rfl (law03_known_ok hr12) ?_)
        rintro _ w18 ⟨rfl, E17⟩
        refine ⟨_, rfl, ?_⟩
        replace H := H.grow E17
        replace R0 := H.ext
        refine LW.pure rfl rfl (RV.assign rfl) ?_
        refine LW.nil (hK12 _ _ ?_)
        refine CW.ret ?_
        obtain rfl := Option.some.inj F
        refine ⟨_, (ResOK.one rfl), ?_⟩
        refine ⟨(by first | rfl | simp), R0⟩
    ·
      replace F := ite_n hp2 F
      have hq2 := dec_f hp2
      refine CW.condT rfl (not_t hq2) ?_
      refine CW.seq fun K13 hK13 => ?_
      refine CW.region ?_
      refine LW.pure rfl rfl (RV.assign rfl) ?_
      refine LW.nil (hK13 _ _ ?_)
      refine CW.ret ?_
      obtain rfl := Option.some.inj F
      refine ⟨_, (ResOK.one rfl), ?_⟩
      refine ⟨(by first | rfl | simp), R0⟩

end Go.D3

/- Loops of the functional texts, in closed form. -/
namespace Go.Tb
/-- A loop over 0 .. N - 1 with a state, that is left at the first i for which p does not hold. -/
theorem scan_loop {S R : Type} (N : Nat) (p : Nat → Bool) (g : Nat → S) (L : Nat → S → Int → Option R) (yes : Option R) (no : Nat → Option R)
    (step : ∀ n i : Nat, i < N → L (n + 1) (g i) (i : Int) = if p i = true then L n (g (i + 1)) ((i + 1 : Nat) : Int) else no i)
    (stop : ∀ n : Nat, L (n + 1) (g N) (N : Int) = yes) : ∀ (d n i : Nat), N = i + d → d < n → L n (g i) (i : Int) = match (List.range' i d).find? (fun j => !p j) with | none => yes | some j => no j
  | 0, n + 1, i, hd, hn => by
    have hi : i = N := by omega
    subst hi
    rw [stop n]; rfl
  | d + 1, n + 1, i, hd, hn => by
    rw [step n i (by omega), List.range'_succ, List.find?_cons]
    cases hp : p i
    · simp
    · simp only [if_true, Bool.not_true]
      exact scan_loop N p g L yes no step stop d n (i + 1) (by omega) (by omega)
theorem find_all {p : Nat → Bool} {i d : Nat} : (List.range' i d).find? (fun j => !p j) = none ↔ ∀ j, i ≤ j → j < i + d → p j = true := by
  rw [List.find?_eq_none]
  constructor
  · intro h j h1 h2
    have := h j (by rw [List.mem_range'_1]; omega)
    simpa using this
  · intro h x hx
    rw [List.mem_range'_1] at hx
    simp [h x hx.1 hx.2]
/-- A loop over 0 .. N - 1 with a state and no way out. -/
theorem for_loop {S R : Type} (N : Nat) (g : Nat → S) (L : Nat → S → Int → Option R) (yes : Option R)
    (step : ∀ n i : Nat, i < N → L (n + 1) (g i) (i : Int) = L n (g (i + 1)) ((i + 1 : Nat) : Int))
    (stop : ∀ n : Nat, L (n + 1) (g N) (N : Int) = yes) : ∀ (d n i : Nat), N = i + d → d < n → L n (g i) (i : Int) = yes
  | 0, n + 1, i, hd, hn => by
    have hi : i = N := by omega
    subst hi
    exact stop n
  | d + 1, n + 1, i, hd, hn => by
    rw [step n i (by omega)]
    exact for_loop N g L yes step stop d n (i + 1) (by omega) (by omega)
theorem for_loop0 {S R : Type} (N : Nat) (g : Nat → S) (L : Nat → S → Int → Option R) (yes : Option R)
    (step : ∀ n i : Nat, i < N → L (n + 1) (g i) (i : Int) = L n (g (i + 1)) ((i + 1 : Nat) : Int))
    (stop : ∀ n : Nat, L (n + 1) (g N) (N : Int) = yes) (hN : N ≤ 1000000) : L FU (g 0) 0 = yes :=
  for_loop N g L yes step stop N FU 0 (by omega) (by have := FU_pos; omega)
theorem scan_loop0 {S R : Type} (N : Nat) (p : Nat → Bool) (g : Nat → S) (L : Nat → S → Int → Option R) (yes no : Option R)
    (step : ∀ n i : Nat, i < N → L (n + 1) (g i) (i : Int) = if p i = true then L n (g (i + 1)) ((i + 1 : Nat) : Int) else no)
    (stop : ∀ n : Nat, L (n + 1) (g N) (N : Int) = yes) (hN : N ≤ 1000000) : L FU (g 0) 0 = if (∀ j, j < N → p j = true) then yes else no := by
  have h := scan_loop N p g L yes (fun _ => no) step stop N FU 0 (by omega) (by have := FU_pos; omega)
  refine Eq.trans h ?_
  cases hf : (List.range' 0 N).find? (fun j => !p j) with
  | none => rw [if_pos (fun j hj => find_all.1 hf j (by omega) (by omega))]
  | some j =>
    have h1 := List.find?_some hf
    have h2 := List.mem_of_find?_eq_some hf
    rw [List.mem_range'_1] at h2
    rw [if_neg]
    intro hall
    have := hall j (by omega)
    simp [this] at h1
/-- The same over the elements of a list. -/
theorem list_loop0 {α R : Type} (l : List α) (p : α → Bool) (L : Nat → Int → Option R) (yes no : Option R)
    (step : ∀ (n i : Nat) (x : α), l[i]? = some x → L (n + 1) (i : Int) = if p x = true then L n ((i + 1 : Nat) : Int) else no)
    (stop : ∀ n : Nat, L (n + 1) (l.length : Int) = yes) (hl : l.length ≤ 1000000) : L FU 0 = if l.all p = true then yes else no := by
  have h := scan_loop0 l.length (fun i => (l[i]?.map p).getD true) (fun _ => ()) (fun n _ i => L n i) yes no (fun n i hi => by
    have hx : l[i]? = some l[i] := by simp [hi]
    rw [step n i _ hx]; simp [hx]) stop hl
  refine Eq.trans h ?_
  by_cases ha : l.all p = true
  · rw [if_pos ha, if_pos]
    intro j hj
    have := List.all_eq_true.1 ha l[j] (List.getElem_mem hj)
    simp [hj, this]
  · rw [if_neg ha, if_neg]
    intro hc
    refine ha (List.all_eq_true.2 fun x hx => ?_)
    obtain ⟨j, hj⟩ := List.getElem?_of_mem hx
    have := hc j (lt_of_at hj)
    simpa [hj] using this
end Go.Tb

namespace Go.Core
open Go.Tb

def okD (n : Int) : Bool := within n (-1000000) 1000000
def badIdx (l : List Int) : Int := if l.all okD = true then -1 else ((l.takeWhile okD).length : Int)
def isDatesS (c : Core) (l : List Int) : Bool := decide ((l.length : Int) = c.layers) && l.all okD
def keeps (l : List Int) (x : Bound) : Bool := decide (gi l x.b - gi l x.a ≤ x.most)
def datedE (c : Core) (l : List Int) : Int := if validate c = 0 then (if isDatesS c l = true then 0 else 1) else validate c
def checkDates (c : Core) (l : List Int) : Int := if datedE c l = 0 then (if c.bounds.all (keeps l) = true then 0 else 7) else datedE c l
theorem takeWhile_len {α : Type} {p : α → Bool} : ∀ {l : List α} {i : Nat} {x : α}, l[i]? = some x → (l.take i).all p = true → p x = false → (l.takeWhile p).length = i
  | [], i, x, h, _, _ => by simp at h
  | a :: r, 0, x, h, _, hp => by simp at h; subst h; simp [List.takeWhile, hp]
  | a :: r, i + 1, x, h, ha, hp => by
    simp only [List.take_succ_cons, List.all_cons, Bool.and_eq_true] at ha
    simp only [List.takeWhile, ha.1, List.length_cons]
    rw [takeWhile_len (by simpa using h) ha.2 hp]
theorem datedE_ok {c : Core} {l : List Int} (h : datedE c l = 0) : validate c = 0 ∧ (l.length : Int) = c.layers ∧ ∀ n ∈ l, -1000000 ≤ n ∧ n ≤ 1000000 := by
  unfold datedE at h
  split at h
  · rename_i hv
    split at h
    · rename_i hd
      simp only [isDatesS, Bool.and_eq_true, decide_eq_true_eq] at hd
      exact ⟨hv, hd.1, fun n hn => within_iff.1 (List.all_eq_true.1 hd.2 n hn)⟩
    · omega
  · rename_i hv; exact absurd h hv
end Go.Core

namespace Go.Core
open Go.Tb

theorem checkDates_ok {c : Core} {l : List Int} (h : checkDates c l = 0) : validate c = 0 ∧ (l.length : Int) = c.layers ∧ (∀ n ∈ l, -1000000 ≤ n ∧ n ≤ 1000000) ∧ Pot c (fun i => l.getD i 0) := by
  unfold checkDates at h
  split at h
  · rename_i hd
    obtain ⟨hv, hl, hb⟩ := datedE_ok hd
    refine ⟨hv, hl, hb, ?_⟩
    split at h
    · rename_i hk
      intro x hx
      exact of_decide_eq_true (List.all_eq_true.1 hk x hx)
    · omega
  · rename_i hd; exact absurd h hd
theorem keeps_follows {c : Core} {l : List Int} {x : Bound} (h : checkDates c l = 0) (hf : (follows c x).2 = 0) : 0 ≤ x.a ∧ x.a < l.length ∧ 0 ≤ x.b ∧ x.b < l.length ∧ ((follows c x).1 = true → gi l x.b - gi l x.a ≤ x.most) := by
  obtain ⟨hv, hl, _, hp⟩ := checkDates_ok h
  unfold follows at hf ⊢
  split at hf
  · rename_i h1
    obtain ⟨_, q1, q2, q3, q4⟩ := layers_ok2 h1
    rw [if_pos h1]
    split at hf
    · rename_i h2
      rw [if_pos h2]
      split at hf
      · simp at hf
      · rename_i h3
        rw [if_neg h3]
        refine ⟨q1, by omega, q3, by omega, fun hk => ?_⟩
        simp only [followsM, Bool.and_eq_true, decide_eq_true_eq] at hk
        have := (tK_inv hv hp (Nat.le_refl c.layers.toNat)).pot x.a.toNat x.b.toNat (by omega) (by omega) hk.1
        have h4 : gi l x.b - gi l x.a ≤ (mg (table c) x.a.toNat x.b.toNat).most := this
        omega
    · simp at hf
  · rename_i h1; exact absurd hf h1
theorem keeps_tight {c : Core} {l : List Int} {a b : Int} (h : checkDates c l = 0) (hf : (tightest c a b).2.2 = 0) : 0 ≤ a ∧ a < l.length ∧ 0 ≤ b ∧ b < l.length ∧ ((tightest c a b).2.1 = true → gi l b - gi l a ≤ (tightest c a b).1) := by
  obtain ⟨hv, hl, _, hp⟩ := checkDates_ok h
  unfold tightest at hf ⊢
  split at hf
  · rename_i h1
    obtain ⟨_, q1, q2, q3, q4⟩ := layers_ok2 h1
    rw [if_pos h1]
    split at hf
    · simp at hf
    · rename_i h3
      rw [if_neg h3]
      refine ⟨q1, by omega, q3, by omega, fun hk => ?_⟩
      split at hk
      · rename_i h4
        rw [if_pos h4]
        exact (tK_inv hv hp (Nat.le_refl c.layers.toNat)).pot a.toNat b.toNat (by omega) (by omega) h4
      · simp at hk
  · rename_i h1; exact absurd hf h1
end Go.Core

set_option linter.unusedVariables false
set_option linter.unusedSimpArgs false
namespace Go.D3
open Go.Tb Go.Core

theorem FU_big : (1000000000000 : Nat) = FU := rfl
theorem known_eq : law03_known = some true := by decide +kernel
theorem within_eq (n lo hi : Int) : core_within n lo hi = some (within n lo hi) := by
  unfold core_within within
  by_cases h : lo ≤ n <;> simp [h]
theorem rwithin_eq (n lo hi : Int) : ref03_within n lo hi = some (within n lo hi) := by
  unfold ref03_within within
  by_cases h : lo ≤ n <;> simp [h]
theorem right_eq (x : Bound) (n : Int) (h : 1 ≤ n ∧ n ≤ 8) : core_right x n = some (right x n) := by
  unfold core_right right
  rw [gd_pos (by omega), bnd_eq (within_eq _ _ _)]
  cases h1 : within x.a 0 (n - 1) <;> simp only [Bool.false_and, Bool.true_and, Bool.false_eq_true, if_false, if_true]
  rw [gd_pos (by omega), bnd_eq (within_eq _ _ _)]
  cases h2 : within x.b 0 (n - 1) <;> simp only [Bool.false_and, Bool.true_and, Bool.false_eq_true, if_false, if_true]
  by_cases h3 : x.a = x.b <;> simp [h3, within_eq]
theorem isBound_eq (x : Bound) (n : Int) (h : 1 ≤ n ∧ n ≤ 8) : ref03_isBound x n = some (right x n) := by
  unfold ref03_isBound right
  rw [gd_pos (by omega), bnd_eq (rwithin_eq _ _ _)]
  cases h1 : within x.a 0 (n - 1) <;> simp only [Bool.false_and, Bool.true_and, Bool.false_eq_true, if_false, if_true]
  rw [gd_pos (by omega), bnd_eq (rwithin_eq _ _ _)]
  cases h2 : within x.b 0 (n - 1) <;> simp only [Bool.false_and, Bool.true_and, Bool.false_eq_true, if_false, if_true]
  by_cases h3 : x.a = x.b <;> simp [h3, rwithin_eq]

/-- A loop over a list that stops at the first element for which p does not hold. -/
theorem all_loop {α R : Type} (l : List α) (p : α → Bool) (L : Nat → Int → Option R) (yes no : Option R)
    (step : ∀ (n i : Nat) (x : α), l[i]? = some x → L (n + 1) (i : Int) = if p x = true then L n ((i + 1 : Nat) : Int) else no)
    (stop : ∀ n : Nat, L (n + 1) (l.length : Int) = yes) : ∀ (d n i : Nat), l.length = i + d → d < n → L n (i : Int) = if (l.drop i).all p = true then yes else no
  | 0, n + 1, i, hd, hn => by
    have hi : i = l.length := by omega
    subst hi
    rw [stop n, List.drop_length]
    simp
  | d + 1, n + 1, i, hd, hn => by
    have hlt : i < l.length := by omega
    rw [step n i l[i] (by simp [hlt])]
    have hdrop : l.drop i = l[i] :: l.drop (i + 1) := List.drop_eq_getElem_cons hlt
    rw [hdrop, List.all_cons]
    cases hp : p l[i]
    · simp
    · simp only [if_true, Bool.true_and]
      exact all_loop l p L yes no step stop d n (i + 1) (by omega) (by omega)
theorem all_loop0 {α R : Type} (l : List α) (p : α → Bool) (L : Nat → Int → Option R) (yes no : Option R)
    (step : ∀ (n i : Nat) (x : α), l[i]? = some x → L (n + 1) (i : Int) = if p x = true then L n ((i + 1 : Nat) : Int) else no)
    (stop : ∀ n : Nat, L (n + 1) (l.length : Int) = yes) (hl : l.length ≤ 1000000) : L FU 0 = if l.all p = true then yes else no := by
  have := all_loop l p L yes no step stop l.length FU 0 (by omega) (by have := FU_pos; omega)
  simpa using this

theorem Validate_eq (c : Core) (hl : c.bounds.length ≤ 100) : core_Validate c = some (validate c) := by
  unfold core_Validate validate
  rw [bnd_eq (within_eq _ _ _)]
  cases h1 : within c.layers 1 8 <;> simp only [Bool.false_eq_true, Bool.true_eq_false, if_false, if_true]
  have h1' := Core.within_iff.1 h1
  by_cases h2 : (20 : Int) < c.bounds.length
  · rw [if_pos h2, if_pos h2]
  · rw [if_neg h2, if_neg h2]
    rw [all_loop0 c.bounds (fun x => right x c.layers) (core_Validate_L1 c) (some 0) (some 1) ?_ ?_ (by omega)]
    · split <;> rfl
    · intro n i x hx
      have := lt_of_at hx
      show core_Validate_B1 c (core_Validate_L1 c n) i = _
      unfold core_Validate_B1
      rw [if_pos (by omega), ix_nat hx, bnd_eq (right_eq _ _ h1'), gd_pos (by omega)]
      rfl
    · intro n
      show core_Validate_B1 c (core_Validate_L1 c n) _ = _
      unfold core_Validate_B1
      rw [if_neg (by omega)]; rfl
theorem rValidate_eq (c : Core) (hl : c.bounds.length ≤ 100) : ref03_Validate c = some (validate c) := by
  unfold ref03_Validate validate
  rw [bnd_eq (rwithin_eq _ _ _)]
  cases h1 : within c.layers 1 8 <;> simp only [Bool.false_eq_true, Bool.true_eq_false, if_false, if_true]
  have h1' := Core.within_iff.1 h1
  by_cases h2 : (20 : Int) < c.bounds.length
  · rw [if_pos h2, if_pos h2]
  · rw [if_neg h2, if_neg h2]
    rw [all_loop0 c.bounds (fun x => right x c.layers) (ref03_Validate_L1 c) (some 0) (some 1) ?_ ?_ (by omega)]
    · split <;> rfl
    · intro n i x hx
      have := lt_of_at hx
      show ref03_Validate_B1 c (ref03_Validate_L1 c n) i = _
      unfold ref03_Validate_B1
      rw [if_pos (by omega), ix_nat hx, bnd_eq (isBound_eq _ _ h1'), gd_pos (by omega)]
      rfl
    · intro n
      show ref03_Validate_B1 c (ref03_Validate_L1 c n) _ = _
      unfold ref03_Validate_B1
      rw [if_neg (by omega)]; rfl

/-- The inner loop of relax, whatever comes behind it. -/
theorem relax_inner {c : Core} (hv : validate c = 0) (i : Int) (rec1 : Int → Int → List Int → List Int → Option (List Int × List Int × Int)) {s : RS} {B : Int} (hB : 0 ≤ B ∧ B ≤ 100000000) (hs : RInv c.layers.toNat B s) :
    ∀ (d n j : Nat), c.bounds.length = j + d → d < n → core_relax_L1 c i rec1 n (relaxTo c.bounds s j).2.2 (j : Int) (relaxTo c.bounds s j).1 (relaxTo c.bounds s j).2.1 =
      core_relax_k2 i rec1 (relaxTo c.bounds s c.bounds.length).2.2 (relaxTo c.bounds s c.bounds.length).1 (relaxTo c.bounds s c.bounds.length).2.1
  | 0, n + 1, j, hd, hn => by
    have hj : j = c.bounds.length := by omega
    subst hj
    show core_relax_B1 c i rec1 (core_relax_L1 c i rec1 n) _ _ _ _ = _
    unfold core_relax_B1
    rw [if_neg (by omega)]
  | d + 1, n + 1, j, hd, hn => by
    have hlt : j < c.bounds.length := by omega
    obtain ⟨x, hx⟩ := ex_at hlt
    have hlen := (validate_ok hv).2.2.1
    have hr := bound_ok hv hx
    have hI := relaxTo_inv hv hs hB.1 j
    have ih := relax_inner hv i rec1 hB hs d n (j + 1) (by omega) (by omega)
    generalize hst : relaxTo c.bounds s j = st at *
    obtain ⟨da, ha⟩ := ex_at (l := st.1) (j := x.a.toNat) (by rw [hI.l1]; omega)
    obtain ⟨db, hb⟩ := ex_at (l := st.1) (j := x.b.toNat) (by rw [hI.l1]; omega)
    obtain ⟨kb, hk⟩ := ex_at (l := st.2.1) (j := x.b.toNat) (by rw [hI.l2]; omega)
    have ba := hI.at_ ha
    show core_relax_B1 c i rec1 (core_relax_L1 c i rec1 n) _ _ _ _ = _
    unfold core_relax_B1
    rw [if_pos (by omega), ix_nat hx, ix_eq (by omega) ha, gd_pos (by omega), ix_eq (by omega) hb]
    have hnext : relaxTo c.bounds s (j + 1) = relaxB st j x := by rw [relaxTo_succ hx, hst]
    rw [hnext] at ih
    unfold relaxB at ih
    rw [gi_of ha, gi_of hb] at ih
    by_cases h : da + x.most < db
    · rw [if_pos h] at ih ⊢
      rw [ix_eq (by omega) ha, gd_pos (by omega), ix_eq (by omega) hb, ix_eq (by omega) hk]
      unfold core_relax_k3
      rw [gd_pos (by omega)]
      exact ih
    · rw [if_neg h] at ih ⊢
      unfold core_relax_k3
      rw [gd_pos (by omega)]
      exact ih
theorem relax_outer {c : Core} (hv : validate c = 0) : ∀ (d n i : Nat), c.layers.toNat = i + d → d < n → core_relax_L2 c n (relaxN c i).2.2 (i : Int) (relaxN c i).1 (relaxN c i).2.1 = some (relax c)
  | 0, n + 1, i, hd, hn => by
    have hi : i = c.layers.toNat := by omega
    subst hi
    have := validate_ok hv
    show core_relax_B2 c (core_relax_L2 c n) _ _ _ _ = _
    unfold core_relax_B2
    rw [if_neg (by omega)]
    rfl
  | d + 1, n + 1, i, hd, hn => by
    have hvo := validate_ok hv
    have ih := relax_outer hv d n (i + 1) (by omega) (by omega)
    have hI := relaxN_inv hv i
    show core_relax_B2 c (core_relax_L2 c n) _ _ _ _ = _
    unfold core_relax_B2
    rw [if_pos (by omega)]
    have := relax_inner hv (i : Int) (core_relax_L2 c n) (s := ((relaxN c i).1, (relaxN c i).2.1, -1)) (B := 200000 * (i : Int)) (by omega) ⟨hI.l1, hI.l2, hI.low⟩ c.bounds.length FU 0 (by omega) (by have := FU_pos; omega)
    simp only [relaxTo, Int.ofNat_zero] at this
    refine Eq.trans this ?_
    unfold core_relax_k2
    rw [gd_pos (by omega)]
    exact ih
theorem relax_eq {c : Core} (hv : validate c = 0) : core_relax c = some (relax c) := by
  have hvo := validate_ok hv
  unfold core_relax
  have hrep : slices_Repeat_int [-1] c.layers = some (List.replicate c.layers.toNat (-1)) := by
    unfold slices_Repeat_int; simp only; rw [gd_pos (by omega)]
  rw [gd_pos (by omega), bnd_eq hrep]
  have := relax_outer hv c.layers.toNat FU 0 (by omega) (by have := FU_pos; omega)
  simpa [relaxN] using this
theorem clashes_eq {c : Core} (hv : validate c = 0) : core_clashes c = some (clashes c) := by
  unfold core_clashes
  rw [bnd_eq (relax_eq hv)]
  rfl
end Go.D3

set_option linter.unusedVariables false
set_option linter.unusedSimpArgs false
namespace Go.D3
open Go.Tb Go.Core

/-! ### walks -/
theorem walks_inner {c : Core} (hv : validate c = 0) (a r : Nat) (hr : r ≤ 8) (m7 : List (List Int)) (m8 : List (List Bool)) (rec2 : Int → List (List Int) → List (List Bool) → Option (List (List Int) × List (List Bool)))
    (h7 : m7[a]? = some (wN c a r).1) (h8 : m8[a]? = some (wN c a r).2) :
    ref03_walks_L1 c a r m7 m8 rec2 FU 0 (wN c a r).1 (wN c a r).2 = ref03_walks_k4 a r m7 m8 rec2 (wN c a (r + 1)).1 (wN c a (r + 1)).2 := by
  have hvo := validate_ok hv
  refine for_loop0 c.bounds.length (fun i => wTo c.bounds (wN c a r) i) (fun n s i => ref03_walks_L1 c a r m7 m8 rec2 n i s.1 s.2) _ (fun n i hi => ?_) (fun n => ?_) (by omega)
  · obtain ⟨x, hx⟩ := ex_at hi
    have hb := bound_ok hv hx
    have hp := wN_inv' hv a hr
    have hs := wTo_inv' hv a hr i
    show ref03_walks_B1 c a r m7 m8 rec2 (ref03_walks_L1 c a r m7 m8 rec2 n) _ _ _ = _
    simp only [wTo_succ hx]
    generalize wTo c.bounds (wN c a r) i = s at hs ⊢
    generalize wN c a r = p at *
    obtain ⟨da, ha⟩ := ex_at (l := p.1) (j := x.a.toNat) (by rw [hp.l1]; omega)
    obtain ⟨ka, hka⟩ := ex_at (l := p.2) (j := x.a.toNat) (by rw [hp.l2]; omega)
    obtain ⟨db, hdb⟩ := ex_at (l := s.1) (j := x.b.toNat) (by rw [hs.l1]; omega)
    obtain ⟨kb, hkb⟩ := ex_at (l := s.2) (j := x.b.toNat) (by rw [hs.l2]; omega)
    have bd := hp.at_ ha
    unfold ref03_walks_B1 wB
    rw [gb_of hka, gb_of hkb, gi_of ha, gi_of hdb]
    rw [if_pos (by omega), ix_nat hx, ix_nat h7, ix_eq (by omega) ha, gd_pos (by omega), ix_nat h8, ix_eq (by omega) hka]
    unfold ref03_walks_k6 ref03_walks_k5
    cases ka <;> cases kb <;> simp only [Bool.false_eq_true, if_false, if_true, Bool.true_and, Bool.false_and, Bool.not_false, Bool.not_true, Bool.true_or, Bool.false_or]
    · rw [gd_pos (by omega)]; rfl
    · rw [gd_pos (by omega)]; rfl
    · rw [ix_eq (by omega) hkb]
      simp only [Bool.false_eq_true, if_false, if_true]
      rw [ix_eq (by omega) hdb, ix_eq (by omega) hkb, gd_pos (by omega)]; rfl
    · rw [ix_eq (by omega) hkb, if_pos rfl, ix_eq (by omega) hdb]
      by_cases hlt : da + x.most < db
      · simp only [hlt, decide_true, if_true]
        rw [ix_eq (by omega) hdb, ix_eq (by omega) hkb, gd_pos (by omega)]; rfl
      · simp only [hlt, decide_false, Bool.false_eq_true, if_false]
        rw [gd_pos (by omega)]; rfl
  · show ref03_walks_B1 c a r m7 m8 rec2 (ref03_walks_L1 c a r m7 m8 rec2 n) _ _ _ = _
    unfold ref03_walks_B1
    rw [if_neg (by omega)]
    rfl
theorem walks_mid {c : Core} (hv : validate c = 0) (k : Int) (hk : 0 ≤ k ∧ k ≤ 8) (a : Nat) (rec1 : Int → List (List Int) → List (List Bool) → Option (List (List Int) × List (List Bool)))
    (M7 : List (List Int)) (M8 : List (List Bool)) (l7 : a < M7.length) (l8 : a < M8.length) :
    ref03_walks_L2 c k a rec1 FU 0 (M7.set a (wN c a 0).1) (M8.set a (wN c a 0).2) = ref03_walks_k2 a rec1 (M7.set a (wN c a k.toNat).1) (M8.set a (wN c a k.toNat).2) := by
  have hvo := validate_ok hv
  refine for_loop0 k.toNat (fun r => (M7.set a (wN c a r).1, M8.set a (wN c a r).2)) (fun n s i => ref03_walks_L2 c k a rec1 n i s.1 s.2) _ (fun n r hr => ?_) (fun n => ?_) (by omega)
  · have h7 : (M7.set a (wN c a r).1)[a]? = some (wN c a r).1 := List.getElem?_set_self l7
    have h8 : (M8.set a (wN c a r).2)[a]? = some (wN c a r).2 := List.getElem?_set_self l8
    have hp := wN_inv' hv a (k := r) (by omega)
    show ref03_walks_B2 c k a rec1 (ref03_walks_L2 c k a rec1 n) _ _ _ = _
    unfold ref03_walks_B2
    simp only
    rw [if_pos (by omega), ix_nat h7, gd_pos (by have := hp.l1; simp; omega), ix_nat h8, gd_pos (by have := hp.l2; simp; omega)]
    unfold ref03_walks_k7
    rw [List.nil_append, List.nil_append, walks_inner hv a r (by omega) _ _ _ h7 h8]
    unfold ref03_walks_k4
    rw [ix_nat h7, ix_nat h8]
    unfold ref03_walks_k3
    rw [gd_pos (by omega)]
    simp only [Int.toNat_natCast, List.set_set]
    rfl
  · show ref03_walks_B2 c k a rec1 (ref03_walks_L2 c k a rec1 n) _ _ _ = _
    unfold ref03_walks_B2
    rw [if_neg (by omega)]
theorem walks_eq {c : Core} (hv : validate c = 0) (k : Int) (hk : 0 ≤ k ∧ k ≤ 8) : ref03_walks c k = some (wsT c k.toNat c.layers.toNat, wkT c k.toNat c.layers.toNat) := by
  have hvo := validate_ok hv
  unfold ref03_walks
  rw [gd_pos (by omega), gd_pos (by omega)]
  unfold ref03_walks_k9
  refine for_loop0 c.layers.toNat (fun a => (wsT c k.toNat a, wkT c k.toNat a)) (fun n s i => ref03_walks_L3 c k n i s.1 s.2) _ (fun n a ha => ?_) (fun n => ?_) (by omega)
  · have l1 := wsT_len c k.toNat a
    have l2 := wkT_len c k.toNat a
    obtain ⟨x, hx⟩ := ex_at (l := wsT c k.toNat a) (j := a) (by omega)
    obtain ⟨y, hy⟩ := ex_at (l := wkT c k.toNat a) (j := a) (by omega)
    show ref03_walks_B3 c k (ref03_walks_L3 c k n) _ _ _ = _
    unfold ref03_walks_B3
    simp only
    rw [if_pos (by omega), gd_pos (by omega), gd_pos (by omega), ix_nat hx, ix_nat hy]
    unfold ref03_walks_k8
    simp only [Int.toNat_natCast]
    rw [ix_nat (List.getElem?_set_self (by omega)), ix_nat (x := false) (by simp [List.getElem?_replicate]; omega), List.set_set]
    have := walks_mid hv k hk a (ref03_walks_L3 c k n) (wsT c k.toNat a) (wkT c k.toNat a) (by omega) (by omega)
    simp only [wN] at this
    refine Eq.trans this ?_
    unfold ref03_walks_k2
    rw [gd_pos (by omega)]
    rfl
  · show ref03_walks_B3 c k (ref03_walks_L3 c k n) _ _ _ = _
    unfold ref03_walks_B3
    rw [if_neg (by omega)]
    rfl
theorem rclashes_eq {c : Core} (hv : validate c = 0) : ref03_clashes c = some (rclash c) := by
  have hvo := validate_ok hv
  unfold ref03_clashes
  rw [bnd_eq (walks_eq hv c.layers (by omega))]
  have h := scan_loop0 c.layers.toNat (fun a => !decide (gi (wN c a c.layers.toNat).1 a < 0)) (fun _ => ()) (fun n _ i => ref03_clashes_L1 c (wsT c c.layers.toNat c.layers.toNat, wkT c c.layers.toNat c.layers.toNat) n i) (some false) (some true) (fun n a ha => ?_) (fun n => ?_) (by omega)
  · refine Eq.trans h ?_
    unfold rclash
    by_cases hc : ∀ j, j < c.layers.toNat → (!decide (gi (wN c j c.layers.toNat).1 j < 0)) = true
    · rw [if_pos hc]
      congr 1
      symm
      rw [List.any_eq_false]
      intro a ha
      have := hc a (List.mem_range.1 ha)
      simpa using this
    · rw [if_neg hc]
      congr 1
      symm
      rw [List.any_eq_true]
      simp only [Bool.not_eq_true', decide_eq_false_iff_not] at hc
      obtain ⟨j, hj⟩ := Classical.not_forall.1 hc
      obtain ⟨h1, h2⟩ := Classical.not_imp.1 hj
      exact ⟨j, List.mem_range.2 h1, by simpa using h2⟩
  · show ref03_clashes_B1 c _ (ref03_clashes_L1 c _ n) _ = _
    unfold ref03_clashes_B1
    have hr := wsT_at c c.layers.toNat c.layers.toNat (Nat.le_refl _) a ha
    have hp := wN_inv' hv a (k := c.layers.toNat) (by omega)
    obtain ⟨d, hd⟩ := ex_at (l := (wN c a c.layers.toNat).1) (j := a) (by rw [hp.l1]; omega)
    rw [if_pos (by omega), ix_nat hr, ix_nat hd, gd_pos (by omega)]
    have : gi (wN c a c.layers.toNat).1 a = d := by simp [gi, List.getD, hd]
    rw [this]
    by_cases h0 : d < 0 <;> simp [h0]
  · show ref03_clashes_B1 c _ (ref03_clashes_L1 c _ n) _ = _
    unfold ref03_clashes_B1
    rw [if_neg (by omega)]
    rfl
theorem IsPossible_eq (c : Core) (hl : c.bounds.length ≤ 100) : core_IsPossible c = some (if validate c = 0 then (!clashes c, 0) else (false, validate c)) := by
  unfold core_IsPossible
  rw [bnd_eq (Validate_eq c hl)]
  by_cases hv : validate c = 0
  · rw [if_pos hv, if_pos hv, bnd_eq (clashes_eq hv)]
  · rw [if_neg hv, if_neg hv]
theorem rIsPossible_eq (c : Core) (hl : c.bounds.length ≤ 100) : ref03_IsPossible c = some (if validate c = 0 then (!clashes c, 0) else (false, validate c)) := by
  unfold ref03_IsPossible
  rw [bnd_eq (rValidate_eq c hl)]
  by_cases hv : validate c = 0
  · rw [if_pos hv, if_pos hv, bnd_eq (rclashes_eq hv), clash_iff hv]
  · rw [if_neg hv, if_neg hv]

/-! ### dates -/
theorem dated1_eq (n : Int) : core_dated_1 n = some (!okD n) := by
  unfold core_dated_1; rw [bnd_eq (within_eq _ _ _)]; rfl
theorem ContainsFunc_eq (l : List Int) (hl : l.length ≤ 1000000) : slices_ContainsFunc_int l core_dated_1 = some (!(l.all okD)) := by
  unfold slices_ContainsFunc_int slices_IndexFunc_int
  have h := scan_loop l.length (fun i => (l[i]?.map okD).getD true) (fun _ => ()) (fun n _ i => slices_IndexFunc_int_L1 l core_dated_1 n i) (some (-1)) (fun j => some (j : Int)) (fun n i hi => ?_) (fun n => ?_) l.length FU 0 (by omega) (by have := FU_pos; omega)
  · rw [bnd_eq (x := match (List.range' 0 l.length).find? (fun j => !((l[j]?.map okD).getD true)) with | none => -1 | some j => (j : Int)) (by
      refine Eq.trans h ?_
      cases (List.range' 0 l.length).find? (fun j => !((l[j]?.map okD).getD true)) <;> rfl)]
    congr 1
    cases hf : (List.range' 0 l.length).find? (fun j => !((l[j]?.map okD).getD true)) with
    | none =>
      have := find_all.1 hf
      have ha : l.all okD = true := List.all_eq_true.2 fun x hx => by
        obtain ⟨j, hj⟩ := List.getElem?_of_mem hx
        have := this j (by omega) (by have := lt_of_at hj; omega)
        simpa [hj] using this
      simp [ha]
    | some j =>
      have h1 := List.find?_some hf
      have h2 := List.mem_of_find?_eq_some hf
      rw [List.mem_range'_1] at h2
      have hx : l[j]? = some l[j] := List.getElem?_eq_getElem (by omega)
      rw [hx] at h1
      have ha : l.all okD = false := by
        rw [List.all_eq_false]
        exact ⟨l[j], List.getElem_mem _, by simpa using h1⟩
      simp [ha]
  · show slices_IndexFunc_int_B1 l core_dated_1 (slices_IndexFunc_int_L1 l core_dated_1 n) _ = _
    have hx : l[i]? = some l[i] := by simp [hi]
    unfold slices_IndexFunc_int_B1
    rw [if_pos (by omega), ix_nat hx, bnd_eq (dated1_eq _), gd_pos (by omega), hx]
    cases h : okD l[i] <;> simp [h]
  · show slices_IndexFunc_int_B1 l core_dated_1 (slices_IndexFunc_int_L1 l core_dated_1 n) _ = _
    unfold slices_IndexFunc_int_B1
    rw [if_neg (by omega)]; rfl
theorem dated_eq (c : Core) (l : List Int) (hc : c.bounds.length ≤ 100) (hl : l.length ≤ 1000000) : core_dated c l = some (datedE c l) := by
  unfold core_dated datedE
  rw [bnd_eq (Validate_eq c hc)]
  by_cases hv : validate c = 0
  · rw [if_pos hv, if_pos hv, bnd_eq (ContainsFunc_eq l hl)]
    unfold core_dated_k1 isDatesS
    by_cases h : (l.length : Int) = c.layers
    · rw [if_pos h]; cases l.all okD <;> simp [h]
    · rw [if_neg h]; simp [h]
  · rw [if_neg hv, if_neg hv]
theorem isDates_eq (c : Core) (l : List Int) (hl : l.length ≤ 1000000) : ref03_isDates c l = some (isDatesS c l) := by
  unfold ref03_isDates isDatesS
  by_cases h : (l.length : Int) = c.layers
  · rw [if_pos h, list_loop0 l okD (ref03_isDates_L1 l) (some true) (some false) (fun n i x hx => ?_) (fun n => ?_) hl]
    · cases l.all okD <;> simp [h]
    · have := lt_of_at hx
      show ref03_isDates_B1 l (ref03_isDates_L1 l n) _ = _
      unfold ref03_isDates_B1
      rw [if_pos (by omega), ix_nat hx, bnd_eq (rwithin_eq _ _ _), gd_pos (by omega)]; rfl
    · show ref03_isDates_B1 l (ref03_isDates_L1 l n) _ = _
      unfold ref03_isDates_B1
      rw [if_neg (by omega)]; rfl
  · rw [if_neg h]; simp [h]
theorem keep_loop (c : Core) (l : List Int) (hd : datedE c l = 0) {x : Bound} {i : Nat} (hx : c.bounds[i]? = some x) : ∃ p q, l[x.b.toNat]? = some p ∧ l[x.a.toNat]? = some q ∧ InR (p - q) ∧ 0 ≤ x.a ∧ 0 ≤ x.b ∧ (keeps l x = !decide (x.most < p - q)) := by
  obtain ⟨hv, h1, h2⟩ := datedE_ok hd
  have hb := bound_ok hv hx
  obtain ⟨p, hp⟩ := ex_at (l := l) (j := x.b.toNat) (by omega)
  obtain ⟨q, hq⟩ := ex_at (l := l) (j := x.a.toNat) (by omega)
  have b1 := h2 p (List.mem_of_getElem? hp)
  have b2 := h2 q (List.mem_of_getElem? hq)
  refine ⟨p, q, hp, hq, by omega, hb.1, hb.2.2.1, ?_⟩
  unfold keeps
  rw [gi_of hp, gi_of hq]
  by_cases h : x.most < p - q
  · simp [h]
  · simp [h]; omega
theorem CheckDates_eq (c : Core) (l : List Int) (hc : c.bounds.length ≤ 100) (hl : l.length ≤ 1000000) : core_CheckDates c l = some (checkDates c l) := by
  unfold core_CheckDates checkDates
  rw [bnd_eq (dated_eq c l hc hl)]
  by_cases hd : datedE c l = 0
  · rw [if_pos hd, if_pos hd, list_loop0 c.bounds (keeps l) (core_CheckDates_L1 c l) (some 0) (some 7) (fun n i x hx => ?_) (fun n => ?_) (by omega)]
    · split <;> rfl
    · have hi := lt_of_at hx
      obtain ⟨p, q, hp, hq, hr, ha, hb, hk⟩ := keep_loop c l hd hx
      show core_CheckDates_B1 c l (core_CheckDates_L1 c l n) _ = _
      unfold core_CheckDates_B1
      rw [if_pos (by omega), ix_nat hx, ix_eq hb hp, ix_eq ha hq, gd_pos hr, gd_pos (by omega), hk]
      by_cases h : x.most < p - q <;> simp [h]
    · show core_CheckDates_B1 c l (core_CheckDates_L1 c l n) _ = _
      unfold core_CheckDates_B1
      rw [if_neg (by omega)]; rfl
  · rw [if_neg hd, if_neg hd]
theorem rCheckDates_eq (c : Core) (l : List Int) (hc : c.bounds.length ≤ 100) (hl : l.length ≤ 1000000) : ref03_CheckDates c l = some (checkDates c l) := by
  unfold ref03_CheckDates checkDates
  rw [bnd_eq (rValidate_eq c hc)]
  by_cases hv : validate c = 0
  · rw [if_pos hv, bnd_eq (isDates_eq c l hl)]
    cases hi : isDatesS c l
    · have hd : datedE c l = 1 := by unfold datedE; rw [if_pos hv, hi]; rfl
      rw [hd]; rfl
    · have hd : datedE c l = 0 := by unfold datedE; rw [if_pos hv, hi]; rfl
      rw [if_pos hd, if_pos rfl, list_loop0 c.bounds (keeps l) (ref03_CheckDates_L1 c l) (some 0) (some 7) (fun n i x hx => ?_) (fun n => ?_) (by omega)]
      · split <;> rfl
      · have hi := lt_of_at hx
        obtain ⟨p, q, hp, hq, hr, ha, hb, hk⟩ := keep_loop c l hd hx
        show ref03_CheckDates_B1 c l (ref03_CheckDates_L1 c l n) _ = _
        unfold ref03_CheckDates_B1
        rw [if_pos (by omega), ix_nat hx, ix_eq hb hp, ix_eq ha hq, gd_pos hr, gd_pos (by omega), hk]
        by_cases h : x.most < p - q <;> simp [h]
      · show ref03_CheckDates_B1 c l (ref03_CheckDates_L1 c l n) _ = _
        unfold ref03_CheckDates_B1
        rw [if_neg (by omega)]; rfl
  · have hd : datedE c l = validate c := by unfold datedE; rw [if_neg hv]
    rw [if_neg hv, if_neg (by rw [hd]; exact hv), hd]
end Go.D3

set_option linter.unusedVariables false
set_option linter.unusedSimpArgs false
namespace Go.D3
open Go.Tb Go.Core

theorem wt_ge {c : Core} (hv : validate c = 0) {u v : Nat} {e : List Bound} (h : Path c u e v) : -10000 * (e.length : Int) ≤ wt e := by
  induction h with
  | nil => simp [wt]
  | cons hx _ ih =>
    obtain ⟨j, hj⟩ := List.getElem?_of_mem hx
    have := bound_ok hv hj
    simp only [wt, List.length_cons]
    omega
theorem ds_ge {c : Core} (hv : validate c = 0) (hc : clashes c = false) {v : Nat} (hn : v < c.layers.toNat) : -80000 ≤ ds (relax c) v := by
  have hl := lay_of hv
  have hvo := validate_ok hv
  obtain ⟨u, e, hu, hp, hw⟩ := relaxN_real hl c.layers.toNat v hn
  obtain ⟨e', hp', hl', hw'⟩ := Path.short hl (noNeg_of hl (by rw [← clash_iff hv]; exact hc)) hu e.length e (Nat.le_refl _) hp
  have := wt_ge hv hp'
  have e1 : wt e = ds (relax c) v := hw
  omega
theorem dates_keep {c : Core} (hv : validate c = 0) (hc : clashes c = false) : checkDates c (relax c).1 = 0 := by
  have hvo := validate_ok hv
  have hI := relaxN_inv hv c.layers.toNat
  have hd : datedE c (relax c).1 = 0 := by
    unfold datedE
    rw [if_pos hv, if_pos]
    unfold isDatesS
    rw [Bool.and_eq_true]
    refine ⟨?_, List.all_eq_true.2 fun d hd => ?_⟩
    · have : (relax c).1.length = c.layers.toNat := hI.l1
      simp [this]; omega
    · obtain ⟨j, hj⟩ := List.getElem?_of_mem hd
      have h1 := hI.low d hd
      have h2 := ds_ge hv hc (v := j) (by have := lt_of_at hj; have : (relax c).1.length = c.layers.toNat := hI.l1; omega)
      have h3 : ds (relax c) j = d := by simp [ds, List.getD, hj]
      unfold okD
      rw [Core.within_iff]
      omega
  unfold checkDates
  rw [if_pos hd, if_pos]
  refine List.all_eq_true.2 fun x hx => ?_
  have := relax_quiet hv hc x hx
  unfold keeps
  simpa using this
theorem Dates_eq (c : Core) (hl : c.bounds.length ≤ 100) : core_Dates c = some (if validate c = 0 then (if clashes c = true then ([], false, 0) else ((relax c).1, true, 0)) else ([], false, validate c)) := by
  unfold core_Dates
  rw [bnd_eq (Validate_eq c hl)]
  by_cases hv : validate c = 0
  · rw [if_pos hv, if_pos hv, bnd_eq (relax_eq hv)]
    unfold clashes
    by_cases h : 0 ≤ (relax c).2.2 <;> simp [h]
  · rw [if_neg hv, if_neg hv]
theorem Long_eq (c : Core) : law03_Long c = some (decide ((100 : Int) < c.bounds.length)) := rfl
theorem law_CoreDates (c : Core) (l : List Int) : law03_CoreDates c l = some true := by
  unfold law03_CoreDates
  rw [bnd_eq (Long_eq c)]
  have hk : law03_CoreDates_k3 c l true = some true := by unfold law03_CoreDates_k3; rw [if_pos rfl, bnd_eq known_eq]
  by_cases h1 : (100 : Int) < c.bounds.length
  · simp only [h1, decide_true, if_true]; exact hk
  simp only [h1, decide_false, Bool.false_eq_true, if_false]
  by_cases h2 : (100 : Int) < l.length
  · simp only [h2, decide_true]; exact hk
  simp only [h2, decide_false]
  have hc : c.bounds.length ≤ 100 := by omega
  unfold law03_CoreDates_k3
  rw [if_neg (by simp), bnd_eq (IsPossible_eq c hc), bnd_eq (rIsPossible_eq c hc), bnd_eq (Validate_eq c hc), bnd_eq (rValidate_eq c hc), if_pos rfl, if_pos (by simp), if_pos rfl, bnd_eq (CheckDates_eq c l hc (by omega)), bnd_eq (rCheckDates_eq c l hc (by omega))]
  unfold law03_CoreDates_k2
  rw [if_neg (by simp), bnd_eq (Dates_eq c hc)]
  by_cases hv : validate c = 0
  · simp only [hv, if_true]
    cases hcl : clashes c
    · simp only [Bool.false_eq_true, if_false, if_true, Bool.not_false]
      unfold law03_CoreDates_k1
      rw [if_neg (by simp), if_pos rfl, bnd_eq (rCheckDates_eq c (relax c).1 hc (by have := (relaxN_inv hv c.layers.toNat).l1; have := validate_ok hv; have e : (relax c).1.length = c.layers.toNat := (relaxN_inv hv c.layers.toNat).l1; omega)), dates_keep hv hcl, if_pos rfl, bnd_eq known_eq]
    · simp only [if_true, Bool.not_true]
      unfold law03_CoreDates_k1
      rw [if_neg (by simp), if_neg (by simp), if_pos (by simp), bnd_eq known_eq]
  · simp only [hv, if_false, if_true]
    unfold law03_CoreDates_k1
    rw [if_neg (by simp), if_neg (by simp), if_pos (by simp), bnd_eq known_eq]

/-! ### turned bounds -/
def flip (x : Bound) : Bound := ⟨x.b, x.a, x.most⟩
def turn (c : Core) : Core := ⟨c.layers, c.bounds.map flip⟩
theorem Turn_eq (c : Core) (hl : c.bounds.length ≤ 100) : core_Turn c = some (if validate c = 0 then (turn c, 0) else (⟨0, []⟩, validate c)) := by
  unfold core_Turn
  rw [bnd_eq (Validate_eq c hl)]
  by_cases hv : validate c = 0
  · rw [if_pos hv, if_pos hv]
    refine for_loop0 c.bounds.length (fun i => (c.bounds.take i).map flip) (fun n s i => core_Turn_L1 c n i s) _ (fun n i hi => ?_) (fun n => ?_) (by omega)
    · obtain ⟨x, hx⟩ := ex_at hi
      show core_Turn_B1 c (core_Turn_L1 c n) _ _ = _
      unfold core_Turn_B1
      rw [if_pos (by omega), ix_nat hx, gd_pos (by simp; omega), gd_pos (by omega), take_succ_at hx, List.map_append]
      rfl
    · show core_Turn_B1 c (core_Turn_L1 c n) _ _ = _
      unfold core_Turn_B1
      rw [if_neg (by omega), List.take_length]
      rfl
  · rw [if_neg hv, if_neg hv]
theorem Copy_eq (c : Core) (hl : c.bounds.length ≤ 1000000) : ref03_Copy c = some c := by
  unfold ref03_Copy
  rw [gd_pos (by simpa using hl)]
  simp
theorem rTurn_eq (c : Core) (hl : c.bounds.length ≤ 100) : ref03_Turn c = some (if validate c = 0 then (turn c, 0) else (⟨0, []⟩, validate c)) := by
  unfold ref03_Turn
  rw [bnd_eq (rValidate_eq c hl)]
  by_cases hv : validate c = 0
  · rw [if_pos hv, if_pos hv, bnd_eq (Copy_eq c (by omega))]
    have hlen : ∀ i, ((c.bounds.take i).map flip ++ c.bounds.drop i).length = c.bounds.length := by intro i; simp; omega
    have := for_loop0 c.bounds.length (fun i => (c.bounds.take i).map flip ++ c.bounds.drop i) (fun n s i => ref03_Turn_L1 c c n i s) (some (turn c, 0)) (fun n i hi => ?_) (fun n => ?_) (by omega)
    · simpa using this
    · obtain ⟨x, hx⟩ := ex_at hi
      have hs : ((c.bounds.take i).map flip ++ c.bounds.drop i)[i]? = some x := by
        rw [List.getElem?_append_right (by simp; omega)]
        simp [List.getElem?_drop]
        rw [show min i c.bounds.length = i by omega]; simpa using hx
      show ref03_Turn_B1 c c (ref03_Turn_L1 c c n) _ _ = _
      unfold ref03_Turn_B1
      simp only [Int.toNat_natCast]
      rw [if_pos (by rw [hlen]; omega), ix_nat hx, ix_nat hx, ix_nat hs, ix_nat (List.getElem?_set_self (by rw [hlen]; omega)), gd_pos (by omega), List.set_set]
      have e : ((c.bounds.take i).map flip ++ c.bounds.drop i).set i ⟨x.b, x.a, x.most⟩ = (c.bounds.take (i + 1)).map flip ++ c.bounds.drop (i + 1) := by
        rw [take_succ_at hx, List.map_append, List.set_append_right _ _ (by simp; omega)]
        have e1 : i - ((c.bounds.take i).map flip).length = 0 := by simp; omega
        rw [e1]
        have e2 : c.bounds.drop i = x :: c.bounds.drop (i + 1) := by
          obtain ⟨h1, h2⟩ := List.getElem?_eq_some_iff.1 hx
          rw [← h2]; exact List.drop_eq_getElem_cons h1
        rw [e2]
        simp [flip]
      rw [e]; rfl
    · show ref03_Turn_B1 c c (ref03_Turn_L1 c c n) _ _ = _
      unfold ref03_Turn_B1
      rw [if_neg (by rw [hlen]; omega), List.take_length, List.drop_length, List.append_nil]
      rfl
  · rw [if_neg hv, if_neg hv]
theorem beqB (x y : Bound) : ((x.a == y.a) && (x.b == y.b) && (x.most == y.most)) = true ↔ x = y := by
  cases x; cases y; simp [and_assoc]
theorem SameBounds_self (l : List Bound) (hl : l.length ≤ 1000000) : ref03_SameBounds l l = some true := by
  unfold ref03_SameBounds
  rw [if_pos rfl]
  refine for_loop0 l.length (fun _ => ()) (fun n _ i => ref03_SameBounds_L1 l l n i) _ (fun n i hi => ?_) (fun n => ?_) hl
  · obtain ⟨x, hx⟩ := ex_at hi
    show ref03_SameBounds_B1 l l (ref03_SameBounds_L1 l l n) _ = _
    unfold ref03_SameBounds_B1
    rw [if_pos (by omega), ix_nat hx, ix_nat hx, if_pos ((beqB x x).2 rfl), gd_pos (by omega)]
    rfl
  · show ref03_SameBounds_B1 l l (ref03_SameBounds_L1 l l n) _ = _
    unfold ref03_SameBounds_B1
    rw [if_neg (by omega)]; rfl
theorem Equal_self (c : Core) (hl : c.bounds.length ≤ 1000000) : ref03_Equal c c = some true := by
  unfold ref03_Equal
  rw [if_pos rfl, bnd_eq (SameBounds_self _ hl)]
theorem flip_flip (x : Bound) : flip (flip x) = x := rfl
theorem turn_turn (c : Core) : turn (turn c) = c := by
  unfold turn
  simp only [List.map_map]
  have : (flip ∘ flip) = id := by funext x; rfl
  rw [this, List.map_id]
theorem right_flip (x : Bound) (n : Int) : right (flip x) n = right x n := by
  unfold right flip
  simp only
  rw [Bool.and_comm (within x.b 0 (n - 1))]
  congr 2
  simp only [eq_comm]
theorem validate_turn (c : Core) : validate (turn c) = validate c := by
  unfold validate turn
  simp only [List.length_map, List.all_map]
  have : (fun x => right x c.layers) ∘ flip = fun x => right x c.layers := by funext x; exact right_flip x _
  rw [this]
theorem gi_neg (l : List Int) (i : Int) (h : i.toNat < l.length) : gi (l.map fun n => -n) i = -gi l i := by
  unfold gi
  simp [List.getD, h]
theorem checkDates_turn {c : Core} {l : List Int} (hv : validate c = 0) : checkDates (turn c) (l.map fun n => -n) = checkDates c l := by
  have hD : datedE (turn c) (l.map fun n => -n) = datedE c l := by
    unfold datedE
    rw [validate_turn]
    unfold isDatesS turn
    simp only [List.length_map, List.all_map]
    have : okD ∘ (fun n : Int => -n) = okD := by
      funext n
      simp only [Function.comp, okD, within]
      have : (decide (-1000000 ≤ -n) && decide (-n ≤ 1000000)) = (decide (-1000000 ≤ n) && decide (n ≤ 1000000)) := by
        rw [Bool.and_comm]
        congr 1 <;> simp only [decide_eq_decide] <;> omega
      exact this
    rw [this]
  unfold checkDates
  rw [hD]
  by_cases hd : datedE c l = 0
  · rw [if_pos hd, if_pos hd]
    obtain ⟨_, h1, h2⟩ := datedE_ok hd
    have key : ∀ x : Bound, x ∈ c.bounds → keeps (l.map fun n => -n) (flip x) = keeps l x := by
      intro x hx
      obtain ⟨j, hj⟩ := List.getElem?_of_mem hx
      have hb := bound_ok hv hj
      have ea := gi_neg l x.a (by omega)
      have eb := gi_neg l x.b (by omega)
      have e : (gi (l.map fun n => -n) (flip x).b - gi (l.map fun n => -n) (flip x).a ≤ (flip x).most) ↔ (gi l x.b - gi l x.a ≤ x.most) := by
        show (gi (l.map fun n => -n) x.a - gi (l.map fun n => -n) x.b ≤ x.most) ↔ _
        rw [ea, eb]; omega
      exact decide_eq_decide.2 e
    have : (turn c).bounds.all (keeps (l.map fun n => -n)) = c.bounds.all (keeps l) := by
      unfold turn
      simp only [List.all_map]
      apply Bool.eq_iff_iff.2
      simp only [List.all_eq_true]
      constructor <;> intro h x hx <;> have hk := h x hx <;> have := key x hx
      · rw [← this]; exact hk
      · show keeps (l.map fun n => -n) (flip x) = true
        rw [this]; exact hk
    rw [this]
  · rw [if_neg hd, if_neg hd]
theorem law_CoreTurns (c : Core) (l : List Int) : law03_CoreTurns c l = some true := by
  unfold law03_CoreTurns
  rw [bnd_eq (Long_eq c)]
  have hk : law03_CoreTurns_k4 c l true = some true := by unfold law03_CoreTurns_k4; rw [if_pos rfl, bnd_eq known_eq]
  by_cases h1 : (100 : Int) < c.bounds.length
  · simp only [h1, decide_true, if_true]; exact hk
  simp only [h1, decide_false, Bool.false_eq_true, if_false]
  by_cases h2 : (100 : Int) < l.length
  · simp only [h2, decide_true]; exact hk
  simp only [h2, decide_false]
  have hc : c.bounds.length ≤ 100 := by omega
  have ht : (turn c).bounds.length ≤ 100 := by unfold turn; simpa using hc
  unfold law03_CoreTurns_k4
  rw [if_neg (by simp), bnd_eq (Turn_eq c hc), bnd_eq (rTurn_eq c hc)]
  by_cases hv : validate c = 0
  · simp only [hv, if_true]
    rw [bnd_eq (Equal_self _ (by omega)), if_pos rfl]
    unfold law03_CoreTurns_k3
    simp only [decide_true, Bool.not_true, Bool.false_eq_true, if_false, if_true]
    rw [bnd_eq (CheckDates_eq c l hc (by omega))]
    have main : ∀ r, (r = 0 ∨ r = 7) → r = checkDates c l → law03_CoreTurns_k2 c l (turn c, 0) r false = some true := by
      intro r hr hrc
      unfold law03_CoreTurns_k2
      rw [if_neg (by simp)]
      refine for_loop0 l.length (fun i => (l.take i).map fun n => -n) (fun n s i => law03_CoreTurns_L1 c l (turn c, 0) r n i s) _ (fun n i hi => ?_) (fun n => ?_) (by omega)
      · obtain ⟨x, hx⟩ := ex_at hi
        have hin : -1000000 ≤ x ∧ x ≤ 1000000 := by
          have hd : datedE c l = 0 := by
            by_cases hd : datedE c l = 0
            · exact hd
            · have : checkDates c l = datedE c l := by unfold checkDates; rw [if_neg hd]
              rw [this] at hrc
              exfalso
              unfold datedE at hrc hd
              rw [if_pos hv] at hrc hd
              split at hrc
              · rename_i h; rw [if_pos h] at hd; exact hd rfl
              · omega
          exact (datedE_ok hd).2.2 x (List.mem_of_getElem? hx)
        show law03_CoreTurns_B1 c l (turn c, 0) r (law03_CoreTurns_L1 c l (turn c, 0) r n) _ _ = _
        unfold law03_CoreTurns_B1
        rw [if_pos (by omega), ix_nat hx, gd_pos (by omega), gd_pos (by simp; omega), gd_pos (by omega), take_succ_at hx, List.map_append]
        rfl
      · show law03_CoreTurns_B1 c l (turn c, 0) r (law03_CoreTurns_L1 c l (turn c, 0) r n) _ _ = _
        unfold law03_CoreTurns_B1
        rw [if_neg (by omega), List.take_length]
        unfold law03_CoreTurns_k1
        rw [bnd_eq (Turn_eq _ ht), bnd_eq (CheckDates_eq _ _ ht (by simp; omega)), checkDates_turn hv, validate_turn, if_pos hv, if_pos hrc.symm, if_pos rfl, turn_turn, bnd_eq (Equal_self c (by omega)), if_pos rfl, bnd_eq known_eq]
    by_cases h0 : checkDates c l = 0
    · rw [if_pos h0]; exact main _ (.inl h0) rfl
    · rw [if_neg h0]
      by_cases h7 : checkDates c l = 7
      · have e : (!decide (checkDates c l = 7)) = false := by simp [h7]
        rw [e]; exact main _ (.inr h7) rfl
      · have e : (!decide (checkDates c l = 7)) = true := by simp [h7]
        rw [e]; unfold law03_CoreTurns_k2; rw [if_pos rfl, bnd_eq known_eq]
  · simp only [hv, if_false]
    rw [bnd_eq (Equal_self _ (by simp)), if_pos rfl]
    unfold law03_CoreTurns_k3
    simp only [decide_true, Bool.not_true, Bool.false_eq_true, if_false, hv]
    rw [bnd_eq known_eq]
end Go.D3

