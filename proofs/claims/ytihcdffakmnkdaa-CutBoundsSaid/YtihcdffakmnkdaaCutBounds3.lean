/- Lemmas and walks that the proof of this claim uses: D4m13, D4m14, Tb22, D4p1, D4p2, D4p3, D4p4, D4p5, D4p6, D4p7, D4p8, D4p9, D4pC, D4pF, D4q1, D4q3, D4q4. -/
import Derived.Test.YtihcdffakmnkdaaCutBounds2
set_option linter.unusedVariables false
set_option linter.unusedSimpArgs false
namespace Go.D4
open Go.Tb Go.Proofs Go.RowKit
set_option maxRecDepth 20000 in
set_option maxHeartbeats 1000000 in
theorem cut_spread_ok {a0 : List Int} {a1 : Int} {a2 : Int → Int → Option Int} {A_a0 : Option Addr} {c_a0 : Nat} {f_a2 : Nat} {p_a2 : Array Value} {q_a2 : Array Value} {w : World} {res : (List Int)} (h_a0 : Sl w A_a0 c_a0 1 (a0.map encN)) (h_a2 : ∀ (x3 : Int) (x4 : Int) (r : Int), a2 x3 x4 = some r → ∀ w1, Ext w w1 → CallsV Try.prog f_a2 p_a2 q_a2 #[.int .i64 x3, .int .i64 x4] w1 (Rt w1 (.int .i64 r))) (F : cut_spread a0 a1 a2 = some res) : Calls Try.prog 81 #[.slice A_a0 a0.length c_a0, .int .i64 a1, .func (.func f_a2) p_a2 q_a2] w (fun e w' => ∃ (A1 : Option Addr) (c1 : Nat), e = .returned (.slice A1 res.length c1) ∧ Hp w w' [.own A1 c1 3 1 (List.map encN res)]) := by
  refine calls_of_cw (args := [.slice A_a0 a0.length c_a0, .int .i64 a1, .func (.func f_a2) p_a2 q_a2]) Try.func81 rfl rfl rfl rfl ?_
  have H := Hp.start w
  have R0 := H.ext
  unfold cut_spread at F
  refine CW.seq fun K1 hK1 => ?_
  refine CW.region ?_
  refine LW.pure rfl rfl (RV.assign rfl) ?_
  refine LW.nil (hK1 _ _ ?_)
  refine CW.seq fun K2 hK2 => ?_
  refine CW.region ?_
  refine LW.pure rfl rfl (RV.assign rfl) ?_
  refine LW.nil (hK2 _ _ ?_)
  refine CW.seqJ (fun ρ wl1 => (∃ (l1 : List Int) (Al1 : Option Addr) (cl1 : Nat), cut_spread_k1 l1 = some res ∧ ρ = [(6, .slice none 0 0), (7, .slice Al1 l1.length cl1)] ∧ Hp w wl1 [.own Al1 cl1 3 1 (List.map encN l1)])) ?_ ?_
  ·
    rintro _ wl1 ⟨l1, Al1, cl1, F, rfl, H⟩
    have R0 := H.ext
    unfold cut_spread_k1 at F
    refine CW.seq fun K3 hK3 => ?_
    refine CW.region ?_
    refine LW.pure rfl rfl (RV.move rfl) ?_
    refine LW.pure rfl rfl (RV.assign rfl) ?_
    refine LW.nil (hK3 _ _ ?_)
    refine CW.ret ?_
    obtain rfl := Option.some.inj F
    refine ⟨_, (ResOK.one rfl), ?_⟩
    exact ⟨Al1, cl1, (by first | rfl | (simp; done) | (simp; omega)), H⟩
  ·
    intro K4 hK4 jK560
    refine CW.seq fun K5 hK5 => ?_
    refine CW.region ?_
    refine LW.pure rfl rfl (RV.move rfl) ?_
    refine LW.pure rfl rfl (RV.len Ts25 rfl) ?_
    refine LW.pure rfl rfl (RV.move rfl) ?_
    refine LW.nil (hK5 _ _ ?_)
    refine CW.block ?_
    replace H := H.nilOwn 3 1
    replace R0 := H.ext
    refine CW.loop (fun meas ρ wl2 => ∃ (t14_1 : Int) (l3 : List Int) (Al3 : Option Addr) (cl3 : Nat), cut_spread_L2 a0 a1 a2 meas t14_1 l3 = some res ∧ ρ = [(0, .slice A_a0 a0.length c_a0), (1, .int .i64 a1), (2, .func (.func f_a2) p_a2 q_a2), (6, .slice none 0 0), (7, .slice Al3 l3.length cl3), (13, .int .i64 ((a0.length : Int))), (14, .int .i64 t14_1)] ∧ Hp w wl2 [.own Al3 cl3 3 1 (List.map encN l3)]) FU ⟨_, ?_, ((0 : Int)), (([] : List Int)), none, 0, F, rfl, H⟩ ?_
    · exact ⟨rfl, rfl, rfl, rfl, (look_slice rfl (by first | rfl | (simp; done) | (simp; omega))), rfl, rfl, trivial⟩
    rintro mk1 _ wl2 ⟨t14_1, l3, Al3, cl3, F, rfl, H⟩
    have R0 := H.ext
    replace F := cut_spread_L2_s F
    obtain ⟨mk1, rfl, F⟩ := F
    generalize hrec1 : cut_spread_L2 a0 a1 a2 mk1 = rec1 at F
    unfold cut_spread_B2 at F
    refine CW.seq fun K6 hK6 => ?_
    refine CW.region ?_
    refine LW.pure rfl rfl (RV.lss rfl rfl) ?_
    refine LW.nil (hK6 _ _ ?_)
    refine CW.seq fun K7 hK7 => ?_
    by_cases hp1 : t14_1 < ((a0.length : Int))
    ·
      replace F := ite_y hp1 F
      have hq1 := dec_t hp1
      refine CW.condT rfl hq1 ?_
      refine CW.skip (hK7 _ _ ?_)
      refine CW.seqJ (fun ρ wl3 => (∃ (l2 : List Int) (Al2 : Option Addr) (cl2 : Nat), cut_spread_k2 t14_1 rec1 l2 = some res ∧ ρ = [(0, .slice A_a0 a0.length c_a0), (1, .int .i64 a1), (2, .func (.func f_a2) p_a2 q_a2), (6, .slice none 0 0), (7, .slice Al2 l2.length cl2), (13, .int .i64 ((a0.length : Int))), (14, .int .i64 t14_1)] ∧ Hp w wl3 [.own Al2 cl2 3 1 (List.map encN l2)])) ?_ ?_
      ·
        rintro _ wl3 ⟨l2, Al2, cl2, F, rfl, H⟩
        have R0 := H.ext
        unfold cut_spread_k2 at F
        obtain ⟨hg1, F⟩ := gd_some F
        refine CW.region ?_
        refine LW.pure rfl rfl (RV.add rfl rfl hg1) ?_
        refine LW.pure rfl rfl (RV.move rfl) ?_
        refine LW.nil ?_
        subst hrec1
        refine ⟨mk1, Nat.lt_succ_self _, _, ?_, (t14_1 + 1), l2, Al2, cl2, F, rfl, H⟩
        exact ⟨rfl, rfl, rfl, rfl, (look_slice rfl (by first | rfl | (simp; done) | (simp; omega))), rfl, rfl, trivial⟩
      ·
        intro K8 hK8 jK715
        refine CW.block ?_
        refine CW.seq fun K9 hK9 => ?_
        refine CW.region ?_
        refine LW.pure rfl rfl (RV.move rfl) ?_
        refine LW.pure rfl rfl (RV.assign rfl) ?_
        refine LW.nil (hK9 _ _ ?_)
        refine CW.seq fun K10 hK10 => ?_
        obtain ⟨x2, hbx2, hx2, F⟩ := ix_some F
        refine CW.region ?_
        refine LW.pure rfl rfl (RV.move rfl) ?_
        refine LW.pure rfl rfl (RV.move rfl) ?_
        refine LW.pure rfl rfl (RV.indexAddr Ts25 rfl rfl hbx2 (h_a0.addr_ hx2)) ?_
        refine LW.pure rfl rfl (RV.load1 Tk3 rfl ((h_a0.at_ hx2).ext R0) rfl) ?_
        refine LW.pure rfl rfl (RV.assign rfl) ?_
        refine LW.nil (hK10 _ _ ?_)
        refine CW.seqJ (fun ρ wl4 => (∃ (t9_1 : Int), cut_spread_k3 t14_1 l3 rec1 t9_1 = some res ∧ ρ = [(0, .slice A_a0 a0.length c_a0), (1, .int .i64 a1), (2, .func (.func f_a2) p_a2 q_a2), (6, .slice none 0 0), (7, .slice Al3 l3.length cl3), (9, .int .i64 t9_1), (13, .int .i64 ((a0.length : Int))), (14, .int .i64 t14_1)] ∧ Hp w wl4 [.own Al3 cl3 3 1 (List.map encN l3)])) ?_ ?_
        ·
          rintro _ wl4 ⟨t9_1, F, rfl, H⟩
          have R0 := H.ext
          unfold cut_spread_k3 at F
          obtain ⟨hg2, F⟩ := gd_some F
          refine CW.region ?_
          refine LW.pure rfl rfl (RV.move rfl) ?_
          refine LW.pure rfl rfl (RV.move rfl) ?_
          refine LW.go rfl rfl (OW.buildSlice (e := 3) (vs := [.int .i64 t9_1]) (cs := [.int .i64 t9_1]) rfl (fun _ => by kernel_rfl) fun b1 w2 N1 => ?_)
          replace H := H.made' (k := 1) (t := 3) (enc := encN) (l := ([t9_1] : List Int)) N1 N1.blk (fun _ => rfl) rfl (by first | decide | omega | (simp; done) | (simp; omega))
          replace R0 := H.ext
          refine LW.go rfl rfl (OW.appendG (enc := encN) (l := l3) (xs := ([t9_1] : List Int)) Ts25 rfl (look_slice rfl (by first | rfl | (simp; done) | (simp; omega))) (H.own 1 rfl) (H.own 0 rfl).sl (fun _ => rfl) rfl rfl hg2 (by decide) fun A2 c2 w3 O1 M1 D1 => ?_)
          replace H : Hp w w3 [.own (some ⟨b1, 0, none⟩) ((([t9_1] : List Int)).length) 3 1 (List.map encN (([t9_1] : List Int))), .own A2 c2 3 1 (List.map encN ((l3 ++ ([t9_1] : List Int))))] := H.mod 1 rfl M1 O1 D1
          replace R0 := H.ext
          refine LW.pure rfl rfl (RV.assign rfl) ?_
          replace H := H.pick (L' := [.own A2 c2 3 1 (List.map encN ((l3 ++ ([t9_1] : List Int))))]) [1] (by decide) rfl
          replace R0 := H.ext
          refine LW.nil (jK715 _ _ ⟨_, ?_, ⟨((l3 ++ ([t9_1] : List Int))), A2, c2, F, rfl, H⟩⟩)
          exact ⟨rfl, rfl, rfl, rfl, (look_slice rfl (by first | rfl | (simp; done) | (simp; omega))), rfl, rfl, trivial⟩
        ·
          intro K11 hK11 jK731
          refine CW.seq fun K12 hK12 => ?_
          refine CW.region ?_
          refine LW.pure rfl rfl (RV.move rfl) ?_
          refine LW.pure rfl rfl (RV.len Ts25 rfl) ?_
          refine LW.pure rfl rfl (RV.move rfl) ?_
          refine LW.nil (hK12 _ _ ?_)
          refine CW.block ?_
          refine CW.loop (fun meas ρ wl5 => ∃ (t9_2 : Int) (t23_1 : Int), cut_spread_L1 a0 a1 a2 t14_1 l3 rec1 meas t9_2 t23_1 = some res ∧ ρ = [(0, .slice A_a0 a0.length c_a0), (1, .int .i64 a1), (2, .func (.func f_a2) p_a2 q_a2), (6, .slice none 0 0), (7, .slice Al3 l3.length cl3), (8, .int .i64 t14_1), (9, .int .i64 t9_2), (13, .int .i64 ((a0.length : Int))), (14, .int .i64 t14_1), (21, .slice A_a0 a0.length c_a0), (22, .int .i64 ((a0.length : Int))), (23, .int .i64 t23_1)] ∧ Hp w wl5 [.own Al3 cl3 3 1 (List.map encN l3)]) FU ⟨_, ?_, x2, ((0 : Int)), F, rfl, H⟩ ?_
          · exact ⟨rfl, rfl, rfl, rfl, (look_slice rfl (by first | rfl | (simp; done) | (simp; omega))), rfl, rfl, rfl, rfl, rfl, rfl, rfl, trivial⟩
          rintro mk2 _ wl5 ⟨t9_2, t23_1, F, rfl, H⟩
          have R0 := H.ext
          replace F := cut_spread_L1_s F
          obtain ⟨mk2, rfl, F⟩ := F
          generalize hrec2 : cut_spread_L1 a0 a1 a2 t14_1 l3 rec1 mk2 = rec2 at F
          unfold cut_spread_B1 at F
          refine CW.seq fun K13 hK13 => ?_
          refine CW.region ?_
          refine LW.pure rfl rfl (RV.lss rfl rfl) ?_
          refine LW.nil (hK13 _ _ ?_)
          refine CW.seq fun K14 hK14 => ?_
          by_cases hp2 : t23_1 < ((a0.length : Int))
          ·
            replace F := ite_y hp2 F
            have hq2 := dec_t hp2
            refine CW.condT rfl hq2 ?_
            refine CW.skip (hK14 _ _ ?_)
            refine CW.seq fun K15 hK15 => ?_
            refine CW.block ?_
            refine CW.seq fun K16 hK16 => ?_
            obtain ⟨x1, hbx1, hx1, F⟩ := ix_some F
            refine CW.region ?_
            refine LW.pure rfl rfl (RV.move rfl) ?_
            refine LW.pure rfl rfl (RV.indexAddr Ts25 rfl rfl hbx1 (h_a0.addr_ hx1)) ?_
            refine LW.pure rfl rfl (RV.load1 Tk3 rfl ((h_a0.at_ hx1).ext R0) rfl) ?_
            refine LW.pure rfl rfl (RV.assign rfl) ?_
            refine LW.pure rfl rfl (RV.assign rfl) ?_
            refine LW.nil (hK16 _ _ ?_)
            obtain ⟨hg3, F⟩ := gd_some F
            obtain ⟨hg4, F⟩ := gd_some F
            obtain ⟨hg5, F⟩ := gd_some F
            obtain ⟨hg6, F⟩ := gd_some F
            obtain ⟨r1, hr1, F⟩ := bnd_some F
            refine CW.region ?_
            refine LW.pure rfl rfl (RV.move rfl) ?_
            refine LW.pure rfl rfl (RV.move rfl) ?_
            refine LW.pure rfl rfl (RV.move rfl) ?_
            refine LW.pure rfl rfl (RV.move rfl) ?_
            refine LW.pure rfl rfl (RV.move rfl) ?_
            refine LW.pure rfl rfl (RV.move rfl) ?_
            refine LW.pure rfl rfl (RV.sub rfl rfl hg3) ?_
            refine LW.pure rfl rfl (RV.move rfl) ?_
            refine LW.pure rfl rfl (RV.move rfl) ?_
            refine LW.pure rfl rfl (RV.sub rfl rfl hg4) ?_
            refine LW.pure rfl rfl (RV.max2 rfl rfl) ?_
            refine LW.pure rfl rfl (RV.mul rfl rfl hg5) ?_
            refine LW.pure rfl rfl (RV.add rfl rfl hg6) ?_
            refine LW.go rfl rfl (OW.callV2 rfl rfl rfl (h_a2 _ _ _ hr1 _ R0) ?_)
            rintro _ w4 ⟨rfl, E1⟩
            refine ⟨_, rfl, ?_⟩
            replace H := H.grow E1
            replace R0 := H.ext
            refine LW.pure rfl rfl (RV.assign rfl) ?_
            refine LW.nil (hK15 _ _ ?_)
            obtain ⟨hg7, F⟩ := gd_some F
            refine CW.region ?_
            refine LW.pure rfl rfl (RV.add rfl rfl hg7) ?_
            refine LW.pure rfl rfl (RV.move rfl) ?_
            refine LW.nil ?_
            subst hrec2
            refine ⟨mk2, Nat.lt_succ_self _, _, ?_, r1, (t23_1 + 1), F, rfl, H⟩
            exact ⟨rfl, rfl, rfl, rfl, (look_slice rfl (by first | rfl | (simp; done) | (simp; omega))), rfl, rfl, rfl, rfl, rfl, rfl, rfl, trivial⟩
          ·
            replace F := ite_n hp2 F
            have hq2 := dec_f hp2
            refine CW.condF rfl hq2 ?_
            refine CW.exit (jK731 _ _ ⟨_, ?_, ⟨t9_2, F, rfl, H⟩⟩)
            exact ⟨rfl, rfl, rfl, rfl, (look_slice rfl (by first | rfl | (simp; done) | (simp; omega))), rfl, rfl, rfl, trivial⟩
    ·
      replace F := ite_n hp1 F
      have hq1 := dec_f hp1
      refine CW.condF rfl hq1 ?_
      refine CW.exit (jK560 _ _ ⟨_, ?_, ⟨l3, Al3, cl3, F, rfl, H⟩⟩)
      exact ⟨rfl, (look_slice rfl (by first | rfl | (simp; done) | (simp; omega))), trivial⟩
end Go.D4

set_option linter.unusedVariables false
set_option linter.unusedSimpArgs false
namespace Go.D4
open Go.Tb Go.Proofs Go.RowKit
theorem Tb4 : Try.prog.underlying 4 = some .bool := by kernel_rfl
theorem Tc35 : callable Try.prog 35 = true := by kernel_rfl
theorem Tc36 : callable Try.prog 36 = true := by kernel_rfl
theorem Tc37 : callable Try.prog 37 = true := by kernel_rfl
theorem Tc38 : callable Try.prog 38 = true := by kernel_rfl
theorem Tc81 : callable Try.prog 81 = true := by kernel_rfl
set_option maxRecDepth 20000 in
set_option maxHeartbeats 1000000 in
theorem cut_Under_ok {a0 : Bog} {a1 : List Int} {A_a0_worth : Option Addr} {c_a0_worth : Nat} {A_a1 : Option Addr} {c_a1 : Nat} {w : World} {res : (List Int) × Int} (h_a0_worth : Sl2 w A_a0_worth c_a0_worth 1 encN a0.worth) (h_a1 : Sl w A_a1 c_a1 1 (a1.map encN)) (F : cut_Under a0 a1 = some res) : Calls Try.prog 35 #[.agg #[.slice A_a0_worth a0.worth.length c_a0_worth], .slice A_a1 a1.length c_a1] w (fun e w' => ∃ (A0 : Option Addr) (c0 : Nat), e = .returned (.tuple #[.slice A0 res.1.length c0, .int .i64 res.2]) ∧ Hp w w' [.own A0 c0 3 1 (List.map encN res.1)]) := by
  refine calls_of_cw (args := [.agg #[.slice A_a0_worth a0.worth.length c_a0_worth], .slice A_a1 a1.length c_a1]) Try.func35 rfl rfl rfl rfl ?_
  have H := Hp.start w
  have R0 := H.ext
  unfold cut_Under at F
  refine CW.seq fun K1 hK1 => ?_
  refine CW.region ?_
  refine LW.go rfl rfl (OW.box rfl fun b1 w1 N1 => ?_)
  replace H := H.new N1 N1.blk
  replace R0 := H.ext
  refine LW.pure rfl rfl (RV.assign rfl) ?_
  refine LW.pure rfl rfl (RV.assign rfl) ?_
  refine LW.nil (hK1 _ _ ?_)
  refine CW.seq fun K2 hK2 => ?_
  refine CW.seq fun K3 hK3 => ?_
  obtain ⟨r1, hr1, F⟩ := bnd_some F
  refine CW.region ?_
  refine LW.pure rfl rfl (RV.loadA [.slice A_a0_worth a0.worth.length c_a0_worth] Tk24 rfl (H.blk 0 rfl).cells rfl rfl) ?_
  refine LW.pure rfl rfl (RV.move rfl) ?_
  refine LW.go rfl rfl (OW.call Tc63 rfl (cut_isList_ok (a0 := a0) (a1 := a1) (h_a0_worth.ext R0) (h_a1.ext R0) hr1) ?_)
  rintro _ w2 ⟨rfl, E1⟩
  refine ⟨_, rfl, ?_⟩
  replace H := H.grow E1
  replace R0 := H.ext
  refine LW.pure rfl rfl (RV.assign rfl) ?_
  refine LW.nil (hK3 _ _ ?_)
  refine CW.seq fun K4 hK4 => ?_
  refine CW.region ?_
  refine LW.pure rfl rfl (RV.move rfl) ?_
  refine LW.pure rfl rfl (RV.nei rfl rfl) ?_
  refine LW.nil (hK4 _ _ ?_)
  by_cases hp1 : r1 = 0
  ·
    replace F := ite_y hp1 F
    have hq1 := dec_t hp1
    refine CW.condF rfl (not_f hq1) ?_
    refine CW.skip (hK2 _ _ ?_)
    refine CW.seq fun K5 hK5 => ?_
    obtain ⟨r2, hr2, F⟩ := bnd_some F
    refine CW.region ?_
    refine LW.pure rfl rfl (RV.move rfl) ?_
    refine LW.go rfl rfl (OW.call Tc81 rfl (cut_spread_ok (a0 := a1) (a1 := (1 : Int)) (a2 := cut_smaller) (h_a1.ext R0) (fun x0 x1 r hF w3 hE => CallsV.of Tc74 (cut_smaller_ok (a0 := x0) (a1 := x1) hF)) hr2) ?_)
    rintro _ w4 ⟨A6_0, c6_0, rfl, E2⟩
    refine ⟨_, rfl, ?_⟩
    replace H : Hp w w4 [.own A6_0 c6_0 3 1 (List.map encN r2), .blk b1 24 [.slice A_a0_worth a0.worth.length c_a0_worth]] := H.append E2
    replace R0 := H.ext
    refine LW.pure rfl rfl (RV.assign rfl) ?_
    refine LW.pure rfl rfl (RV.assign rfl) ?_
    refine LW.nil (hK5 _ _ ?_)
    refine CW.ret ?_
    obtain rfl := Option.some.inj F
    refine ⟨_, (ResOK.two rfl rfl), ?_⟩
    replace H := H.pick (L' := [.own A6_0 c6_0 3 1 (List.map encN r2)]) [0] (by decide) rfl
    replace R0 := H.ext
    exact ⟨A6_0, c6_0, (by first | rfl | (simp; done) | (simp; omega)), H⟩
  ·
    replace F := ite_n hp1 F
    have hq1 := dec_f hp1
    refine CW.condT rfl (not_t hq1) ?_
    refine CW.seq fun K6 hK6 => ?_
    refine CW.region ?_
    refine LW.pure rfl rfl (RV.move rfl) ?_
    refine LW.pure rfl rfl (RV.assign rfl) ?_
    refine LW.pure rfl rfl (RV.assign rfl) ?_
    refine LW.nil (hK6 _ _ ?_)
    refine CW.ret ?_
    obtain rfl := Option.some.inj F
    refine ⟨_, (ResOK.two rfl rfl), ?_⟩
    replace H := H.nilOwn 3 1
    replace R0 := H.ext
    replace H := H.pick (L' := [.own none 0 3 1 (List.map encN (([] : List Int)))]) [0] (by decide) rfl
    replace R0 := H.ext
    exact ⟨none, 0, (by first | rfl | (simp; done) | (simp; omega)), H⟩
set_option maxRecDepth 20000 in
set_option maxHeartbeats 1000000 in
theorem ref04_Under_ok {a0 : Bog} {a1 : List Int} {A_a0_worth : Option Addr} {c_a0_worth : Nat} {A_a1 : Option Addr} {c_a1 : Nat} {w : World} {res : (List Int) × Int} (h_a0_worth : Sl2 w A_a0_worth c_a0_worth 1 encN a0.worth) (h_a1 : Sl w A_a1 c_a1 1 (a1.map encN)) (F : ref04_Under a0 a1 = some res) : Calls Try.prog 36 #[.agg #[.slice A_a0_worth a0.worth.length c_a0_worth], .slice A_a1 a1.length c_a1] w (fun e w' => ∃ (A1 : Option Addr) (c1 : Nat), e = .returned (.tuple #[.slice A1 res.1.length c1, .int .i64 res.2]) ∧ Hp w w' [.own A1 c1 3 1 (List.map encN res.1)]) := by
  refine calls_of_cw (args := [.agg #[.slice A_a0_worth a0.worth.length c_a0_worth], .slice A_a1 a1.length c_a1]) Try.func36 rfl rfl rfl rfl ?_
  have H := Hp.start w
  have R0 := H.ext
  unfold ref04_Under at F
  refine CW.seq fun K1 hK1 => ?_
  refine CW.region ?_
  refine LW.go rfl rfl (OW.box rfl fun b1 w1 N1 => ?_)
  replace H := H.new N1 N1.blk
  replace R0 := H.ext
  refine LW.pure rfl rfl (RV.assign rfl) ?_
  refine LW.pure rfl rfl (RV.assign rfl) ?_
  refine LW.nil (hK1 _ _ ?_)
  refine CW.seq fun K2 hK2 => ?_
  obtain ⟨r4, hr4, F⟩ := bnd_some F
  refine CW.region ?_
  refine LW.pure rfl rfl (RV.loadA [.slice A_a0_worth a0.worth.length c_a0_worth] Tk24 rfl (H.blk 0 rfl).cells rfl rfl) ?_
  refine LW.pure rfl rfl (RV.move rfl) ?_
  refine LW.go rfl rfl (OW.call Tc71 rfl (ref04_numbers_ok (a0 := a0) (a1 := a1) (h_a0_worth.ext R0) (h_a1.ext R0) hr4) ?_)
  rintro _ w2 ⟨rfl, E1⟩
  refine ⟨_, rfl, ?_⟩
  replace H := H.grow E1
  replace R0 := H.ext
  refine LW.pure rfl rfl (RV.assign rfl) ?_
  refine LW.nil (hK2 _ _ ?_)
  refine CW.seq fun K3 hK3 => ?_
  refine CW.seq fun K4 hK4 => ?_
  refine CW.region ?_
  refine LW.pure rfl rfl (RV.move rfl) ?_
  refine LW.pure rfl rfl (RV.nei rfl rfl) ?_
  refine LW.nil (hK4 _ _ ?_)
  by_cases hp1 : r4 = 0
  ·
    replace F := ite_y hp1 F
    have hq1 := dec_t hp1
    refine CW.condF rfl (not_f hq1) ?_
    refine CW.skip (hK3 _ _ ?_)
    refine CW.seq fun K5 hK5 => ?_
    obtain ⟨r2, hr2, F⟩ := bnd_some F
    refine CW.region ?_
    refine LW.pure rfl rfl (RV.loadA [.slice A_a0_worth a0.worth.length c_a0_worth] Tk24 rfl (H.blk 0 rfl).cells rfl rfl) ?_
    refine LW.go rfl rfl (OW.call Tc82 rfl (ref04_all_ok (a0 := a0) (h_a0_worth.ext R0) hr2) ?_)
    rintro _ w3 ⟨A19_0, c19_0, hs19_0, rfl, E2⟩
    refine ⟨_, rfl, ?_⟩
    replace H : Hp w w3 [.tab A19_0 c19_0 25 hs19_0 3 1 (encM encN r2), .blk b1 24 [.slice A_a0_worth a0.worth.length c_a0_worth]] := H.append E2
    replace R0 := H.ext
    refine LW.pure rfl rfl (RV.assign rfl) ?_
    refine LW.nil (hK5 _ _ ?_)
    refine CW.seq fun K6 hK6 => ?_
    refine CW.region ?_
    refine LW.pure rfl rfl (RV.assign rfl) ?_
    refine LW.nil (hK6 _ _ ?_)
    refine CW.seqJ (fun ρ wl1 => (∃ (m1 : List (List Int)) (hsm1 : List (Option Addr × Nat)) (Am1 : Option Addr) (cm1 : Nat), ref04_Under_k1 m1 = some res ∧ ρ = [(4, .slice none 0 0), (5, .int .i64 0), (8, .slice Am1 m1.length cm1)] ∧ Hp w wl1 [.own Am1 cm1 25 1 (List.map encH (List.zip hsm1 m1)), .tab A19_0 c19_0 25 hs19_0 3 1 (encM encN r2)] ∧ SubT hsm1 m1 hs19_0 r2)) ?_ ?_
    ·
      rintro _ wl1 ⟨m1, hsm1, Am1, cm1, F, rfl, H, hsub1⟩
      have R0 := H.ext
      unfold ref04_Under_k1 at F
      refine CW.seq fun K7 hK7 => ?_
      obtain ⟨r1, hr1, F⟩ := bnd_some F
      refine CW.region ?_
      refine LW.pure rfl rfl (RV.move rfl) ?_
      refine LW.go rfl rfl (OW.call Tc78 rfl (ref04_most_ok (a0 := m1) (SubT.sl2 hsub1 (H.own 0 rfl) (H.tab 1 rfl)) hr1) ?_)
      rintro _ w4 ⟨A27_0, c27_0, rfl, E3⟩
      refine ⟨_, rfl, ?_⟩
      replace H : Hp w w4 [.own A27_0 c27_0 3 1 (List.map encN r1), .own Am1 cm1 25 1 (List.map encH (List.zip hsm1 m1)), .tab A19_0 c19_0 25 hs19_0 3 1 (encM encN r2)] := H.append E3
      replace R0 := H.ext
      refine LW.pure rfl rfl (RV.assign rfl) ?_
      refine LW.pure rfl rfl (RV.assign rfl) ?_
      refine LW.nil (hK7 _ _ ?_)
      refine CW.ret ?_
      obtain rfl := Option.some.inj F
      refine ⟨_, (ResOK.two rfl rfl), ?_⟩
      replace H := H.pick (L' := [.own A27_0 c27_0 3 1 (List.map encN r1)]) [0] (by decide) rfl
      replace R0 := H.ext
      exact ⟨A27_0, c27_0, (by first | rfl | (simp; done) | (simp; omega)), H⟩
    ·
      intro K8 hK8 jK65
      refine CW.seq fun K9 hK9 => ?_
      refine CW.region ?_
      refine LW.pure rfl rfl (RV.assign rfl) ?_
      refine LW.nil (hK9 _ _ ?_)
      refine CW.block ?_
      replace H : Hp w w3 [.own none 0 25 1 (List.map encH (List.zip (([] : List (Option Addr × Nat))) (([] : List (List Int))))), .tab A19_0 c19_0 25 hs19_0 3 1 (encM encN r2), .blk b1 24 [.slice A_a0_worth a0.worth.length c_a0_worth]] := H.nilOwn 25 1
      replace R0 := H.ext
      replace H := H.pick (L' := [.tab A19_0 c19_0 25 hs19_0 3 1 (encM encN r2), .own none 0 25 1 (List.map encH (List.zip (([] : List (Option Addr × Nat))) (([] : List (List Int)))))]) [1, 0] (by decide) rfl
      replace R0 := H.ext
      refine CW.loop (fun meas ρ wl2 => ∃ (t9_1 : Int) (m3 : List (List Int)) (hsm3 : List (Option Addr × Nat)) (Am3 : Option Addr) (cm3 : Nat), ref04_Under_L1 a1 r2 meas t9_1 m3 = some res ∧ ρ = [(1, .slice A_a1 a1.length c_a1), (4, .slice none 0 0), (5, .int .i64 0), (7, .slice A19_0 r2.length c19_0), (8, .slice Am3 m3.length cm3), (9, .int .i64 t9_1)] ∧ Hp w wl2 [.tab A19_0 c19_0 25 hs19_0 3 1 (encM encN r2), .own Am3 cm3 25 1 (List.map encH (List.zip hsm3 m3))] ∧ SubT hsm3 m3 hs19_0 r2) FU ⟨_, ?_, ((0 : Int)), (([] : List (List Int))), (([] : List (Option Addr × Nat))), none, 0, F, rfl, H, SubT.nil⟩ ?_
      · exact ⟨rfl, rfl, rfl, (look_slice rfl (by first | rfl | (simp; done) | (simp; omega))), (look_slice rfl (by first | rfl | (simp; done) | (simp; omega))), rfl, trivial⟩
      rintro mk1 _ wl2 ⟨t9_1, m3, hsm3, Am3, cm3, F, rfl, H, hsub2⟩
      have R0 := H.ext
      replace F := ref04_Under_L1_s F
      obtain ⟨mk1, rfl, F⟩ := F
      generalize hrec1 : ref04_Under_L1 a1 r2 mk1 = rec1 at F
      unfold ref04_Under_B1 at F
      refine CW.seq fun K10 hK10 => ?_
      refine CW.seq fun K11 hK11 => ?_
      refine CW.region ?_
      refine LW.pure rfl rfl (RV.move rfl) ?_
      refine LW.pure rfl rfl (RV.move rfl) ?_
      refine LW.pure rfl rfl (RV.len Ts22 rfl) ?_
      refine LW.pure rfl rfl (RV.lss rfl rfl) ?_
      refine LW.nil (hK11 _ _ ?_)
      by_cases hp2 : t9_1 < ((r2.length : Int))
      ·
        replace F := ite_y hp2 F
        have hq2 := dec_t hp2
        refine CW.condT rfl hq2 ?_
        refine CW.skip (hK10 _ _ ?_)
        refine CW.seqJ (fun ρ wl3 => (∃ (m2 : List (List Int)) (hsm2 : List (Option Addr × Nat)) (Am2 : Option Addr) (cm2 : Nat), ref04_Under_k2 t9_1 rec1 m2 = some res ∧ ρ = [(1, .slice A_a1 a1.length c_a1), (4, .slice none 0 0), (5, .int .i64 0), (7, .slice A19_0 r2.length c19_0), (8, .slice Am2 m2.length cm2), (9, .int .i64 t9_1)] ∧ Hp w wl3 [.tab A19_0 c19_0 25 hs19_0 3 1 (encM encN r2), .own Am2 cm2 25 1 (List.map encH (List.zip hsm2 m2))] ∧ SubT hsm2 m2 hs19_0 r2)) ?_ ?_
        ·
          rintro _ wl3 ⟨m2, hsm2, Am2, cm2, F, rfl, H, hsub3⟩
          have R0 := H.ext
          unfold ref04_Under_k2 at F
          obtain ⟨hg1, F⟩ := gd_some F
          refine CW.region ?_
          refine LW.pure rfl rfl (RV.move rfl) ?_
          refine LW.pure rfl rfl (RV.add rfl rfl hg1) ?_
          refine LW.pure rfl rfl (RV.assign rfl) ?_
          refine LW.nil ?_
          subst hrec1
          refine ⟨mk1, Nat.lt_succ_self _, _, ?_, (t9_1 + 1), m2, hsm2, Am2, cm2, F, rfl, H, hsub3⟩
          exact ⟨rfl, rfl, rfl, (look_slice rfl (by first | rfl | (simp; done) | (simp; omega))), (look_slice rfl (by first | rfl | (simp; done) | (simp; omega))), rfl, trivial⟩
        ·
          intro K12 hK12 jK80
          refine CW.block ?_
          refine CW.seq fun K13 hK13 => ?_
          obtain ⟨x1, hbx1, hx1, F⟩ := ix_some F
          obtain ⟨r3, hr3, F⟩ := bnd_some F
          refine CW.region ?_
          refine LW.pure rfl rfl (RV.move rfl) ?_
          refine LW.pure rfl rfl (RV.move rfl) ?_
          obtain ⟨B1, e1, hh1⟩ := (H.tab 0 rfl).hd hx1
          refine LW.pure rfl rfl (RV.indexAddr Ts22 rfl rfl hbx1 ((H.tab 0 rfl).addr_ hx1)) ?_
          refine LW.pure rfl rfl (RV.load1 Tk25 rfl ((H.tab 0 rfl).cell hx1 hh1) rfl) ?_
          refine LW.pure rfl rfl (RV.move rfl) ?_
          refine LW.go rfl rfl (OW.call Tc32 rfl (ref04_LiesIn_ok (a0 := x1) (a1 := a1) ((H.tab 0 rfl).rowO hx1 hh1).sl (h_a1.ext R0) hr3) ?_)
          rintro _ w5 ⟨rfl, E4⟩
          refine ⟨_, rfl, ?_⟩
          replace H := H.grow E4
          replace R0 := H.ext
          refine LW.nil (hK13 _ _ ?_)
          by_cases hp3 : r3 = true
          ·
            replace F := ite_y hp3 F
            have hq3 : r3 = true := hp3
            refine CW.condT rfl hq3 ?_
            obtain ⟨x2, hbx2, hx2, F⟩ := ix_some F
            obtain ⟨hg2, F⟩ := gd_some F
            refine CW.region ?_
            refine LW.pure rfl rfl (RV.move rfl) ?_
            refine LW.pure rfl rfl (RV.move rfl) ?_
            refine LW.pure rfl rfl (RV.move rfl) ?_
            obtain ⟨B2, e2, hh2⟩ := (H.tab 0 rfl).hd hx2
            refine LW.pure rfl rfl (RV.indexAddr Ts22 rfl rfl hbx2 ((H.tab 0 rfl).addr_ hx2)) ?_
            refine LW.pure rfl rfl (RV.load1 Tk25 rfl ((H.tab 0 rfl).cell hx2 hh2) rfl) ?_
            refine LW.go rfl rfl (OW.buildSlice (e := 25) (vs := [.slice B2 x2.length e2]) (cs := [.slice B2 x2.length e2]) rfl (fun _ => by kernel_rfl) fun b2 w6 N2 => ?_)
            replace H := H.made' (k := 1) (t := 25) (enc := encH) (l := ([((B2, e2), x2)] : List ((Option Addr × Nat) × List Int))) N2 (by have q := N2.blk; simp only [List.flatMap_cons, List.flatMap_nil, encH, List.length_nil, List.append_nil, List.cons_append, List.nil_append]; first | done | exact q) (fun _ => rfl) rfl (by first | decide | omega | (simp; done) | (simp; omega))
            replace R0 := H.ext
            refine LW.go rfl rfl (OW.appendS (m := m3) (mT := r2) (hs := hsm3) (hT := hs19_0) (h := (B2, e2)) (l := x2) Ts22 rfl rfl hsub2 (H.own 2 rfl) (H.own 0 rfl).sl rfl hg2 (by decide) fun A2 c2 w7 O1 M1 D1 => ?_)
            have hsub4 : SubT (hsm3 ++ [(B2, e2)]) (m3 ++ [x2]) hs19_0 r2 := SubT.push hsub2 hh2 hx2
            replace H : Hp w w7 [.own (some ⟨b2, 0, none⟩) ((([((B2, e2), x2)] : List ((Option Addr × Nat) × List Int))).length) 25 1 (List.map encH (([((B2, e2), x2)] : List ((Option Addr × Nat) × List Int)))), .tab A19_0 c19_0 25 hs19_0 3 1 (encM encN r2), .own A2 c2 25 1 (List.map encH (List.zip ((hsm3 ++ [(B2, e2)])) ((m3 ++ [x2]))))] := H.mod 2 rfl M1 O1 D1
            replace R0 := H.ext
            refine LW.pure rfl rfl (RV.assign rfl) ?_
            replace H := H.pick (L' := [.tab A19_0 c19_0 25 hs19_0 3 1 (encM encN r2), .own A2 c2 25 1 (List.map encH (List.zip ((hsm3 ++ [(B2, e2)])) ((m3 ++ [x2]))))]) [1, 2] (by decide) rfl
            replace R0 := H.ext
            refine LW.nil (jK80 _ _ ⟨_, ?_, ⟨((m3 ++ [x2])), ((hsm3 ++ [(B2, e2)])), A2, c2, F, rfl, H, hsub4⟩⟩)
            exact ⟨rfl, rfl, rfl, (look_slice rfl (by first | rfl | (simp; done) | (simp; omega))), (look_slice rfl (by first | rfl | (simp; done) | (simp; omega))), rfl, trivial⟩
          ·
            replace F := ite_n hp3 F
            have hq3 : r3 = false := raw_f hp3
            refine CW.condF rfl hq3 ?_
            refine CW.skip (jK80 _ _ ⟨_, ?_, ⟨m3, hsm3, Am3, cm3, F, rfl, H, hsub2⟩⟩)
            exact ⟨rfl, rfl, rfl, (look_slice rfl (by first | rfl | (simp; done) | (simp; omega))), (look_slice rfl (by first | rfl | (simp; done) | (simp; omega))), rfl, trivial⟩
      ·
        replace F := ite_n hp2 F
        have hq2 := dec_f hp2
        refine CW.condF rfl hq2 ?_
        replace H := H.pick (L' := [.own Am3 cm3 25 1 (List.map encH (List.zip hsm3 m3)), .tab A19_0 c19_0 25 hs19_0 3 1 (encM encN r2)]) [1, 0] (by decide) rfl
        replace R0 := H.ext
        refine CW.exit (jK65 _ _ ⟨_, ?_, ⟨m3, hsm3, Am3, cm3, F, rfl, H, hsub2⟩⟩)
        exact ⟨rfl, rfl, (look_slice rfl (by first | rfl | (simp; done) | (simp; omega))), trivial⟩
  ·
    replace F := ite_n hp1 F
    have hq1 := dec_f hp1
    refine CW.condT rfl (not_t hq1) ?_
    refine CW.seq fun K14 hK14 => ?_
    refine CW.region ?_
    refine LW.pure rfl rfl (RV.move rfl) ?_
    refine LW.pure rfl rfl (RV.assign rfl) ?_
    refine LW.pure rfl rfl (RV.assign rfl) ?_
    refine LW.nil (hK14 _ _ ?_)
    refine CW.ret ?_
    obtain rfl := Option.some.inj F
    refine ⟨_, (ResOK.two rfl rfl), ?_⟩
    replace H := H.nilOwn 3 1
    replace R0 := H.ext
    replace H := H.pick (L' := [.own none 0 3 1 (List.map encN (([] : List Int)))]) [0] (by decide) rfl
    replace R0 := H.ext
    exact ⟨none, 0, (by first | rfl | (simp; done) | (simp; omega)), H⟩
set_option maxRecDepth 20000 in
set_option maxHeartbeats 1000000 in
theorem cut_Over_ok {a0 : Bog} {a1 : List Int} {A_a0_worth : Option Addr} {c_a0_worth : Nat} {A_a1 : Option Addr} {c_a1 : Nat} {w : World} {res : (List Int) × Bool × Int} (h_a0_worth : Sl2 w A_a0_worth c_a0_worth 1 encN a0.worth) (h_a1 : Sl w A_a1 c_a1 1 (a1.map encN)) (F : cut_Over a0 a1 = some res) : Calls Try.prog 37 #[.agg #[.slice A_a0_worth a0.worth.length c_a0_worth], .slice A_a1 a1.length c_a1] w (fun e w' => ∃ (A0 : Option Addr) (c0 : Nat), e = .returned (.tuple #[.slice A0 res.1.length c0, .bool res.2.1, .int .i64 res.2.2]) ∧ Hp w w' [.own A0 c0 3 1 (List.map encN res.1)]) := by
  refine calls_of_cw (args := [.agg #[.slice A_a0_worth a0.worth.length c_a0_worth], .slice A_a1 a1.length c_a1]) Try.func37 rfl rfl rfl rfl ?_
  have H := Hp.start w
  have R0 := H.ext
  unfold cut_Over at F
  refine CW.seq fun K1 hK1 => ?_
  refine CW.region ?_
  refine LW.go rfl rfl (OW.box rfl fun b1 w1 N1 => ?_)
  replace H := H.new N1 N1.blk
  replace R0 := H.ext
  refine LW.pure rfl rfl (RV.assign rfl) ?_
  refine LW.pure rfl rfl (RV.assign rfl) ?_
  refine LW.pure rfl rfl (RV.assign rfl) ?_
  refine LW.nil (hK1 _ _ ?_)
  refine CW.seq fun K2 hK2 => ?_
  refine CW.seq fun K3 hK3 => ?_
  obtain ⟨r1, hr1, F⟩ := bnd_some F
  refine CW.region ?_
  refine LW.pure rfl rfl (RV.loadA [.slice A_a0_worth a0.worth.length c_a0_worth] Tk24 rfl (H.blk 0 rfl).cells rfl rfl) ?_
  refine LW.pure rfl rfl (RV.move rfl) ?_
  refine LW.go rfl rfl (OW.call Tc63 rfl (cut_isList_ok (a0 := a0) (a1 := a1) (h_a0_worth.ext R0) (h_a1.ext R0) hr1) ?_)
  rintro _ w2 ⟨rfl, E1⟩
  refine ⟨_, rfl, ?_⟩
  replace H := H.grow E1
  replace R0 := H.ext
  refine LW.pure rfl rfl (RV.assign rfl) ?_
  refine LW.nil (hK3 _ _ ?_)
  refine CW.seq fun K4 hK4 => ?_
  refine CW.region ?_
  refine LW.pure rfl rfl (RV.move rfl) ?_
  refine LW.pure rfl rfl (RV.nei rfl rfl) ?_
  refine LW.nil (hK4 _ _ ?_)
  by_cases hp1 : r1 = 0
  ·
    replace F := ite_y hp1 F
    have hq1 := dec_t hp1
    refine CW.condF rfl (not_f hq1) ?_
    refine CW.skip (hK2 _ _ ?_)
    refine CW.seq fun K5 hK5 => ?_
    obtain ⟨r2, hr2, F⟩ := bnd_some F
    refine CW.region ?_
    refine LW.pure rfl rfl (RV.move rfl) ?_
    refine LW.go rfl rfl (OW.call Tc81 rfl (cut_spread_ok (a0 := a1) (a1 := (-1 : Int)) (a2 := cut_greater) (h_a1.ext R0) (fun x0 x1 r hF w3 hE => CallsV.of Tc77 (cut_greater_ok (a0 := x0) (a1 := x1) hF)) hr2) ?_)
    rintro _ w4 ⟨A6_0, c6_0, rfl, E2⟩
    refine ⟨_, rfl, ?_⟩
    replace H : Hp w w4 [.own A6_0 c6_0 3 1 (List.map encN r2), .blk b1 24 [.slice A_a0_worth a0.worth.length c_a0_worth]] := H.append E2
    replace R0 := H.ext
    refine LW.pure rfl rfl (RV.assign rfl) ?_
    refine LW.pure rfl rfl (RV.assign rfl) ?_
    refine LW.pure rfl rfl (RV.assign rfl) ?_
    refine LW.nil (hK5 _ _ ?_)
    refine CW.ret ?_
    obtain rfl := Option.some.inj F
    refine ⟨_, (ResOK.three rfl rfl rfl), ?_⟩
    replace H := H.pick (L' := [.own A6_0 c6_0 3 1 (List.map encN r2)]) [0] (by decide) rfl
    replace R0 := H.ext
    exact ⟨A6_0, c6_0, (by first | rfl | (simp; done) | (simp; omega)), H⟩
  ·
    replace F := ite_n hp1 F
    have hq1 := dec_f hp1
    refine CW.condT rfl (not_t hq1) ?_
    refine CW.seq fun K6 hK6 => ?_
    refine CW.region ?_
    refine LW.pure rfl rfl (RV.move rfl) ?_
    refine LW.pure rfl rfl (RV.assign rfl) ?_
    refine LW.pure rfl rfl (RV.assign rfl) ?_
    refine LW.pure rfl rfl (RV.assign rfl) ?_
    refine LW.nil (hK6 _ _ ?_)
    refine CW.ret ?_
    obtain rfl := Option.some.inj F
    refine ⟨_, (ResOK.three rfl rfl rfl), ?_⟩
    replace H := H.nilOwn 3 1
    replace R0 := H.ext
    replace H := H.pick (L' := [.own none 0 3 1 (List.map encN (([] : List Int)))]) [0] (by decide) rfl
    replace R0 := H.ext
    exact ⟨none, 0, (by first | rfl | (simp; done) | (simp; omega)), H⟩
set_option maxRecDepth 20000 in
set_option maxHeartbeats 1000000 in
theorem ref04_Over_ok {a0 : Bog} {a1 : List Int} {A_a0_worth : Option Addr} {c_a0_worth : Nat} {A_a1 : Option Addr} {c_a1 : Nat} {w : World} {res : (List Int) × Bool × Int} (h_a0_worth : Sl2 w A_a0_worth c_a0_worth 1 encN a0.worth) (h_a1 : Sl w A_a1 c_a1 1 (a1.map encN)) (F : ref04_Over a0 a1 = some res) : Calls Try.prog 38 #[.agg #[.slice A_a0_worth a0.worth.length c_a0_worth], .slice A_a1 a1.length c_a1] w (fun e w' => ∃ (A1 : Option Addr) (c1 : Nat), e = .returned (.tuple #[.slice A1 res.1.length c1, .bool res.2.1, .int .i64 res.2.2]) ∧ Hp w w' [.own A1 c1 3 1 (List.map encN res.1)]) := by
  refine calls_of_cw (args := [.agg #[.slice A_a0_worth a0.worth.length c_a0_worth], .slice A_a1 a1.length c_a1]) Try.func38 rfl rfl rfl rfl ?_
  have H := Hp.start w
  have R0 := H.ext
  unfold ref04_Over at F
  refine CW.seq fun K1 hK1 => ?_
  refine CW.region ?_
  refine LW.go rfl rfl (OW.box rfl fun b1 w1 N1 => ?_)
  replace H := H.new N1 N1.blk
  replace R0 := H.ext
  refine LW.pure rfl rfl (RV.assign rfl) ?_
  refine LW.pure rfl rfl (RV.assign rfl) ?_
  refine LW.pure rfl rfl (RV.assign rfl) ?_
  refine LW.nil (hK1 _ _ ?_)
  refine CW.seq fun K2 hK2 => ?_
  obtain ⟨r4, hr4, F⟩ := bnd_some F
  refine CW.region ?_
  refine LW.pure rfl rfl (RV.loadA [.slice A_a0_worth a0.worth.length c_a0_worth] Tk24 rfl (H.blk 0 rfl).cells rfl rfl) ?_
  refine LW.pure rfl rfl (RV.move rfl) ?_
  refine LW.go rfl rfl (OW.call Tc71 rfl (ref04_numbers_ok (a0 := a0) (a1 := a1) (h_a0_worth.ext R0) (h_a1.ext R0) hr4) ?_)
  rintro _ w2 ⟨rfl, E1⟩
  refine ⟨_, rfl, ?_⟩
  replace H := H.grow E1
  replace R0 := H.ext
  refine LW.pure rfl rfl (RV.assign rfl) ?_
  refine LW.nil (hK2 _ _ ?_)
  refine CW.seq fun K3 hK3 => ?_
  refine CW.seq fun K4 hK4 => ?_
  refine CW.region ?_
  refine LW.pure rfl rfl (RV.move rfl) ?_
  refine LW.pure rfl rfl (RV.nei rfl rfl) ?_
  refine LW.nil (hK4 _ _ ?_)
  by_cases hp1 : r4 = 0
  ·
    replace F := ite_y hp1 F
    have hq1 := dec_t hp1
    refine CW.condF rfl (not_f hq1) ?_
    refine CW.skip (hK3 _ _ ?_)
    refine CW.seq fun K5 hK5 => ?_
    obtain ⟨r2, hr2, F⟩ := bnd_some F
    refine CW.region ?_
    refine LW.pure rfl rfl (RV.loadA [.slice A_a0_worth a0.worth.length c_a0_worth] Tk24 rfl (H.blk 0 rfl).cells rfl rfl) ?_
    refine LW.go rfl rfl (OW.call Tc82 rfl (ref04_all_ok (a0 := a0) (h_a0_worth.ext R0) hr2) ?_)
    rintro _ w3 ⟨A19_0, c19_0, hs19_0, rfl, E2⟩
    refine ⟨_, rfl, ?_⟩
    replace H : Hp w w3 [.tab A19_0 c19_0 25 hs19_0 3 1 (encM encN r2), .blk b1 24 [.slice A_a0_worth a0.worth.length c_a0_worth]] := H.append E2
    replace R0 := H.ext
    refine LW.pure rfl rfl (RV.assign rfl) ?_
    refine LW.nil (hK5 _ _ ?_)
    refine CW.seq fun K6 hK6 => ?_
    refine CW.region ?_
    refine LW.pure rfl rfl (RV.assign rfl) ?_
    refine LW.nil (hK6 _ _ ?_)
    refine CW.seqJ (fun ρ wl1 => (∃ (m1 : List (List Int)) (hsm1 : List (Option Addr × Nat)) (Am1 : Option Addr) (cm1 : Nat), ref04_Over_k1 m1 = some res ∧ ρ = [(4, .slice none 0 0), (5, .bool false), (6, .int .i64 0), (9, .slice Am1 m1.length cm1)] ∧ Hp w wl1 [.own Am1 cm1 25 1 (List.map encH (List.zip hsm1 m1)), .tab A19_0 c19_0 25 hs19_0 3 1 (encM encN r2)] ∧ SubT hsm1 m1 hs19_0 r2)) ?_ ?_
    ·
      rintro _ wl1 ⟨m1, hsm1, Am1, cm1, F, rfl, H, hsub1⟩
      have R0 := H.ext
      unfold ref04_Over_k1 at F
      refine CW.seq fun K7 hK7 => ?_
      obtain ⟨r1, hr1, F⟩ := bnd_some F
      refine CW.region ?_
      refine LW.pure rfl rfl (RV.move rfl) ?_
      refine LW.go rfl rfl (OW.call Tc76 rfl (ref04_least_ok (a0 := m1) (SubT.sl2 hsub1 (H.own 0 rfl) (H.tab 1 rfl)) hr1) ?_)
      rintro _ w4 ⟨A27_0, c27_0, rfl, E3⟩
      refine ⟨_, rfl, ?_⟩
      replace H : Hp w w4 [.own A27_0 c27_0 3 1 (List.map encN r1), .own Am1 cm1 25 1 (List.map encH (List.zip hsm1 m1)), .tab A19_0 c19_0 25 hs19_0 3 1 (encM encN r2)] := H.append E3
      replace R0 := H.ext
      refine LW.pure rfl rfl (RV.assign rfl) ?_
      refine LW.pure rfl rfl (RV.assign rfl) ?_
      refine LW.pure rfl rfl (RV.assign rfl) ?_
      refine LW.nil (hK7 _ _ ?_)
      refine CW.ret ?_
      obtain rfl := Option.some.inj F
      refine ⟨_, (ResOK.three rfl rfl rfl), ?_⟩
      replace H := H.pick (L' := [.own A27_0 c27_0 3 1 (List.map encN r1)]) [0] (by decide) rfl
      replace R0 := H.ext
      exact ⟨A27_0, c27_0, (by first | rfl | (simp; done) | (simp; omega)), H⟩
    ·
      intro K8 hK8 jK65
      refine CW.seq fun K9 hK9 => ?_
      refine CW.region ?_
      refine LW.pure rfl rfl (RV.assign rfl) ?_
      refine LW.nil (hK9 _ _ ?_)
      refine CW.block ?_
      replace H : Hp w w3 [.own none 0 25 1 (List.map encH (List.zip (([] : List (Option Addr × Nat))) (([] : List (List Int))))), .tab A19_0 c19_0 25 hs19_0 3 1 (encM encN r2), .blk b1 24 [.slice A_a0_worth a0.worth.length c_a0_worth]] := H.nilOwn 25 1
      replace R0 := H.ext
      replace H := H.pick (L' := [.tab A19_0 c19_0 25 hs19_0 3 1 (encM encN r2), .own none 0 25 1 (List.map encH (List.zip (([] : List (Option Addr × Nat))) (([] : List (List Int)))))]) [1, 0] (by decide) rfl
      replace R0 := H.ext
      refine CW.loop (fun meas ρ wl2 => ∃ (t10_1 : Int) (m3 : List (List Int)) (hsm3 : List (Option Addr × Nat)) (Am3 : Option Addr) (cm3 : Nat), ref04_Over_L1 a1 r2 meas t10_1 m3 = some res ∧ ρ = [(1, .slice A_a1 a1.length c_a1), (4, .slice none 0 0), (5, .bool false), (6, .int .i64 0), (8, .slice A19_0 r2.length c19_0), (9, .slice Am3 m3.length cm3), (10, .int .i64 t10_1)] ∧ Hp w wl2 [.tab A19_0 c19_0 25 hs19_0 3 1 (encM encN r2), .own Am3 cm3 25 1 (List.map encH (List.zip hsm3 m3))] ∧ SubT hsm3 m3 hs19_0 r2) FU ⟨_, ?_, ((0 : Int)), (([] : List (List Int))), (([] : List (Option Addr × Nat))), none, 0, F, rfl, H, SubT.nil⟩ ?_
      · exact ⟨rfl, rfl, rfl, rfl, (look_slice rfl (by first | rfl | (simp; done) | (simp; omega))), (look_slice rfl (by first | rfl | (simp; done) | (simp; omega))), rfl, trivial⟩
      rintro mk1 _ wl2 ⟨t10_1, m3, hsm3, Am3, cm3, F, rfl, H, hsub2⟩
      have R0 := H.ext
      replace F := ref04_Over_L1_s F
      obtain ⟨mk1, rfl, F⟩ := F
      generalize hrec1 : ref04_Over_L1 a1 r2 mk1 = rec1 at F
      unfold ref04_Over_B1 at F
      refine CW.seq fun K10 hK10 => ?_
      refine CW.seq fun K11 hK11 => ?_
      refine CW.region ?_
      refine LW.pure rfl rfl (RV.move rfl) ?_
      refine LW.pure rfl rfl (RV.move rfl) ?_
      refine LW.pure rfl rfl (RV.len Ts22 rfl) ?_
      refine LW.pure rfl rfl (RV.lss rfl rfl) ?_
      refine LW.nil (hK11 _ _ ?_)
      by_cases hp2 : t10_1 < ((r2.length : Int))
      ·
        replace F := ite_y hp2 F
        have hq2 := dec_t hp2
        refine CW.condT rfl hq2 ?_
        refine CW.skip (hK10 _ _ ?_)
        refine CW.seqJ (fun ρ wl3 => (∃ (m2 : List (List Int)) (hsm2 : List (Option Addr × Nat)) (Am2 : Option Addr) (cm2 : Nat), ref04_Over_k2 t10_1 rec1 m2 = some res ∧ ρ = [(1, .slice A_a1 a1.length c_a1), (4, .slice none 0 0), (5, .bool false), (6, .int .i64 0), (8, .slice A19_0 r2.length c19_0), (9, .slice Am2 m2.length cm2), (10, .int .i64 t10_1)] ∧ Hp w wl3 [.tab A19_0 c19_0 25 hs19_0 3 1 (encM encN r2), .own Am2 cm2 25 1 (List.map encH (List.zip hsm2 m2))] ∧ SubT hsm2 m2 hs19_0 r2)) ?_ ?_
        ·
          rintro _ wl3 ⟨m2, hsm2, Am2, cm2, F, rfl, H, hsub3⟩
          have R0 := H.ext
          unfold ref04_Over_k2 at F
          obtain ⟨hg1, F⟩ := gd_some F
          refine CW.region ?_
          refine LW.pure rfl rfl (RV.move rfl) ?_
          refine LW.pure rfl rfl (RV.add rfl rfl hg1) ?_
          refine LW.pure rfl rfl (RV.assign rfl) ?_
          refine LW.nil ?_
          subst hrec1
          refine ⟨mk1, Nat.lt_succ_self _, _, ?_, (t10_1 + 1), m2, hsm2, Am2, cm2, F, rfl, H, hsub3⟩
          exact ⟨rfl, rfl, rfl, rfl, (look_slice rfl (by first | rfl | (simp; done) | (simp; omega))), (look_slice rfl (by first | rfl | (simp; done) | (simp; omega))), rfl, trivial⟩
        ·
          intro K12 hK12 jK80
          refine CW.block ?_
          refine CW.seq fun K13 hK13 => ?_
          obtain ⟨x1, hbx1, hx1, F⟩ := ix_some F
          obtain ⟨r3, hr3, F⟩ := bnd_some F
          refine CW.region ?_
          refine LW.pure rfl rfl (RV.move rfl) ?_
          refine LW.pure rfl rfl (RV.move rfl) ?_
          refine LW.pure rfl rfl (RV.move rfl) ?_
          obtain ⟨B1, e1, hh1⟩ := (H.tab 0 rfl).hd hx1
          refine LW.pure rfl rfl (RV.indexAddr Ts22 rfl rfl hbx1 ((H.tab 0 rfl).addr_ hx1)) ?_
          refine LW.pure rfl rfl (RV.load1 Tk25 rfl ((H.tab 0 rfl).cell hx1 hh1) rfl) ?_
          refine LW.go rfl rfl (OW.call Tc32 rfl (ref04_LiesIn_ok (a0 := a1) (a1 := x1) (h_a1.ext R0) ((H.tab 0 rfl).rowO hx1 hh1).sl hr3) ?_)
          rintro _ w5 ⟨rfl, E4⟩
          refine ⟨_, rfl, ?_⟩
          replace H := H.grow E4
          replace R0 := H.ext
          refine LW.nil (hK13 _ _ ?_)
          by_cases hp3 : r3 = true
          ·
            replace F := ite_y hp3 F
            have hq3 : r3 = true := hp3
            refine CW.condT rfl hq3 ?_
            obtain ⟨x2, hbx2, hx2, F⟩ := ix_some F
            obtain ⟨hg2, F⟩ := gd_some F
            refine CW.region ?_
            refine LW.pure rfl rfl (RV.move rfl) ?_
            refine LW.pure rfl rfl (RV.move rfl) ?_
            refine LW.pure rfl rfl (RV.move rfl) ?_
            obtain ⟨B2, e2, hh2⟩ := (H.tab 0 rfl).hd hx2
            refine LW.pure rfl rfl (RV.indexAddr Ts22 rfl rfl hbx2 ((H.tab 0 rfl).addr_ hx2)) ?_
            refine LW.pure rfl rfl (RV.load1 Tk25 rfl ((H.tab 0 rfl).cell hx2 hh2) rfl) ?_
            refine LW.go rfl rfl (OW.buildSlice (e := 25) (vs := [.slice B2 x2.length e2]) (cs := [.slice B2 x2.length e2]) rfl (fun _ => by kernel_rfl) fun b2 w6 N2 => ?_)
            replace H := H.made' (k := 1) (t := 25) (enc := encH) (l := ([((B2, e2), x2)] : List ((Option Addr × Nat) × List Int))) N2 (by have q := N2.blk; simp only [List.flatMap_cons, List.flatMap_nil, encH, List.length_nil, List.append_nil, List.cons_append, List.nil_append]; first | done | exact q) (fun _ => rfl) rfl (by first | decide | omega | (simp; done) | (simp; omega))
            replace R0 := H.ext
            refine LW.go rfl rfl (OW.appendS (m := m3) (mT := r2) (hs := hsm3) (hT := hs19_0) (h := (B2, e2)) (l := x2) Ts22 rfl rfl hsub2 (H.own 2 rfl) (H.own 0 rfl).sl rfl hg2 (by decide) fun A2 c2 w7 O1 M1 D1 => ?_)
            have hsub4 : SubT (hsm3 ++ [(B2, e2)]) (m3 ++ [x2]) hs19_0 r2 := SubT.push hsub2 hh2 hx2
            replace H : Hp w w7 [.own (some ⟨b2, 0, none⟩) ((([((B2, e2), x2)] : List ((Option Addr × Nat) × List Int))).length) 25 1 (List.map encH (([((B2, e2), x2)] : List ((Option Addr × Nat) × List Int)))), .tab A19_0 c19_0 25 hs19_0 3 1 (encM encN r2), .own A2 c2 25 1 (List.map encH (List.zip ((hsm3 ++ [(B2, e2)])) ((m3 ++ [x2]))))] := H.mod 2 rfl M1 O1 D1
            replace R0 := H.ext
            refine LW.pure rfl rfl (RV.assign rfl) ?_
            replace H := H.pick (L' := [.tab A19_0 c19_0 25 hs19_0 3 1 (encM encN r2), .own A2 c2 25 1 (List.map encH (List.zip ((hsm3 ++ [(B2, e2)])) ((m3 ++ [x2]))))]) [1, 2] (by decide) rfl
            replace R0 := H.ext
            refine LW.nil (jK80 _ _ ⟨_, ?_, ⟨((m3 ++ [x2])), ((hsm3 ++ [(B2, e2)])), A2, c2, F, rfl, H, hsub4⟩⟩)
            exact ⟨rfl, rfl, rfl, rfl, (look_slice rfl (by first | rfl | (simp; done) | (simp; omega))), (look_slice rfl (by first | rfl | (simp; done) | (simp; omega))), rfl, trivial⟩
          ·
            replace F := ite_n hp3 F
            have hq3 : r3 = false := raw_f hp3
            refine CW.condF rfl hq3 ?_
            refine CW.skip (jK80 _ _ ⟨_, ?_, ⟨m3, hsm3, Am3, cm3, F, rfl, H, hsub2⟩⟩)
            exact ⟨rfl, rfl, rfl, rfl, (look_slice rfl (by first | rfl | (simp; done) | (simp; omega))), (look_slice rfl (by first | rfl | (simp; done) | (simp; omega))), rfl, trivial⟩
      ·
        replace F := ite_n hp2 F
        have hq2 := dec_f hp2
        refine CW.condF rfl hq2 ?_
        replace H := H.pick (L' := [.own Am3 cm3 25 1 (List.map encH (List.zip hsm3 m3)), .tab A19_0 c19_0 25 hs19_0 3 1 (encM encN r2)]) [1, 0] (by decide) rfl
        replace R0 := H.ext
        refine CW.exit (jK65 _ _ ⟨_, ?_, ⟨m3, hsm3, Am3, cm3, F, rfl, H, hsub2⟩⟩)
        exact ⟨rfl, rfl, rfl, (look_slice rfl (by first | rfl | (simp; done) | (simp; omega))), trivial⟩
  ·
    replace F := ite_n hp1 F
    have hq1 := dec_f hp1
    refine CW.condT rfl (not_t hq1) ?_
    refine CW.seq fun K14 hK14 => ?_
    refine CW.region ?_
    refine LW.pure rfl rfl (RV.move rfl) ?_
    refine LW.pure rfl rfl (RV.assign rfl) ?_
    refine LW.pure rfl rfl (RV.assign rfl) ?_
    refine LW.pure rfl rfl (RV.assign rfl) ?_
    refine LW.nil (hK14 _ _ ?_)
    refine CW.ret ?_
    obtain rfl := Option.some.inj F
    refine ⟨_, (ResOK.three rfl rfl rfl), ?_⟩
    replace H := H.nilOwn 3 1
    replace R0 := H.ext
    replace H := H.pick (L' := [.own none 0 3 1 (List.map encN (([] : List Int)))]) [0] (by decide) rfl
    replace R0 := H.ext
    exact ⟨none, 0, (by first | rfl | (simp; done) | (simp; omega)), H⟩
set_option maxRecDepth 20000 in
set_option maxHeartbeats 1000000 in
theorem law04_CutBounds_ok {a0 : Bog} {a1 : List Int} {a2 : List Int} {A_a0_worth : Option Addr} {c_a0_worth : Nat} {A_a1 : Option Addr} {c_a1 : Nat} {A_a2 : Option Addr} {c_a2 : Nat} {w : World} {res : Bool} (h_a0_worth : Sl2 w A_a0_worth c_a0_worth 1 encN a0.worth) (h_a1 : Sl w A_a1 c_a1 1 (a1.map encN)) (h_a2 : Sl w A_a2 c_a2 1 (a2.map encN)) (F : law04_CutBounds a0 a1 a2 = some res) : Calls Try.prog 7 #[.agg #[.slice A_a0_worth a0.worth.length c_a0_worth], .slice A_a1 a1.length c_a1, .slice A_a2 a2.length c_a2] w (Rt w (.bool res)) := by
  refine calls_of_cw (args := [.agg #[.slice A_a0_worth a0.worth.length c_a0_worth], .slice A_a1 a1.length c_a1, .slice A_a2 a2.length c_a2]) Try.func7 rfl rfl rfl rfl ?_
  have H := Hp.start w
  have R0 := H.ext
  unfold law04_CutBounds at F
  refine CW.seq fun K1 hK1 => ?_
  refine CW.region ?_
  refine LW.go rfl rfl (OW.box rfl fun b1 w1 N1 => ?_)
  replace H := H.new N1 N1.blk
  replace R0 := H.ext
  refine LW.pure rfl rfl (RV.assign rfl) ?_
  refine LW.nil (hK1 _ _ ?_)
  refine CW.seq fun K2 hK2 => ?_
  refine CW.seq fun K3 hK3 => ?_
  obtain ⟨r1, hr1, F⟩ := bnd_some F
  refine CW.region ?_
  refine LW.pure rfl rfl (RV.loadA [.slice A_a0_worth a0.worth.length c_a0_worth] Tk24 rfl (H.blk 0 rfl).cells rfl rfl) ?_
  refine LW.pure rfl rfl (RV.move rfl) ?_
  refine LW.pure rfl rfl (RV.move rfl) ?_
  refine LW.go rfl rfl (OW.buildSlice (e := 25) (vs := [.slice A_a1 a1.length c_a1, .slice A_a2 a2.length c_a2]) (cs := [.slice A_a1 a1.length c_a1, .slice A_a2 a2.length c_a2]) rfl (fun _ => by kernel_rfl) fun b2 w2 N2 => ?_)
  replace H := H.made' (k := 1) (t := 25) (enc := encH) (l := ([((A_a1, c_a1), a1), ((A_a2, c_a2), a2)] : List ((Option Addr × Nat) × List Int))) N2 (by have q := N2.blk; simp only [List.flatMap_cons, List.flatMap_nil, encH, List.length_nil, List.append_nil, List.cons_append, List.nil_append]; first | done | exact q) (fun _ => rfl) rfl (by first | decide | omega | (simp; done) | (simp; omega))
  replace R0 := H.ext
  have hS23 : Sl2 w2 (some ⟨b2, 0, none⟩) 2 1 encN [a1, a2] := Sl2.two (H.own 0 rfl).sl (h_a1.ext R0) (h_a2.ext R0)
  refine LW.go rfl rfl (OW.call Tc17 (evs_cast rfl (by first | rfl | (simp; done) | (simp; omega))) (law04_Long_ok (a0 := a0) (a1 := ([a1, a2] : List (List Int))) (h_a0_worth.ext R0) hS23 hr1) ?_)
  rintro _ w3 ⟨rfl, E1⟩
  refine ⟨_, rfl, ?_⟩
  have hS23 := hS23.ext E1
  replace H := H.grow E1
  replace R0 := H.ext
  refine LW.nil (hK3 _ _ ?_)
  by_cases hp1 : r1 = true
  ·
    replace F := ite_y hp1 F
    have hq1 : r1 = true := hp1
    refine CW.condT rfl hq1 ?_
    refine CW.seq fun K4 hK4 => ?_
    obtain ⟨r2, hr2, F⟩ := bnd_some F
    refine CW.region ?_
    refine LW.go rfl rfl (OW.call Tc18 rfl (law04_sane_ok hr2) ?_)
    rintro _ w4 ⟨rfl, E2⟩
    refine ⟨_, rfl, ?_⟩
    have hS23 := hS23.ext E2
    replace H := H.grow E2
    replace R0 := H.ext
    refine LW.pure rfl rfl (RV.assign rfl) ?_
    refine LW.nil (hK4 _ _ ?_)
    refine CW.ret ?_
    obtain rfl := Option.some.inj F
    refine ⟨_, (ResOK.one rfl), ?_⟩
    refine ⟨(by first | rfl | simp), R0⟩
  ·
    replace F := ite_n hp1 F
    have hq1 : r1 = false := raw_f hp1
    refine CW.condF rfl hq1 ?_
    refine CW.skip (hK2 _ _ ?_)
    refine CW.seq fun K5 hK5 => ?_
    obtain ⟨r3, hr3, F⟩ := bnd_some F
    refine CW.region ?_
    refine LW.pure rfl rfl (RV.loadA [.slice A_a0_worth a0.worth.length c_a0_worth] Tk24 rfl (H.blk 1 rfl).cells rfl rfl) ?_
    refine LW.pure rfl rfl (RV.move rfl) ?_
    refine LW.go rfl rfl (OW.call Tc35 rfl (cut_Under_ok (a0 := a0) (a1 := a1) (h_a0_worth.ext R0) (h_a1.ext R0) hr3) ?_)
    rintro _ w5 ⟨A15_0, c15_0, rfl, E3⟩
    refine ⟨_, rfl, ?_⟩
    have hS23 := hS23.ext E3.ext
    replace H : Hp w w5 [.own A15_0 c15_0 3 1 (List.map encN r3.1), .own (some ⟨b2, 0, none⟩) ((([((A_a1, c_a1), a1), ((A_a2, c_a2), a2)] : List ((Option Addr × Nat) × List Int))).length) 25 1 (List.map encH (([((A_a1, c_a1), a1), ((A_a2, c_a2), a2)] : List ((Option Addr × Nat) × List Int)))), .blk b1 24 [.slice A_a0_worth a0.worth.length c_a0_worth]] := H.append E3
    replace R0 := H.ext
    refine LW.pure rfl rfl (RV.move rfl) ?_
    refine LW.pure rfl rfl (RV.extract rfl rfl) ?_
    refine LW.pure rfl rfl (RV.extract rfl rfl) ?_
    refine LW.pure rfl rfl (RV.assign rfl) ?_
    refine LW.pure rfl rfl (RV.assign rfl) ?_
    refine LW.nil (hK5 _ _ ?_)
    refine CW.seq fun K6 hK6 => ?_
    obtain ⟨r4, hr4, F⟩ := bnd_some F
    refine CW.region ?_
    refine LW.pure rfl rfl (RV.loadA [.slice A_a0_worth a0.worth.length c_a0_worth] Tk24 rfl (H.blk 2 rfl).cells rfl rfl) ?_
    refine LW.pure rfl rfl (RV.move rfl) ?_
    refine LW.go rfl rfl (OW.call Tc36 rfl (ref04_Under_ok (a0 := a0) (a1 := a1) (h_a0_worth.ext R0) (h_a1.ext R0) hr4) ?_)
    rintro _ w6 ⟨A17_0, c17_0, rfl, E4⟩
    refine ⟨_, rfl, ?_⟩
    have hS23 := hS23.ext E4.ext
    replace H : Hp w w6 [.own A17_0 c17_0 3 1 (List.map encN r4.1), .own A15_0 c15_0 3 1 (List.map encN r3.1), .own (some ⟨b2, 0, none⟩) ((([((A_a1, c_a1), a1), ((A_a2, c_a2), a2)] : List ((Option Addr × Nat) × List Int))).length) 25 1 (List.map encH (([((A_a1, c_a1), a1), ((A_a2, c_a2), a2)] : List ((Option Addr × Nat) × List Int)))), .blk b1 24 [.slice A_a0_worth a0.worth.length c_a0_worth]] := H.append E4
    replace R0 := H.ext
    refine LW.pure rfl rfl (RV.move rfl) ?_
    refine LW.pure rfl rfl (RV.extract rfl rfl) ?_
    refine LW.pure rfl rfl (RV.extract rfl rfl) ?_
    refine LW.pure rfl rfl (RV.assign rfl) ?_
    refine LW.pure rfl rfl (RV.assign rfl) ?_
    refine LW.nil (hK6 _ _ ?_)
    refine CW.seq fun K7 hK7 => ?_
    obtain ⟨r5, hr5, F⟩ := bnd_some F
    refine CW.region ?_
    refine LW.pure rfl rfl (RV.loadA [.slice A_a0_worth a0.worth.length c_a0_worth] Tk24 rfl (H.blk 3 rfl).cells rfl rfl) ?_
    refine LW.pure rfl rfl (RV.move rfl) ?_
    refine LW.go rfl rfl (OW.call Tc37 rfl (cut_Over_ok (a0 := a0) (a1 := a2) (h_a0_worth.ext R0) (h_a2.ext R0) hr5) ?_)
    rintro _ w7 ⟨A19_0, c19_0, rfl, E5⟩
    refine ⟨_, rfl, ?_⟩
    have hS23 := hS23.ext E5.ext
    replace H : Hp w w7 [.own A19_0 c19_0 3 1 (List.map encN r5.1), .own A17_0 c17_0 3 1 (List.map encN r4.1), .own A15_0 c15_0 3 1 (List.map encN r3.1), .own (some ⟨b2, 0, none⟩) ((([((A_a1, c_a1), a1), ((A_a2, c_a2), a2)] : List ((Option Addr × Nat) × List Int))).length) 25 1 (List.map encH (([((A_a1, c_a1), a1), ((A_a2, c_a2), a2)] : List ((Option Addr × Nat) × List Int)))), .blk b1 24 [.slice A_a0_worth a0.worth.length c_a0_worth]] := H.append E5
    replace R0 := H.ext
    refine LW.pure rfl rfl (RV.move rfl) ?_
    refine LW.pure rfl rfl (RV.extract rfl rfl) ?_
    refine LW.pure rfl rfl (RV.extract rfl rfl) ?_
    refine LW.pure rfl rfl (RV.extract rfl rfl) ?_
    refine LW.pure rfl rfl (RV.assign rfl) ?_
    refine LW.pure rfl rfl (RV.assign rfl) ?_
    refine LW.pure rfl rfl (RV.assign rfl) ?_
    refine LW.nil (hK7 _ _ ?_)
    refine CW.seq fun K8 hK8 => ?_
    obtain ⟨r6, hr6, F⟩ := bnd_some F
    refine CW.region ?_
    refine LW.pure rfl rfl (RV.loadA [.slice A_a0_worth a0.worth.length c_a0_worth] Tk24 rfl (H.blk 4 rfl).cells rfl rfl) ?_
    refine LW.pure rfl rfl (RV.move rfl) ?_
    refine LW.go rfl rfl (OW.call Tc38 rfl (ref04_Over_ok (a0 := a0) (a1 := a2) (h_a0_worth.ext R0) (h_a2.ext R0) hr6) ?_)
    rintro _ w8 ⟨A21_0, c21_0, rfl, E6⟩
    refine ⟨_, rfl, ?_⟩
    have hS23 := hS23.ext E6.ext
    replace H : Hp w w8 [.own A21_0 c21_0 3 1 (List.map encN r6.1), .own A19_0 c19_0 3 1 (List.map encN r5.1), .own A17_0 c17_0 3 1 (List.map encN r4.1), .own A15_0 c15_0 3 1 (List.map encN r3.1), .own (some ⟨b2, 0, none⟩) ((([((A_a1, c_a1), a1), ((A_a2, c_a2), a2)] : List ((Option Addr × Nat) × List Int))).length) 25 1 (List.map encH (([((A_a1, c_a1), a1), ((A_a2, c_a2), a2)] : List ((Option Addr × Nat) × List Int)))), .blk b1 24 [.slice A_a0_worth a0.worth.length c_a0_worth]] := H.append E6
    replace R0 := H.ext
    refine LW.pure rfl rfl (RV.move rfl) ?_
    refine LW.pure rfl rfl (RV.extract rfl rfl) ?_
    refine LW.pure rfl rfl (RV.extract rfl rfl) ?_
    refine LW.pure rfl rfl (RV.extract rfl rfl) ?_
    refine LW.pure rfl rfl (RV.assign rfl) ?_
    refine LW.pure rfl rfl (RV.assign rfl) ?_
    refine LW.pure rfl rfl (RV.assign rfl) ?_
    refine LW.nil (hK8 _ _ ?_)
    refine CW.seq fun K9 hK9 => ?_
    obtain ⟨r7, hr7, F⟩ := bnd_some F
    by_cases hp2 : r7 = true
    ·
      replace F := ite_y hp2 F
      have hq2 : r7 = true := hp2
      by_cases hp3 : r3.2 = r4.2
      ·
        replace F := ite_y hp3 F
        have hq3 := dec_t hp3
        obtain ⟨r8, hr8, F⟩ := bnd_some F
        by_cases hp4 : r8 = true
        ·
          replace F := ite_y hp4 F
          have hq4 : r8 = true := hp4
          by_cases hp5 : (r5.2.1 == r6.2.1) = true
          ·
            replace F := ite_y hp5 F
            have hq5 : (r5.2.1 == r6.2.1) = true := hp5
            by_cases hp6 : r5.2.2 = r6.2.2
            ·
              replace F := ite_y hp6 F
              have hq6 := dec_t hp6
              obtain ⟨r9, hr9, F⟩ := bnd_some F
              refine CW.region ?_
              refine LW.pure rfl rfl (RV.move rfl) ?_
              refine LW.pure rfl rfl (RV.move rfl) ?_
              refine LW.go rfl rfl (OW.call Tc21 rfl (ref04_SameInts_ok (a0 := r3.1) (a1 := r4.1) (H.own 3 rfl).sl (H.own 2 rfl).sl hr7) ?_)
              rintro _ w9 ⟨rfl, E7⟩
              refine ⟨_, rfl, ?_⟩
              have hS23 := hS23.ext E7
              replace H := H.grow E7
              replace R0 := H.ext
              refine LW.pure rfl rfl (RV.move rfl) ?_
              refine LW.pureYB rfl rfl rfl rfl hq2 (RV.move rfl) ?_
              refine LW.pureYB rfl rfl rfl rfl hq2 (RV.move rfl) ?_
              refine LW.pureYB rfl rfl rfl rfl hq2 (RV.eqi rfl rfl) ?_
              refine LW.pure rfl rfl (RV.pickTB rfl hq2 rfl) ?_
              refine LW.pure rfl rfl (RV.move rfl) ?_
              refine LW.pureYB rfl rfl rfl rfl hq3 (RV.move rfl) ?_
              refine LW.pureYB rfl rfl rfl rfl hq3 (RV.move rfl) ?_
              refine LW.yesB rfl rfl rfl rfl hq3 (OW.call Tc21 rfl (ref04_SameInts_ok (a0 := r5.1) (a1 := r6.1) (H.own 1 rfl).sl (H.own 0 rfl).sl hr8) ?_)
              rintro _ w10 ⟨rfl, E8⟩
              refine ⟨_, rfl, ?_⟩
              have hS23 := hS23.ext E8
              replace H := H.grow E8
              replace R0 := H.ext
              refine LW.pure rfl rfl (RV.pickTB rfl hq3 rfl) ?_
              refine LW.pure rfl rfl (RV.move rfl) ?_
              refine LW.pureYB rfl rfl rfl rfl hq4 (RV.move rfl) ?_
              refine LW.pureYB rfl rfl rfl rfl hq4 (RV.move rfl) ?_
              refine LW.pureYB rfl rfl rfl rfl hq4 (RV.eqb Tb4 rfl rfl) ?_
              refine LW.pure rfl rfl (RV.pickTB rfl hq4 rfl) ?_
              refine LW.pure rfl rfl (RV.move rfl) ?_
              refine LW.pureYB rfl rfl rfl rfl hq5 (RV.move rfl) ?_
              refine LW.pureYB rfl rfl rfl rfl hq5 (RV.move rfl) ?_
              refine LW.pureYB rfl rfl rfl rfl hq5 (RV.eqi rfl rfl) ?_
              refine LW.pure rfl rfl (RV.pickTB rfl hq5 rfl) ?_
              refine LW.pure rfl rfl (RV.move rfl) ?_
              refine LW.yesB rfl rfl rfl rfl hq6 (OW.call Tc18 rfl (law04_sane_ok hr9) ?_)
              rintro _ w11 ⟨rfl, E9⟩
              refine ⟨_, rfl, ?_⟩
              have hS23 := hS23.ext E9
              replace H := H.grow E9
              replace R0 := H.ext
              refine LW.pure rfl rfl (RV.pickTB rfl hq6 rfl) ?_
              refine LW.pure rfl rfl (RV.assign rfl) ?_
              refine LW.nil (hK9 _ _ ?_)
              refine CW.ret ?_
              obtain rfl := Option.some.inj F
              refine ⟨_, (ResOK.one rfl), ?_⟩
              refine ⟨(by first | rfl | simp), R0⟩
            ·
              replace F := ite_n hp6 F
              have hq6 := dec_f hp6
              refine CW.region ?_
              refine LW.pure rfl rfl (RV.move rfl) ?_
              refine LW.pure rfl rfl (RV.move rfl) ?_
              refine LW.go rfl rfl (OW.call Tc21 rfl (ref04_SameInts_ok (a0 := r3.1) (a1 := r4.1) (H.own 3 rfl).sl (H.own 2 rfl).sl hr7) ?_)
              rintro _ w12 ⟨rfl, E10⟩
              refine ⟨_, rfl, ?_⟩
              have hS23 := hS23.ext E10
              replace H := H.grow E10
              replace R0 := H.ext
              refine LW.pure rfl rfl (RV.move rfl) ?_
              refine LW.pureYB rfl rfl rfl rfl hq2 (RV.move rfl) ?_
              refine LW.pureYB rfl rfl rfl rfl hq2 (RV.move rfl) ?_
              refine LW.pureYB rfl rfl rfl rfl hq2 (RV.eqi rfl rfl) ?_
              refine LW.pure rfl rfl (RV.pickTB rfl hq2 rfl) ?_
              refine LW.pure rfl rfl (RV.move rfl) ?_
              refine LW.pureYB rfl rfl rfl rfl hq3 (RV.move rfl) ?_
              refine LW.pureYB rfl rfl rfl rfl hq3 (RV.move rfl) ?_
              refine LW.yesB rfl rfl rfl rfl hq3 (OW.call Tc21 rfl (ref04_SameInts_ok (a0 := r5.1) (a1 := r6.1) (H.own 1 rfl).sl (H.own 0 rfl).sl hr8) ?_)
              rintro _ w13 ⟨rfl, E11⟩
              refine ⟨_, rfl, ?_⟩
              have hS23 := hS23.ext E11
              replace H := H.grow E11
              replace R0 := H.ext
              refine LW.pure rfl rfl (RV.pickTB rfl hq3 rfl) ?_
              refine LW.pure rfl rfl (RV.move rfl) ?_
              refine LW.pureYB rfl rfl rfl rfl hq4 (RV.move rfl) ?_
              refine LW.pureYB rfl rfl rfl rfl hq4 (RV.move rfl) ?_
              refine LW.pureYB rfl rfl rfl rfl hq4 (RV.eqb Tb4 rfl rfl) ?_
              refine LW.pure rfl rfl (RV.pickTB rfl hq4 rfl) ?_
              refine LW.pure rfl rfl (RV.move rfl) ?_
              refine LW.pureYB rfl rfl rfl rfl hq5 (RV.move rfl) ?_
              refine LW.pureYB rfl rfl rfl rfl hq5 (RV.move rfl) ?_
              refine LW.pureYB rfl rfl rfl rfl hq5 (RV.eqi rfl rfl) ?_
              refine LW.pure rfl rfl (RV.pickTB rfl hq5 rfl) ?_
              refine LW.pure rfl rfl (RV.move rfl) ?_
              refine LW.noB rfl rfl rfl rfl (ne_beq (v := false) hq6 rfl) ?_
              refine LW.pure rfl rfl (RV.pickFB rfl hq6 rfl) ?_
              refine LW.pure rfl rfl (RV.assign rfl) ?_
              refine LW.nil (hK9 _ _ ?_)
              refine CW.ret ?_
              obtain rfl := Option.some.inj F
              refine ⟨_, (ResOK.one rfl), ?_⟩
              refine ⟨(by first | rfl | simp), R0⟩
          ·
            replace F := ite_n hp5 F
            have hq5 : (r5.2.1 == r6.2.1) = false := raw_f hp5
            refine CW.region ?_
            refine LW.pure rfl rfl (RV.move rfl) ?_
            refine LW.pure rfl rfl (RV.move rfl) ?_
            refine LW.go rfl rfl (OW.call Tc21 rfl (ref04_SameInts_ok (a0 := r3.1) (a1 := r4.1) (H.own 3 rfl).sl (H.own 2 rfl).sl hr7) ?_)
            rintro _ w14 ⟨rfl, E12⟩
            refine ⟨_, rfl, ?_⟩
            have hS23 := hS23.ext E12
            replace H := H.grow E12
            replace R0 := H.ext
            refine LW.pure rfl rfl (RV.move rfl) ?_
            refine LW.pureYB rfl rfl rfl rfl hq2 (RV.move rfl) ?_
            refine LW.pureYB rfl rfl rfl rfl hq2 (RV.move rfl) ?_
            refine LW.pureYB rfl rfl rfl rfl hq2 (RV.eqi rfl rfl) ?_
            refine LW.pure rfl rfl (RV.pickTB rfl hq2 rfl) ?_
            refine LW.pure rfl rfl (RV.move rfl) ?_
            refine LW.pureYB rfl rfl rfl rfl hq3 (RV.move rfl) ?_
            refine LW.pureYB rfl rfl rfl rfl hq3 (RV.move rfl) ?_
            refine LW.yesB rfl rfl rfl rfl hq3 (OW.call Tc21 rfl (ref04_SameInts_ok (a0 := r5.1) (a1 := r6.1) (H.own 1 rfl).sl (H.own 0 rfl).sl hr8) ?_)
            rintro _ w15 ⟨rfl, E13⟩
            refine ⟨_, rfl, ?_⟩
            have hS23 := hS23.ext E13
            replace H := H.grow E13
            replace R0 := H.ext
            refine LW.pure rfl rfl (RV.pickTB rfl hq3 rfl) ?_
            refine LW.pure rfl rfl (RV.move rfl) ?_
            refine LW.pureYB rfl rfl rfl rfl hq4 (RV.move rfl) ?_
            refine LW.pureYB rfl rfl rfl rfl hq4 (RV.move rfl) ?_
            refine LW.pureYB rfl rfl rfl rfl hq4 (RV.eqb Tb4 rfl rfl) ?_
            refine LW.pure rfl rfl (RV.pickTB rfl hq4 rfl) ?_
            refine LW.pure rfl rfl (RV.move rfl) ?_
            refine LW.noB rfl rfl rfl rfl (ne_beq (v := false) hq5 rfl) ?_
            refine LW.noB rfl rfl rfl rfl (ne_beq (v := false) hq5 rfl) ?_
            refine LW.noB rfl rfl rfl rfl (ne_beq (v := false) hq5 rfl) ?_
            refine LW.pure rfl rfl (RV.pickFB rfl hq5 rfl) ?_
            refine LW.pure rfl rfl (RV.move rfl) ?_
            refine LW.noB rfl rfl rfl rfl (ne_beq (v := false) rfl rfl) ?_
            refine LW.pure rfl rfl (RV.pickFB rfl rfl rfl) ?_
            refine LW.pure rfl rfl (RV.assign rfl) ?_
            refine LW.nil (hK9 _ _ ?_)
            refine CW.ret ?_
            obtain rfl := Option.some.inj F
            refine ⟨_, (ResOK.one rfl), ?_⟩
            refine ⟨(by first | rfl | simp), R0⟩
        ·
          replace F := ite_n hp4 F
          have hq4 : r8 = false := raw_f hp4
          refine CW.region ?_
          refine LW.pure rfl rfl (RV.move rfl) ?_
          refine LW.pure rfl rfl (RV.move rfl) ?_
          refine LW.go rfl rfl (OW.call Tc21 rfl (ref04_SameInts_ok (a0 := r3.1) (a1 := r4.1) (H.own 3 rfl).sl (H.own 2 rfl).sl hr7) ?_)
          rintro _ w16 ⟨rfl, E14⟩
          refine ⟨_, rfl, ?_⟩
          have hS23 := hS23.ext E14
          replace H := H.grow E14
          replace R0 := H.ext
          refine LW.pure rfl rfl (RV.move rfl) ?_
          refine LW.pureYB rfl rfl rfl rfl hq2 (RV.move rfl) ?_
          refine LW.pureYB rfl rfl rfl rfl hq2 (RV.move rfl) ?_
          refine LW.pureYB rfl rfl rfl rfl hq2 (RV.eqi rfl rfl) ?_
          refine LW.pure rfl rfl (RV.pickTB rfl hq2 rfl) ?_
          refine LW.pure rfl rfl (RV.move rfl) ?_
          refine LW.pureYB rfl rfl rfl rfl hq3 (RV.move rfl) ?_
          refine LW.pureYB rfl rfl rfl rfl hq3 (RV.move rfl) ?_
          refine LW.yesB rfl rfl rfl rfl hq3 (OW.call Tc21 rfl (ref04_SameInts_ok (a0 := r5.1) (a1 := r6.1) (H.own 1 rfl).sl (H.own 0 rfl).sl hr8) ?_)
          rintro _ w17 ⟨rfl, E15⟩
          refine ⟨_, rfl, ?_⟩
          have hS23 := hS23.ext E15
          replace H := H.grow E15
          replace R0 := H.ext
          refine LW.pure rfl rfl (RV.pickTB rfl hq3 rfl) ?_
          refine LW.pure rfl rfl (RV.move rfl) ?_
          refine LW.noB rfl rfl rfl rfl (ne_beq (v := false) hq4 rfl) ?_
          refine LW.noB rfl rfl rfl rfl (ne_beq (v := false) hq4 rfl) ?_
          refine LW.noB rfl rfl rfl rfl (ne_beq (v := false) hq4 rfl) ?_
          refine LW.pure rfl rfl (RV.pickFB rfl hq4 rfl) ?_
          refine LW.pure rfl rfl (RV.move rfl) ?_
          refine LW.noB rfl rfl rfl rfl (ne_beq (v := false) rfl rfl) ?_
          refine LW.noB rfl rfl rfl rfl (ne_beq (v := false) rfl rfl) ?_
          refine LW.noB rfl rfl rfl rfl (ne_beq (v := false) rfl rfl) ?_
          refine LW.pure rfl rfl (RV.pickFB rfl rfl rfl) ?_
          refine LW.pure rfl rfl (RV.move rfl) ?_
          refine LW.noB rfl rfl rfl rfl (ne_beq (v := false) rfl rfl) ?_
          refine LW.pure rfl rfl (RV.pickFB rfl rfl rfl) ?_
          refine LW.pure rfl rfl (RV.assign rfl) ?_
          refine LW.nil (hK9 _ _ ?_)
          refine CW.ret ?_
          obtain rfl := Option.some.inj F
          refine ⟨_, (ResOK.one rfl), ?_⟩
          refine ⟨(by first | rfl | simp), R0⟩
      ·
        replace F := ite_n hp3 F
        have hq3 := dec_f hp3
        refine CW.region ?_
        refine LW.pure rfl rfl (RV.move rfl) ?_
        refine LW.pure rfl rfl (RV.move rfl) ?_
        refine LW.go rfl rfl (OW.call Tc21 rfl (ref04_SameInts_ok (a0 := r3.1) (a1 := r4.1) (H.own 3 rfl).sl (H.own 2 rfl).sl hr7) ?_)
        rintro _ w18 ⟨rfl, E16⟩
        refine ⟨_, rfl, ?_⟩
        have hS23 := hS23.ext E16
        replace H := H.grow E16
        replace R0 := H.ext
        refine LW.pure rfl rfl (RV.move rfl) ?_
        refine LW.pureYB rfl rfl rfl rfl hq2 (RV.move rfl) ?_
        refine LW.pureYB rfl rfl rfl rfl hq2 (RV.move rfl) ?_
        refine LW.pureYB rfl rfl rfl rfl hq2 (RV.eqi rfl rfl) ?_
        refine LW.pure rfl rfl (RV.pickTB rfl hq2 rfl) ?_
        refine LW.pure rfl rfl (RV.move rfl) ?_
        refine LW.noB rfl rfl rfl rfl (ne_beq (v := false) hq3 rfl) ?_
        refine LW.noB rfl rfl rfl rfl (ne_beq (v := false) hq3 rfl) ?_
        refine LW.noB rfl rfl rfl rfl (ne_beq (v := false) hq3 rfl) ?_
        refine LW.pure rfl rfl (RV.pickFB rfl hq3 rfl) ?_
        refine LW.pure rfl rfl (RV.move rfl) ?_
        refine LW.noB rfl rfl rfl rfl (ne_beq (v := false) rfl rfl) ?_
        refine LW.noB rfl rfl rfl rfl (ne_beq (v := false) rfl rfl) ?_
        refine LW.noB rfl rfl rfl rfl (ne_beq (v := false) rfl rfl) ?_
        refine LW.pure rfl rfl (RV.pickFB rfl rfl rfl) ?_
        refine LW.pure rfl rfl (RV.move rfl) ?_
        refine LW.noB rfl rfl rfl rfl (ne_beq (v := false) rfl rfl) ?_
        refine LW.noB rfl rfl rfl rfl (ne_beq (v := false) rfl rfl) ?_
        refine LW.noB rfl rfl rfl rfl (ne_beq (v := false) rfl rfl) ?_
        refine LW.pure rfl rfl (RV.pickFB rfl rfl rfl) ?_
        refine LW.pure rfl rfl (RV.move rfl) ?_
        refine LW.noB rfl rfl rfl rfl (ne_beq (v := false) rfl rfl) ?_
        refine LW.pure rfl rfl (RV.pickFB rfl rfl rfl) ?_
        refine LW.pure rfl rfl (RV.assign rfl) ?_
        refine LW.nil (hK9 _ _ ?_)
        refine CW.ret ?_
        obtain rfl := Option.some.inj F
        refine ⟨_, (ResOK.one rfl), ?_⟩
        refine ⟨(by first | rfl | simp), R0⟩
    ·
      replace F := ite_n hp2 F
      have hq2 : r7 = false := raw_f hp2
      refine CW.region ?_
      refine LW.pure rfl rfl (RV.move rfl) ?_
      refine LW.pure rfl rfl (RV.move rfl) ?_
      refine LW.go rfl rfl (OW.call Tc21 rfl (ref04_SameInts_ok (a0 := r3.1) (a1 := r4.1) (H.own 3 rfl).sl (H.own 2 rfl).sl hr7) ?_)
      rintro _ w19 ⟨rfl, E17⟩
      refine ⟨_, rfl, ?_⟩
      have hS23 := hS23.ext E17
      replace H := H.grow E17
      replace R0 := H.ext
      refine LW.pure rfl rfl (RV.move rfl) ?_
      refine LW.noB rfl rfl rfl rfl (ne_beq (v := false) hq2 rfl) ?_
      refine LW.noB rfl rfl rfl rfl (ne_beq (v := false) hq2 rfl) ?_
      refine LW.noB rfl rfl rfl rfl (ne_beq (v := false) hq2 rfl) ?_
      refine LW.pure rfl rfl (RV.pickFB rfl hq2 rfl) ?_
      refine LW.pure rfl rfl (RV.move rfl) ?_
      refine LW.noB rfl rfl rfl rfl (ne_beq (v := false) rfl rfl) ?_
      refine LW.noB rfl rfl rfl rfl (ne_beq (v := false) rfl rfl) ?_
      refine LW.noB rfl rfl rfl rfl (ne_beq (v := false) rfl rfl) ?_
      refine LW.pure rfl rfl (RV.pickFB rfl rfl rfl) ?_
      refine LW.pure rfl rfl (RV.move rfl) ?_
      refine LW.noB rfl rfl rfl rfl (ne_beq (v := false) rfl rfl) ?_
      refine LW.noB rfl rfl rfl rfl (ne_beq (v := false) rfl rfl) ?_
      refine LW.noB rfl rfl rfl rfl (ne_beq (v := false) rfl rfl) ?_
      refine LW.pure rfl rfl (RV.pickFB rfl rfl rfl) ?_
      refine LW.pure rfl rfl (RV.move rfl) ?_
      refine LW.noB rfl rfl rfl rfl (ne_beq (v := false) rfl rfl) ?_
      refine LW.noB rfl rfl rfl rfl (ne_beq (v := false) rfl rfl) ?_
      refine LW.noB rfl rfl rfl rfl (ne_beq (v := false) rfl rfl) ?_
      refine LW.pure rfl rfl (RV.pickFB rfl rfl rfl) ?_
      refine LW.pure rfl rfl (RV.move rfl) ?_
      refine LW.noB rfl rfl rfl rfl (ne_beq (v := false) rfl rfl) ?_
      refine LW.pure rfl rfl (RV.pickFB rfl rfl rfl) ?_
      refine LW.pure rfl rfl (RV.assign rfl) ?_
      refine LW.nil (hK9 _ _ ?_)
      refine CW.ret ?_
      obtain rfl := Option.some.inj F
      refine ⟨_, (ResOK.one rfl), ?_⟩
      refine ⟨(by first | rfl | simp), R0⟩
end Go.D4

namespace Go.Tb
/-- A loop over 0 .. N - 1 with a state, that is left at the first i for which p does not hold. -/
theorem scan_loop {S R : Type} (N : Nat) (p : Nat → Bool) (g : Nat → S) (L : Nat → S → Int → Option R) (yes : Option R) (no : Nat → Option R)
    (step : ∀ n i : Nat, i < N → L (n + 1) (g i) (i : Int) = if p i = true then L n (g (i + 1)) ((i + 1 : Nat) : Int) else no i)
    (stop : ∀ n : Nat, L (n + 1) (g N) (N : Int) = yes) : ∀ (d n i : Nat), N = i + d → d < n → L n (g i) (i : Int) = match (List.range' i d).find? (fun j => !p j) with | none => yes | some j => no j
  | 0, n + 1, i, hd, hn => by
    have hi : i = N := by omega
    subst hi
    rw [stop n]; rfl
  | d + 1, n + 1, i, hd, hn => by
    rw [step n i (by omega), List.range'_succ, List.find?_cons]
    cases hp : p i
    · simp
    · simp only [if_true, Bool.not_true]
      exact scan_loop N p g L yes no step stop d n (i + 1) (by omega) (by omega)
theorem find_all {p : Nat → Bool} {i d : Nat} : (List.range' i d).find? (fun j => !p j) = none ↔ ∀ j, i ≤ j → j < i + d → p j = true := by
  rw [List.find?_eq_none]
  constructor
  · intro h j h1 h2
    have := h j (by rw [List.mem_range'_1]; omega)
    simpa using this
  · intro h x hx
    rw [List.mem_range'_1] at hx
    simp [h x hx.1 hx.2]
/-- A loop over 0 .. N - 1 with a state and no way out. -/
theorem for_loop {S R : Type} (N : Nat) (g : Nat → S) (L : Nat → S → Int → Option R) (yes : Option R)
    (step : ∀ n i : Nat, i < N → L (n + 1) (g i) (i : Int) = L n (g (i + 1)) ((i + 1 : Nat) : Int))
    (stop : ∀ n : Nat, L (n + 1) (g N) (N : Int) = yes) : ∀ (d n i : Nat), N = i + d → d < n → L n (g i) (i : Int) = yes
  | 0, n + 1, i, hd, hn => by
    have hi : i = N := by omega
    subst hi
    exact stop n
  | d + 1, n + 1, i, hd, hn => by
    rw [step n i (by omega)]
    exact for_loop N g L yes step stop d n (i + 1) (by omega) (by omega)
theorem for_loop0 {S R : Type} (N : Nat) (g : Nat → S) (L : Nat → S → Int → Option R) (yes : Option R)
    (step : ∀ n i : Nat, i < N → L (n + 1) (g i) (i : Int) = L n (g (i + 1)) ((i + 1 : Nat) : Int))
    (stop : ∀ n : Nat, L (n + 1) (g N) (N : Int) = yes) (hN : N ≤ 9223372036854775807) : L FU (g 0) 0 = yes :=
  for_loop N g L yes step stop N FU 0 (by omega) (by have := FU_pos; omega)
theorem scan_loop0 {S R : Type} (N : Nat) (p : Nat → Bool) (g : Nat → S) (L : Nat → S → Int → Option R) (yes no : Option R)
    (step : ∀ n i : Nat, i < N → L (n + 1) (g i) (i : Int) = if p i = true then L n (g (i + 1)) ((i + 1 : Nat) : Int) else no)
    (stop : ∀ n : Nat, L (n + 1) (g N) (N : Int) = yes) (hN : N ≤ 9223372036854775807) : L FU (g 0) 0 = if (∀ j, j < N → p j = true) then yes else no := by
  have h := scan_loop N p g L yes (fun _ => no) step stop N FU 0 (by omega) (by have := FU_pos; omega)
  refine Eq.trans h ?_
  cases hf : (List.range' 0 N).find? (fun j => !p j) with
  | none => rw [if_pos (fun j hj => find_all.1 hf j (by omega) (by omega))]
  | some j =>
    have h1 := List.find?_some hf
    have h2 := List.mem_of_find?_eq_some hf
    rw [List.mem_range'_1] at h2
    rw [if_neg]
    intro hall
    have := hall j (by omega)
    simp [this] at h1
/-- The same over the elements of a list. -/
theorem list_loop0 {α R : Type} (l : List α) (p : α → Bool) (L : Nat → Int → Option R) (yes no : Option R)
    (step : ∀ (n i : Nat) (x : α), l[i]? = some x → L (n + 1) (i : Int) = if p x = true then L n ((i + 1 : Nat) : Int) else no)
    (stop : ∀ n : Nat, L (n + 1) (l.length : Int) = yes) (hl : l.length ≤ 9223372036854775807) : L FU 0 = if l.all p = true then yes else no := by
  have h := scan_loop0 l.length (fun i => (l[i]?.map p).getD true) (fun _ => ()) (fun n _ i => L n i) yes no (fun n i hi => by
    have hx : l[i]? = some l[i] := by simp [hi]
    rw [step n i _ hx]; simp [hx]) stop hl
  refine Eq.trans h ?_
  by_cases ha : l.all p = true
  · rw [if_pos ha, if_pos]
    intro j hj
    have := List.all_eq_true.1 ha l[j] (List.getElem_mem hj)
    simp [hj, this]
  · rw [if_neg ha, if_neg]
    intro hc
    refine ha (List.all_eq_true.2 fun x hx => ?_)
    obtain ⟨j, hj⟩ := List.getElem?_of_mem hx
    have := hc j (lt_of_at hj)
    simpa [hj] using this
end Go.Tb

set_option linter.unusedVariables false
set_option linter.unusedSimpArgs false
namespace Go.D4
open Go.Tb
theorem sane_eq : law04_sane = some true := by decide +kernel
theorem scan_from {R : Type} (N s : Nat) (p : Nat → Bool) (L : Nat → Int → Option R) (yes no : Option R)
    (step : ∀ n i : Nat, s ≤ i → i < N → L (n + 1) (i : Int) = if p i = true then L n ((i + 1 : Nat) : Int) else no)
    (stop : ∀ n i : Nat, N ≤ i → L (n + 1) (i : Int) = yes) : ∀ (d n i : Nat), s ≤ i → N ≤ i + d → d < n → L n (i : Int) = if (∀ j, j < N → i ≤ j → p j = true) then yes else no
  | 0, n + 1, i, hs, hd, hn => by
    rw [stop n i (by omega), if_pos (fun j h1 h2 => by omega)]
  | d + 1, n + 1, i, hs, hd, hn => by
    by_cases hi : N ≤ i
    · rw [stop n i hi, if_pos (fun j h1 h2 => by omega)]
    · rw [step n i hs (by omega)]
      cases hp : p i
      · rw [if_neg (by simp), if_neg (fun h => by have := h i (by omega) (Nat.le_refl _); simp [hp] at this)]
      · rw [if_pos rfl, scan_from N s p L yes no step stop d n (i + 1) (by omega) (by omega) (by omega)]
        by_cases hall : ∀ j, j < N → i + 1 ≤ j → p j = true
        · rw [if_pos hall, if_pos (fun j h1 h2 => by
            by_cases hj : j = i
            · subst hj; exact hp
            · exact hall j h1 (by omega))]
        · rw [if_neg hall, if_neg (fun h => hall fun j h1 h2 => h j h1 (by omega))]
theorem scan1 {R : Type} (N : Nat) (p : Nat → Bool) (L : Nat → Int → Option R) (yes no : Option R)
    (step : ∀ n i : Nat, 1 ≤ i → i < N → L (n + 1) (i : Int) = if p i = true then L n ((i + 1 : Nat) : Int) else no)
    (stop : ∀ n i : Nat, N ≤ i → L (n + 1) (i : Int) = yes) (hN : N ≤ 9223372036854775807) : L FU 1 = if (∀ j, j < N → 1 ≤ j → p j = true) then yes else no :=
  scan_from N 1 p L yes no step stop N FU 1 (by omega) (by omega) (by have := FU_pos; omega)
theorem for0 {S R : Type} (N : Nat) (g : Nat → S) (L : Nat → S → Int → Option R) (yes : Option R) {s0 : S} (h0 : g 0 = s0)
    (step : ∀ n i : Nat, i < N → L (n + 1) (g i) (i : Int) = L n (g (i + 1)) ((i + 1 : Nat) : Int))
    (stop : ∀ n : Nat, L (n + 1) (g N) (N : Int) = yes) (hN : N ≤ 9223372036854775807) : L FU s0 0 = yes := by
  rw [← h0]; exact for_loop0 N g L yes step stop hN
/-- A library loop: is there an element for which f holds? -/
theorem ContainsFunc_eq (l : List Int) (f : Int → Option Bool) (q : Int → Bool) (hf : ∀ x, f x = some (q x)) (hl : l.length ≤ 1000000) : slices_ContainsFunc_int l f = some (l.any q) := by
  unfold slices_ContainsFunc_int slices_IndexFunc_int
  have h := scan_loop l.length (fun i => (l[i]?.map fun x => !q x).getD true) (fun _ => ()) (fun n _ i => slices_IndexFunc_int_L1 l f n i) (some (-1)) (fun j => some (j : Int)) (fun n i hi => ?_) (fun n => ?_) l.length FU 0 (by omega) (by have := FU_pos; omega)
  · rw [bnd_eq (x := match (List.range' 0 l.length).find? (fun j => !((l[j]?.map fun x => !q x).getD true)) with | none => -1 | some j => (j : Int)) (by
      refine Eq.trans h ?_
      cases (List.range' 0 l.length).find? (fun j => !((l[j]?.map fun x => !q x).getD true)) <;> rfl)]
    congr 1
    cases hf : (List.range' 0 l.length).find? (fun j => !((l[j]?.map fun x => !q x).getD true)) with
    | none =>
      have := find_all.1 hf
      have ha : l.any q = false := List.any_eq_false.2 fun x hx => by
        obtain ⟨j, hj⟩ := List.getElem?_of_mem hx
        have := this j (by omega) (by have := lt_of_at hj; omega)
        simpa [hj] using this
      simp [ha]
    | some j =>
      have h1 := List.find?_some hf
      have h2 := List.mem_of_find?_eq_some hf
      rw [List.mem_range'_1] at h2
      have hx : l[j]? = some l[j] := List.getElem?_eq_getElem (by omega)
      rw [hx] at h1
      have ha : l.any q = true := by
        rw [List.any_eq_true]
        exact ⟨l[j], List.getElem_mem _, by simpa using h1⟩
      simp [ha]
  · show slices_IndexFunc_int_B1 l f (slices_IndexFunc_int_L1 l f n) _ = _
    have hx : l[i]? = some l[i] := by simp [hi]
    unfold slices_IndexFunc_int_B1
    rw [if_pos (by omega), ix_nat hx, bnd_eq (hf _), gd_pos (by omega), hx]
    cases h : q l[i] <;> simp [h]
  · show slices_IndexFunc_int_B1 l f (slices_IndexFunc_int_L1 l f n) _ = _
    unfold slices_IndexFunc_int_B1
    rw [if_neg (by omega)]; rfl
def within (n lo hi : Int) : Bool := decide (lo ≤ n) && decide (n ≤ hi)
theorem within_iff {n lo hi : Int} : within n lo hi = true ↔ lo ≤ n ∧ n ≤ hi := by unfold within; simp
theorem from_eq (n lo hi : Int) : cut_from n lo hi = some (within n lo hi) := by
  unfold cut_from within
  by_cases h : lo ≤ n <;> simp [h]
def dep (b : Bog) : Int := ((b.worth[0]?.getD []).length : Int)
theorem ix0 {α β : Type} {l : List α} {k : α → Option β} {x : α} (h : l[0]? = some x) : ix l 0 k = k x := ix_nat (i := 0) h
theorem depth_eq {b : Bog} (h : 1 ≤ b.worth.length) : cut_depth b = some (dep b) := by
  have hx : b.worth[0]? = some b.worth[0] := by simp
  unfold cut_depth dep
  rw [ix0 hx, hx]; rfl
theorem rdepth_eq {b : Bog} (h : 1 ≤ b.worth.length) : ref04_depth b = some (dep b) := by
  have hx : b.worth[0]? = some b.worth[0] := by simp
  unfold ref04_depth dep
  rw [ix0 hx, hx]; rfl
def okW (w : Int) : Bool := within w (-50) 50
def okCol (d : Int) (c : List Int) : Bool := decide ((c.length : Int) = d) && c.all okW
def okB (b : Bog) : Bool := within b.worth.length 1 6 && within (dep b) 1 4 && b.worth.all (okCol (dep b))
def validate (b : Bog) : Int := if okB b = true then 0 else 1
def Short (b : Bog) : Prop := b.worth.length ≤ 50 ∧ ∀ c ∈ b.worth, c.length ≤ 50
theorem Validate_1_eq (w : Int) : cut_Validate_1 w = some (!okW w) := by
  unfold cut_Validate_1; rw [bnd_eq (from_eq _ _ _)]; rfl
theorem any_not {l : List Int} : (l.any fun x => !okW x) = !(l.all okW) := by
  induction l with
  | nil => rfl
  | cons x r ih => simp [ih]
theorem Validate_eq {b : Bog} (hs : Short b) : cut_Validate b = some (validate b) := by
  unfold cut_Validate validate okB
  rw [bnd_eq (from_eq _ _ _)]
  cases h1 : within b.worth.length 1 6
  · rw [if_neg (by simp)]; unfold cut_Validate_k3; simp
  have h1' := within_iff.1 h1
  rw [if_pos rfl, bnd_eq (depth_eq (by omega)), bnd_eq (from_eq _ _ _)]
  cases h2 : within (dep b) 1 4
  · unfold cut_Validate_k3; simp
  unfold cut_Validate_k3
  rw [if_neg (by simp), list_loop0 b.worth (okCol (dep b)) (cut_Validate_L1 b) (some 0) (some 1) (fun n i x hx => ?_) (fun n => ?_) (by omega)]
  · cases b.worth.all (okCol (dep b)) <;> simp
  · have := lt_of_at hx
    have hxl := hs.2 x (List.mem_of_getElem? hx)
    show cut_Validate_B1 b (cut_Validate_L1 b n) _ = _
    unfold cut_Validate_B1 okCol
    rw [if_pos (by omega), ix_nat hx, bnd_eq (depth_eq (by omega))]
    unfold cut_Validate_k2
    by_cases hd : (x.length : Int) = dep b
    · rw [if_pos hd, bnd_eq (ContainsFunc_eq x _ _ Validate_1_eq (by omega)), any_not, gd_pos (by omega)]
      cases x.all okW <;> simp [hd]
    · rw [if_neg hd, gd_pos (by omega)]; simp [hd]
  · show cut_Validate_B1 b (cut_Validate_L1 b n) _ = _
    unfold cut_Validate_B1
    rw [if_neg (by omega)]; rfl
theorem rValidate_eq {b : Bog} (hs : Short b) : ref04_Validate b = some (validate b) := by
  unfold ref04_Validate validate okB
  by_cases h1 : (b.worth.length : Int) < 1
  · have : within b.worth.length 1 6 = false := by simp [within]; omega
    rw [if_pos h1, this]; unfold ref04_Validate_k4; simp
  rw [if_neg h1]
  by_cases h2 : (6 : Int) < b.worth.length
  · have : within b.worth.length 1 6 = false := by simp [within]; omega
    rw [if_pos h2, this]; unfold ref04_Validate_k4; simp
  rw [if_neg h2]
  have h3 : within b.worth.length 1 6 = true := within_iff.2 (by omega)
  have h0 : b.worth[0]? = some b.worth[0] := by simp
  have hd : dep b = (b.worth[0].length : Int) := by unfold dep; rw [h0]; rfl
  rw [ix0 h0, ix0 h0, h3, ← hd]
  by_cases h4 : dep b < 1
  · have : within (dep b) 1 4 = false := by simp [within]; omega
    rw [if_pos h4, this]; unfold ref04_Validate_k4; simp
  rw [if_neg h4]
  by_cases h5 : 4 < dep b
  · have : within (dep b) 1 4 = false := by simp [within]; omega
    simp only [h5, this]; unfold ref04_Validate_k4; simp
  have h6 : within (dep b) 1 4 = true := within_iff.2 (by omega)
  simp only [h5, h6, decide_false, Bool.true_and]
  unfold ref04_Validate_k4
  rw [if_neg (by simp), list_loop0 b.worth (okCol (dep b)) (ref04_Validate_L2 b) (some 0) (some 1) (fun n i x hx => ?_) (fun n => ?_) (by omega)]
  · cases b.worth.all (okCol (dep b)) <;> simp
  · have := lt_of_at hx
    have hxl := hs.2 x (List.mem_of_getElem? hx)
    show ref04_Validate_B2 b (ref04_Validate_L2 b n) _ = _
    unfold ref04_Validate_B2 okCol
    rw [if_pos (by omega), ix_nat hx, ix0 h0, ← hd]
    by_cases hdd : (x.length : Int) = dep b
    · rw [if_pos hdd, list_loop0 x okW (ref04_Validate_L1 b i (ref04_Validate_L2 b n)) (ref04_Validate_L2 b n ((i + 1 : Nat) : Int)) (some 1) (fun m j v hv => ?_) (fun m => ?_) (by omega)]
      · cases x.all okW <;> simp [hdd]
      · have := lt_of_at hv
        show ref04_Validate_B1 b i (ref04_Validate_L2 b n) (ref04_Validate_L1 b i (ref04_Validate_L2 b n) m) _ = _
        unfold ref04_Validate_B1
        rw [ix_nat hx, if_pos (by omega), ix_nat hx, ix_nat hv]
        unfold ref04_Validate_k3
        by_cases hb : (50 : Int) < v
        · rw [if_pos hb]; simp [okW, within]; omega
        · rw [if_neg hb, ix_nat hx, ix_nat hv, gd_pos (by omega)]
          by_cases hc : v < -50
          · simp [hc, okW, within]; omega
          · have : okW v = true := within_iff.2 (by omega)
            simp [hc, this]
      · show ref04_Validate_B1 b i (ref04_Validate_L2 b n) (ref04_Validate_L1 b i (ref04_Validate_L2 b n) m) _ = _
        unfold ref04_Validate_B1
        rw [ix_nat hx, if_neg (by omega)]
        unfold ref04_Validate_k2
        rw [gd_pos (by omega)]; rfl
    · rw [if_neg hdd]; simp [hdd]
  · show ref04_Validate_B2 b (ref04_Validate_L2 b n) _ = _
    unfold ref04_Validate_B2
    rw [if_neg (by omega)]; rfl
end Go.D4

set_option linter.unusedVariables false
set_option linter.unusedSimpArgs false
namespace Go.D4
open Go.Tb
def gi (l : List Int) (i : Nat) : Int := l.getD i 0
theorem gi_of {l : List Int} {i : Nat} {x : Int} (h : l[i]? = some x) : gi l i = x := by simp [gi, List.getD, h]
def rightB (h : List Int) : Bool := decide (∀ j, j < h.length → 1 ≤ j → within (gi h j - gi h (j - 1)) (-1) 1 = true)
def okL (b : Bog) (h : List Int) : Bool := decide ((h.length : Int) = b.worth.length) && h.all (fun n => within n 0 (dep b))
def listE (b : Bog) (h : List Int) : Int := if validate b = 0 then (if okL b h = true then 0 else 1) else validate b
def hollowE (b : Bog) (h : List Int) : Int := if listE b h = 0 then (if rightB h = true then 0 else 6) else listE b h
structure Ok (b : Bog) : Prop where
  n1 : 1 ≤ b.worth.length
  n6 : b.worth.length ≤ 6
  d1 : 1 ≤ dep b
  d4 : dep b ≤ 4
  col : ∀ c ∈ b.worth, (c.length : Int) = dep b ∧ ∀ w ∈ c, -50 ≤ w ∧ w ≤ 50
theorem okB_iff {b : Bog} : okB b = true ↔ Ok b := by
  unfold okB
  simp only [Bool.and_eq_true, within_iff, List.all_eq_true, okCol, decide_eq_true_eq, okW]
  constructor
  · rintro ⟨⟨h1, h2⟩, h3⟩
    exact ⟨by omega, by omega, h2.1, h2.2, h3⟩
  · intro h
    exact ⟨⟨⟨by have := h.n1; omega, by have := h.n6; omega⟩, h.d1, h.d4⟩, h.col⟩
theorem val0 {b : Bog} : validate b = 0 ↔ Ok b := by
  rw [← okB_iff]; unfold validate; split <;> simp_all
theorem okL_iff {b : Bog} {h : List Int} : okL b h = true ↔ h.length = b.worth.length ∧ ∀ x ∈ h, 0 ≤ x ∧ x ≤ dep b := by
  unfold okL
  simp only [Bool.and_eq_true, decide_eq_true_eq, List.all_eq_true, within_iff]
  constructor
  · rintro ⟨h1, h2⟩; exact ⟨by omega, h2⟩
  · rintro ⟨h1, h2⟩; exact ⟨by omega, h2⟩
theorem list0 {b : Bog} {h : List Int} : listE b h = 0 ↔ Ok b ∧ okL b h = true := by
  unfold listE
  constructor
  · intro h0
    split at h0
    · rename_i hv
      split at h0
      · rename_i ho; exact ⟨val0.1 hv, ho⟩
      · cases h0
    · rename_i hv; exact absurd h0 hv
  · rintro ⟨h1, h2⟩
    rw [if_pos (val0.2 h1), if_pos h2]
theorem hollow0 {b : Bog} {h : List Int} : hollowE b h = 0 ↔ Ok b ∧ okL b h = true ∧ rightB h = true := by
  unfold hollowE
  constructor
  · intro h0
    split at h0
    · rename_i hv
      split at h0
      · rename_i ho; exact ⟨(list0.1 hv).1, (list0.1 hv).2, ho⟩
      · cases h0
    · rename_i hv; exact absurd h0 hv
  · rintro ⟨h1, h2, h3⟩
    rw [if_pos (list0.2 ⟨h1, h2⟩), if_pos h3]
theorem isList_eq {b : Bog} {h : List Int} (hs : Short b) (hl : h.length ≤ 1000000) : cut_isList b h = some (listE b h) := by
  unfold cut_isList listE
  rw [bnd_eq (Validate_eq hs)]
  by_cases hv : validate b = 0
  · have hb := val0.1 hv
    rw [if_pos hv, if_pos hv]
    have hf : ∀ x, cut_isList_1 b x = some (!within x 0 (dep b)) := fun x => by
      unfold cut_isList_1
      rw [bnd_eq (depth_eq hb.n1), bnd_eq (from_eq _ _ _)]
    have hn : (h.any fun x => !within x 0 (dep b)) = !(h.all fun x => within x 0 (dep b)) := by
      induction h with
      | nil => rfl
      | cons x r ih => simp only [List.any_cons, List.all_cons, ih (by simp at hl; omega), Bool.not_and]
    by_cases hln : (h.length : Int) = b.worth.length
    · rw [if_pos hln, bnd_eq (ContainsFunc_eq h _ _ hf hl), hn]
      unfold cut_isList_k1 okL
      cases h.all fun x => within x 0 (dep b) <;> simp [hln]
    · rw [if_neg hln]
      unfold cut_isList_k1 okL
      simp [hln]
  · rw [if_neg hv, if_neg hv]
theorem numbers_eq {b : Bog} {h : List Int} (hs : Short b) (hl : h.length ≤ 1000000) : ref04_numbers b h = some (listE b h) := by
  unfold ref04_numbers listE
  rw [bnd_eq (rValidate_eq hs)]
  by_cases hv : validate b = 0
  · have hb := val0.1 hv
    rw [if_pos hv, if_pos hv]
    by_cases hln : (h.length : Int) = b.worth.length
    · rw [if_pos hln, list_loop0 h (fun n => within n 0 (dep b)) (ref04_numbers_L1 b h) (some 0) (some 1) (fun n i x hx => ?_) (fun n => ?_) (by omega)]
      · unfold okL; cases h.all fun n => within n 0 (dep b) <;> simp [hln]
      · have := lt_of_at hx
        show ref04_numbers_B1 b h (ref04_numbers_L1 b h n) _ = _
        unfold ref04_numbers_B1 ref04_numbers_k2
        rw [if_pos (by omega), ix_nat hx]
        by_cases h0 : x < 0
        · rw [if_pos h0]; simp [within]; omega
        · rw [if_neg h0, ix_nat hx, bnd_eq (rdepth_eq hb.n1), gd_pos (by omega)]
          by_cases h1 : dep b < x
          · simp [h1, within]; omega
          · have : within x 0 (dep b) = true := within_iff.2 (by omega)
            simp [h1, this]
      · show ref04_numbers_B1 b h (ref04_numbers_L1 b h n) _ = _
        unfold ref04_numbers_B1
        rw [if_neg (by omega)]; rfl
    · rw [if_neg hln]; simp [okL, hln]
  · rw [if_neg hv, if_neg hv]
theorem rright_eq {h : List Int} (hl : h.length ≤ 1000000) (hb : ∀ x ∈ h, -1000 ≤ x ∧ x ≤ 1000) : ref04_right h = some (rightB h) := by
  unfold ref04_right rightB
  rw [scan1 h.length (fun j => within (gi h j - gi h (j - 1)) (-1) 1) (ref04_right_L1 h) (some true) (some false) (fun n i h1 hi => ?_) (fun n i hi => ?_) (by omega)]
  · by_cases hp : ∀ j, j < h.length → 1 ≤ j → within (gi h j - gi h (j - 1)) (-1) 1 = true
    · rw [if_pos hp, decide_eq_true hp]
    · rw [if_neg hp, decide_eq_false hp]
  · have hx : h[i]? = some h[i] := by simp [hi]
    have hy : h[i - 1]? = some h[i - 1] := List.getElem?_eq_getElem (by omega)
    have bx := hb h[i] (List.getElem_mem _)
    have by_ := hb h[i - 1] (List.getElem_mem _)
    show ref04_right_B1 h (ref04_right_L1 h n) _ = _
    unfold ref04_right_B1 ref04_right_k2
    rw [if_pos (by omega), ix_nat hx, gd_pos (by omega), show ((i : Int) - 1) = ((i - 1 : Nat) : Int) by omega, ix_nat hy, gd_pos (by omega), gi_of hx, gi_of hy]
    by_cases h1 : (1 : Int) < h[i] - h[i - 1]
    · rw [if_pos h1]; simp [within]; omega
    · rw [if_neg h1, gd_pos (by omega), ix_nat hy, ix_nat hx, gd_pos (by omega), gd_pos (by omega)]
      by_cases h2 : (1 : Int) < h[i - 1] - h[i]
      · simp [h2, within]; omega
      · have : within (h[i] - h[i - 1]) (-1) 1 = true := within_iff.2 (by omega)
        simp [h2, this]
  · show ref04_right_B1 h (ref04_right_L1 h n) _ = _
    unfold ref04_right_B1
    rw [if_neg (by omega)]; rfl
def isum : List Int → Int
  | [] => 0
  | x :: r => x + isum r
def colW (b : Bog) (c : Nat) (n : Int) : Int := isum ((b.worth.getD c []).take n.toNat)
def wsum (b : Bog) (h : List Int) : Nat → Int
  | 0 => 0
  | c + 1 => wsum b h c + colW b c (gi h c)
def longB (b : Bog) (ls : List (List Int)) : Bool := !(ls.all fun l => !decide ((100 : Int) < l.length)) || (!(b.worth.all fun l => !decide ((50 : Int) < l.length)) || decide ((50 : Int) < b.worth.length))
theorem Long_eq {b : Bog} {ls : List (List Int)} (h1 : ls.length ≤ 9223372036854775807) (h2 : b.worth.length ≤ 9223372036854775807) : law04_Long b ls = some (longB b ls) := by
  unfold law04_Long longB
  rw [list_loop0 ls (fun l => !decide ((100 : Int) < l.length)) (law04_Long_L2 b ls) (law04_Long_k2 b) (some true) (fun n i x hx => ?_) (fun n => ?_) h1]
  · cases ls.all fun l => !decide ((100 : Int) < l.length)
    · simp
    · simp only [if_true, Bool.not_true, Bool.false_or]
      unfold law04_Long_k2
      rw [list_loop0 b.worth (fun l => !decide ((50 : Int) < l.length)) (law04_Long_L1 b) (law04_Long_k1 b) (some true) (fun n i x hx => ?_) (fun n => ?_) h2]
      · cases b.worth.all fun l => !decide ((50 : Int) < l.length)
        · simp
        · simp [law04_Long_k1]
      · have := lt_of_at hx
        show law04_Long_B1 b (law04_Long_L1 b n) _ = _
        unfold law04_Long_B1
        rw [if_pos (by omega), ix_nat hx, gd_pos (by omega)]
        by_cases h : (50 : Int) < x.length <;> simp [h]
      · show law04_Long_B1 b (law04_Long_L1 b n) _ = _
        unfold law04_Long_B1
        rw [if_neg (by omega)]
  · have := lt_of_at hx
    show law04_Long_B2 b ls (law04_Long_L2 b ls n) _ = _
    unfold law04_Long_B2
    rw [if_pos (by omega), ix_nat hx, gd_pos (by omega)]
    by_cases h : (100 : Int) < x.length <;> simp [h]
  · show law04_Long_B2 b ls (law04_Long_L2 b ls n) _ = _
    unfold law04_Long_B2
    rw [if_neg (by omega)]
theorem long_short {b : Bog} {ls : List (List Int)} (h : longB b ls = false) : Short b ∧ ∀ l ∈ ls, l.length ≤ 100 := by
  unfold longB at h
  simp only [Bool.or_eq_false_iff, Bool.not_eq_false', List.all_eq_true, Bool.not_eq_true', decide_eq_false_iff_not] at h
  obtain ⟨h1, h2, h3⟩ := h
  exact ⟨⟨by omega, fun c hc => by have := h2 c hc; omega⟩, fun l hl => by have := h1 l hl; omega⟩
end Go.D4

set_option linter.unusedVariables false
set_option linter.unusedSimpArgs false
namespace Go.D4
open Go.Tb
def bump (h : List Int) (c : Nat) : List Int := h.set c (gi h c + 1)
def openB (b : Bog) (h : List Int) (c : Nat) : Bool := decide (gi h c + 1 ≤ dep b) && rightB (bump h c)
theorem gi_mem {h : List Int} {c : Nat} (hc : c < h.length) : gi h c ∈ h := by
  have : h[c]? = some h[c] := by simp [hc]
  rw [gi_of this]; exact List.getElem_mem hc
theorem gi_at {h : List Int} {c : Nat} (hc : c < h.length) : h[c]? = some (gi h c) := by
  have : h[c]? = some h[c] := by simp [hc]
  rw [gi_of this]; exact this
theorem SameInts_self {l : List Int} (hl : l.length ≤ 1000000) : ref04_SameInts l l = some true := by
  unfold ref04_SameInts
  rw [if_pos rfl, list_loop0 l (fun _ => true) (ref04_SameInts_L1 l l) (some true) (some false) (fun n i x hx => ?_) (fun n => ?_) (by omega)]
  · simp
  · have := lt_of_at hx
    show ref04_SameInts_B1 l l (ref04_SameInts_L1 l l n) _ = _
    unfold ref04_SameInts_B1
    rw [if_pos (by omega), ix_nat hx, ix_nat hx, if_pos rfl, gd_pos (by omega), if_pos rfl]; rfl
  · show ref04_SameInts_B1 l l (ref04_SameInts_L1 l l n) _ = _
    unfold ref04_SameInts_B1
    rw [if_neg (by omega)]; rfl
theorem bump_hollow {b : Bog} {h : List Int} (hb : Ok b) (ho : okL b h = true) {c : Nat} (hc : c < h.length) (hop : openB b h c = true) : hollowE b (bump h c) = 0 := by
  unfold openB at hop
  simp only [Bool.and_eq_true, decide_eq_true_eq] at hop
  refine hollow0.2 ⟨hb, okL_iff.2 ⟨by simp [bump, (okL_iff.1 ho).1], fun x hx => ?_⟩, hop.2⟩
  unfold bump at hx
  rcases List.mem_or_eq_of_mem_set hx with h1 | h1
  · exact (okL_iff.1 ho).2 x h1
  · have := (okL_iff.1 ho).2 _ (gi_mem hc)
    omega
end Go.D4

set_option linter.unusedVariables false
set_option linter.unusedSimpArgs false
namespace Go.D4
open Go.Tb
def inCols (b : Bog) (c : Int) : Bool := within c 0 ((b.worth.length : Int) - 1)
/-- The hollow after the first i columns of an order (a column that is not open changes nothing). -/
def ordN (b : Bog) (o : List Int) : Nat → List Int
  | 0 => List.replicate b.worth.length 0
  | i + 1 => if openB b (ordN b o i) (gi o i).toNat = true then bump (ordN b o i) (gi o i).toNat else ordN b o i
theorem okL_zero {b : Bog} (hb : Ok b) : okL b (List.replicate b.worth.length 0) = true :=
  okL_iff.2 ⟨by simp, fun x hx => by have := List.eq_of_mem_replicate hx; have := hb.d1; omega⟩
def ordP (b : Bog) (o : List Int) (i : Nat) : Bool := openB b (ordN b o i) (gi o i).toNat
end Go.D4

set_option linter.unusedVariables false
set_option linter.unusedSimpArgs false
namespace Go.D4
open Go.Tb
theorem zw_at {f : Int → Int → Int} {h k : List Int} {i : Nat} {x y : Int} (hx : h[i]? = some x) (hy : k[i]? = some y) : (List.zipWith f h k)[i]? = some (f x y) := by
  rw [List.getElem?_zipWith, hx, hy]
theorem zw_gi {f : Int → Int → Int} {h k : List Int} (hl : k.length = h.length) {i : Nat} (hi : i < h.length) : gi (List.zipWith f h k) i = f (gi h i) (gi k i) :=
  gi_of (zw_at (gi_at hi) (gi_at (by omega)))
theorem smaller_eq (x y : Int) : cut_smaller x y = some (min x y) := rfl
theorem greater_eq (x y : Int) : cut_greater x y = some (max x y) := rfl
/-- One row taken in, the first j columns of it. -/
def mixN (f : Int → Int → Int) (s r : List Int) (j : Nat) : List Int := (List.zipWith f s r).take j ++ s.drop j
theorem mix_step {f : Int → Int → Int} {s r : List Int} (hl : r.length = s.length) {j : Nat} (hj : j < s.length) : (mixN f s r j)[j]? = some (gi s j) ∧ (mixN f s r j).set j (f (gi s j) (gi r j)) = mixN f s r (j + 1) ∧ (mixN f s r j).length = s.length := by
  have hz := zw_at (f := f) (gi_at hj) (gi_at (h := r) (c := j) (by omega))
  have hzl : ((List.zipWith f s r).take j).length = j := by simp; omega
  have hd : s.drop j = gi s j :: s.drop (j + 1) := by
    rw [List.drop_eq_getElem_cons hj]
    congr 1
    have := gi_at hj
    rw [List.getElem?_eq_getElem hj] at this
    exact Option.some.inj this
  refine ⟨?_, ?_, by unfold mixN; simp; omega⟩
  · unfold mixN
    rw [List.getElem?_append_right (by omega), hzl, hd]; simp
  · unfold mixN
    rw [List.set_append_right _ _ (by omega), hzl, hd, Nat.sub_self, List.set_cons_zero, List.take_add_one, hz]
    simp
def foldN (f : Int → Int → Int) (x : List Int) (ll : List (List Int)) : List Int := ll.foldl (fun s r => List.zipWith f s r) x
theorem fold_len {f : Int → Int → Int} {m : Nat} : ∀ (ll : List (List Int)) (x : List Int), x.length = m → (∀ r ∈ ll, r.length = m) → (foldN f x ll).length = m
  | [], x, hx, h => hx
  | r :: ll, x, hx, h => by
    refine fold_len ll _ ?_ (fun q hq => h q (List.mem_cons_of_mem _ hq))
    have := h r (List.mem_cons_self ..)
    simp; omega
theorem fold_take {f : Int → Int → Int} {x : List Int} {ll : List (List Int)} {i : Nat} {r : List Int} (h : ll[i]? = some r) : foldN f x (ll.take (i + 1)) = List.zipWith f (foldN f x (ll.take i)) r := by
  have hi := lt_of_at h
  rw [List.take_add_one, h]
  simp [foldN, List.foldl_append]
theorem least_eq {ll : List (List Int)} {x : List Int} (hx : ll[0]? = some x) (hl : ∀ r ∈ ll, r.length = x.length) (hn : x.length ≤ 1000) (hm : ll.length ≤ 1000000) : ref04_least ll = some (foldN min x ll) := by
  unfold ref04_least
  rw [ix0 hx, gd_pos (by simp; omega), List.nil_append]
  refine Eq.trans (for0 ll.length (fun i => foldN min x (ll.take i)) (fun n s i => ref04_least_L2 ll n i s) (some (foldN min x ll)) rfl (fun n i hi => ?_) (fun n => ?_) (by omega)) rfl
  · have hr : ll[i]? = some ll[i] := by simp [hi]
    have hrl := hl ll[i] (List.getElem_mem _)
    have hfl := fold_len (f := min) (ll.take i) x rfl (fun r hr => hl r (List.mem_of_mem_take hr))
    show ref04_least_B2 ll (ref04_least_L2 ll n) _ _ = _
    unfold ref04_least_B2
    rw [if_pos (by omega)]
    refine Eq.trans (for0 x.length (mixN min (foldN min x (ll.take i)) ll[i]) (fun m s j => ref04_least_L1 ll i (ref04_least_L2 ll n) m j s) (ref04_least_L2 ll n ((i + 1 : Nat) : Int) (foldN min x (ll.take (i + 1)))) (by simp [mixN]) (fun m j hj => ?_) (fun m => ?_) (by omega)) rfl
    · have hj' : j < (foldN min x (ll.take i)).length := by omega
      obtain ⟨m1, m2, m3⟩ := mix_step (f := min) (s := foldN min x (ll.take i)) (r := ll[i]) (by omega) hj'
      show ref04_least_B1 ll i (ref04_least_L2 ll n) (ref04_least_L1 ll i (ref04_least_L2 ll n) m) _ _ = _
      unfold ref04_least_B1
      rw [if_pos (by omega), ix_nat m1, ix_nat hr, ix_nat (gi_at (by omega)), ix_nat m1, gd_pos (by omega), ← m2]; rfl
    · show ref04_least_B1 ll i (ref04_least_L2 ll n) (ref04_least_L1 ll i (ref04_least_L2 ll n) m) _ _ = _
      unfold ref04_least_B1
      have e : mixN min (foldN min x (ll.take i)) ll[i] x.length = foldN min x (ll.take (i + 1)) := by
        rw [fold_take hr]; unfold mixN
        rw [List.take_of_length_le (by simp; omega), List.drop_of_length_le (by omega), List.append_nil]
      have hel := fold_len (f := min) (ll.take (i + 1)) x rfl (fun r hr => hl r (List.mem_of_mem_take hr))
      rw [e, if_neg (by omega)]
      unfold ref04_least_k2
      rw [gd_pos (by omega)]; rfl
  · show ref04_least_B2 ll (ref04_least_L2 ll n) _ _ = _
    unfold ref04_least_B2
    rw [if_neg (by omega), List.take_length]; rfl
theorem most_eq {ll : List (List Int)} {x : List Int} (hx : ll[0]? = some x) (hl : ∀ r ∈ ll, r.length = x.length) (hn : x.length ≤ 1000) (hm : ll.length ≤ 1000000) : ref04_most ll = some (foldN max x ll) := by
  unfold ref04_most
  rw [ix0 hx, gd_pos (by simp; omega), List.nil_append]
  refine Eq.trans (for0 ll.length (fun i => foldN max x (ll.take i)) (fun n s i => ref04_most_L2 ll n i s) (some (foldN max x ll)) rfl (fun n i hi => ?_) (fun n => ?_) (by omega)) rfl
  · have hr : ll[i]? = some ll[i] := by simp [hi]
    have hrl := hl ll[i] (List.getElem_mem _)
    have hfl := fold_len (f := max) (ll.take i) x rfl (fun r hr => hl r (List.mem_of_mem_take hr))
    show ref04_most_B2 ll (ref04_most_L2 ll n) _ _ = _
    unfold ref04_most_B2
    rw [if_pos (by omega)]
    refine Eq.trans (for0 x.length (mixN max (foldN max x (ll.take i)) ll[i]) (fun m s j => ref04_most_L1 ll i (ref04_most_L2 ll n) m j s) (ref04_most_L2 ll n ((i + 1 : Nat) : Int) (foldN max x (ll.take (i + 1)))) (by simp [mixN]) (fun m j hj => ?_) (fun m => ?_) (by omega)) rfl
    · have hj' : j < (foldN max x (ll.take i)).length := by omega
      obtain ⟨m1, m2, m3⟩ := mix_step (f := max) (s := foldN max x (ll.take i)) (r := ll[i]) (by omega) hj'
      show ref04_most_B1 ll i (ref04_most_L2 ll n) (ref04_most_L1 ll i (ref04_most_L2 ll n) m) _ _ = _
      unfold ref04_most_B1
      rw [if_pos (by omega), ix_nat m1, ix_nat hr, ix_nat (gi_at (by omega)), ix_nat m1, gd_pos (by omega), ← m2]; rfl
    · show ref04_most_B1 ll i (ref04_most_L2 ll n) (ref04_most_L1 ll i (ref04_most_L2 ll n) m) _ _ = _
      unfold ref04_most_B1
      have e : mixN max (foldN max x (ll.take i)) ll[i] x.length = foldN max x (ll.take (i + 1)) := by
        rw [fold_take hr]; unfold mixN
        rw [List.take_of_length_le (by simp; omega), List.drop_of_length_le (by omega), List.append_nil]
      have hel := fold_len (f := max) (ll.take (i + 1)) x rfl (fun r hr => hl r (List.mem_of_mem_take hr))
      rw [e, if_neg (by omega)]
      unfold ref04_most_k2
      rw [gd_pos (by omega)]; rfl
  · show ref04_most_B2 ll (ref04_most_L2 ll n) _ _ = _
    unfold ref04_most_B2
    rw [if_neg (by omega), List.take_length]; rfl
theorem rightB_iff {h : List Int} : rightB h = true ↔ ∀ j, j < h.length → 1 ≤ j → -1 ≤ gi h j - gi h (j - 1) ∧ gi h j - gi h (j - 1) ≤ 1 := by
  unfold rightB
  simp only [decide_eq_true_eq, within_iff]
end Go.D4

set_option linter.unusedVariables false
set_option linter.unusedSimpArgs false
namespace Go.D4
open Go.Tb
structure Inv (b : Bog) (h at_ : List Int) (r : Nat) : Prop where
  ok : Ok b
  lh : okL b h = true
  rh : rightB h = true
  la : okL b at_ = true
  ra : rightB at_ = true
  le : ∀ c, c < h.length → gi at_ c ≤ gi h c
  r_ : isum h - isum at_ = (r : Int)
theorem Inv.len {b : Bog} {h at_ : List Int} {r : Nat} (i : Inv b h at_ r) : at_.length = h.length ∧ h.length ≤ 6 := by
  have := (okL_iff.1 i.lh).1; have := (okL_iff.1 i.la).1; have := i.ok.n6
  omega
theorem isum_bump : ∀ {l : List Int} {c : Nat}, c < l.length → isum (bump l c) = isum l + 1
  | x :: r, 0, _ => by simp [bump, isum, gi]; omega
  | x :: r, c + 1, h => by
    have := isum_bump (l := r) (c := c) (by simpa using h)
    simp only [bump, isum, List.set_cons_succ] at this ⊢
    have e : gi (x :: r) (c + 1) = gi r c := by simp [gi, List.getD]
    rw [e]; omega
theorem isum_le : ∀ {l m : List Int}, l.length = m.length → (∀ c, c < m.length → gi l c ≤ gi m c) → isum l ≤ isum m ∧ (isum l = isum m → l = m)
  | [], [], _, _ => by simp
  | x :: r, y :: s, hl, h => by
    have h0 := h 0 (by simp)
    have ih := isum_le (l := r) (m := s) (by simpa using hl) (fun c hc => by
      have := h (c + 1) (by simpa using hc)
      simpa [gi, List.getD] using this)
    simp only [gi, List.getD, List.getElem?_cons_zero, Option.getD_some] at h0
    simp only [isum]
    refine ⟨by omega, fun e => ?_⟩
    have e1 : x = y := by omega
    have e2 := ih.2 (by omega)
    rw [e1, e2]
theorem gi_bump {l : List Int} {c j : Nat} (hc : c < l.length) : gi (bump l c) j = if j = c then gi l c + 1 else gi l j := by
  unfold bump gi
  simp only [List.getD, List.getElem?_set]
  by_cases h : c = j
  · subst h; simp [hc]
  · rw [if_neg h, if_neg (fun e => h e.symm)]
theorem Inv.next {b : Bog} {h at_ : List Int} {r c : Nat} (i : Inv b h at_ (r + 1)) (hc : c < at_.length) (hlt : gi at_ c < gi h c) (hop : openB b at_ c = true) : Inv b h (bump at_ c) r := by
  have hh := hollow0.1 (bump_hollow i.ok i.la hc hop)
  refine ⟨i.ok, i.lh, i.rh, hh.2.1, hh.2.2, fun j hj => ?_, ?_⟩
  · rw [gi_bump hc]
    split
    · rename_i e; subst e; omega
    · exact i.le j hj
  · rw [isum_bump hc]; have := i.r_; omega
theorem Inv.zero {b : Bog} {h : List Int} (h0 : hollowE b h = 0) : Inv b h (List.replicate h.length 0) (isum h).toNat ∧ (isum h).toNat ≤ 24 := by
  have ⟨hb, ho, hr⟩ := hollow0.1 h0
  have ⟨hl, hx⟩ := okL_iff.1 ho
  have g0 : ∀ c, gi (List.replicate h.length 0) c = 0 := fun c => by
    unfold gi; simp only [List.getD, List.getElem?_replicate]; split <;> rfl
  have s0 : ∀ n, isum (List.replicate n 0) = 0 := fun n => by
    induction n with
    | zero => rfl
    | succ n ih => simp [List.replicate_succ, isum, ih]
  have nn : 0 ≤ isum h ∧ isum h ≤ 4 * (h.length : Int) := by
    have hd := hb.d4
    clear hl ho hr h0 g0
    induction h with
    | nil => simp [isum]
    | cons x r ih =>
      have := ih (fun y hy => hx y (List.mem_cons_of_mem _ hy))
      have := hx x (List.mem_cons_self ..)
      simp only [isum, List.length_cons]; omega
  have h6 := hb.n6
  refine ⟨⟨hb, ho, hr, by rw [hl]; exact okL_zero hb, rightB_iff.2 fun j hj h1 => by rw [g0, g0]; omega, fun c hc => ?_, ?_⟩, by omega⟩
  · rw [g0]; exact (hx _ (gi_mem hc)).1
  · rw [s0]; omega
theorem Inv.done {b : Bog} {h at_ : List Int} (i : Inv b h at_ 0) : at_ = h := by
  have ⟨hl, _⟩ := i.len
  exact (isum_le hl i.le).2 (by have := i.r_; omega)
end Go.D4

set_option linter.unusedVariables false
set_option linter.unusedSimpArgs false
namespace Go.D4
open Go.Tb
/-- What is known of an order that has been made so far. -/
structure Led (b : Bog) (out at_ : List Int) : Prop where
  cols : ∀ x ∈ out, inCols b x = true
  all : ∀ j, j < out.length → ordP b out j = true
  to : ordN b out out.length = at_
theorem ordN_pre {b : Bog} {o s : List Int} : ∀ i, i ≤ o.length → ordN b (o ++ s) i = ordN b o i
  | 0, _ => rfl
  | i + 1, h => by
    have ih := ordN_pre (b := b) (o := o) (s := s) i (by omega)
    have e : gi (o ++ s) i = gi o i := by
      have hlt : i < o.length := by omega
      unfold gi
      simp only [List.getD, List.getElem?_append_left hlt]
    show (if openB b (ordN b (o ++ s) i) (gi (o ++ s) i).toNat = true then _ else _) = (if _ then _ else _)
    rw [ih, e]
theorem Led.next {b : Bog} {out at_ : List Int} {c : Nat} (l : Led b out at_) (hc : c < b.worth.length) (hop : openB b at_ c = true) : Led b (out ++ [(c : Int)]) (bump at_ c) := by
  have e : gi (out ++ [(c : Int)]) out.length = (c : Int) := gi_of (by simp)
  have e2 : ordN b (out ++ [(c : Int)]) out.length = at_ := by rw [ordN_pre _ (Nat.le_refl _), l.to]
  refine ⟨fun x hx => ?_, fun j hj => ?_, ?_⟩
  · rcases List.mem_append.1 hx with h | h
    · exact l.cols x h
    · have : x = (c : Int) := by simpa using h
      rw [this]; exact within_iff.2 (by omega)
  · by_cases hjl : j < out.length
    · have h1 := l.all j hjl
      unfold ordP at h1 ⊢
      have e3 : gi (out ++ [(c : Int)]) j = gi out j := by
        unfold gi
        simp only [List.getD, List.getElem?_append_left hjl]
      rw [ordN_pre _ (by omega), e3]; exact h1
    · have : j = out.length := by simp at hj; omega
      subst this
      unfold ordP
      rw [e2, e]; exact hop
  · rw [List.length_append, List.length_singleton]
    show (if openB b (ordN b (out ++ [(c : Int)]) out.length) (gi (out ++ [(c : Int)]) out.length).toNat = true then _ else _) = _
    rw [e2, e]
    have et : ((c : Int)).toNat = c := by omega
    rw [et, if_pos hop]
end Go.D4

set_option linter.unusedVariables false
set_option linter.unusedSimpArgs false
namespace Go.D4
open Go.Tb
def stepOk (h : List Int) (x : Int) : Bool := match h.getLast? with | none => true | some y => within (x - y) (-1) 1
def specL (d : Nat) : Nat → List (List Int)
  | 0 => [[]]
  | c + 1 => (specL d c).flatMap fun h => (((List.range (d + 1)).map fun (x : Nat) => (x : Int)).filter (stepOk h)).map fun x => h ++ [x]
end Go.D4

set_option linter.unusedVariables false
set_option linter.unusedSimpArgs false
namespace Go.D4
open Go.Tb
section
variable {a b : Bog} (hw : a.worth.length = b.worth.length) (hd : cut_depth a = cut_depth b)
include hw hd
end
theorem mem_spec {d : Nat} : ∀ (c : Nat) (h : List Int), h ∈ specL d c ↔ h.length = c ∧ (∀ x ∈ h, 0 ≤ x ∧ x ≤ (d : Int)) ∧ rightB h = true
  | 0, h => by
    simp only [specL, List.mem_singleton]
    constructor
    · rintro rfl; exact ⟨rfl, by simp, by decide⟩
    · rintro ⟨h1, _, _⟩; exact List.length_eq_zero_iff.1 h1
  | c + 1, h => by
    have ih := mem_spec (d := d) c
    have key : ∀ (g : List Int) (x : Int), g.length = c → (rightB (g ++ [x]) = true ↔ rightB g = true ∧ stepOk g x = true) := fun g x hg => by
      have g1 : ∀ j, j < g.length → gi (g ++ [x]) j = gi g j := fun j hj => by
        unfold gi
        simp only [List.getD, List.getElem?_append_left hj]
      have g2 : gi (g ++ [x]) g.length = x := gi_of (by simp)
      have hs : stepOk g x = true ↔ (1 ≤ g.length → -1 ≤ x - gi g (g.length - 1) ∧ x - gi g (g.length - 1) ≤ 1) := by
        unfold stepOk
        cases hl : g.getLast? with
        | none => have := List.getLast?_eq_none_iff.1 hl; subst this; simp
        | some y =>
          rw [List.getLast?_eq_getElem?] at hl
          have hlt := lt_of_at hl
          rw [gi_of hl]
          simp only [within_iff]
          exact ⟨fun h _ => h, fun h => h (by omega)⟩
      rw [rightB_iff, rightB_iff, hs]
      constructor
      · intro h
        refine ⟨fun j hj h1 => ?_, fun h1 => ?_⟩
        · have := h j (by simp; omega) h1
          rw [g1 j hj, g1 (j - 1) (by omega)] at this; exact this
        · have := h g.length (by simp) h1
          rw [g2, g1 (g.length - 1) (by omega)] at this; exact this
      · rintro ⟨h1, h2⟩ j hj h3
        by_cases e : j = g.length
        · subst e
          rw [g2, g1 (g.length - 1) (by omega)]; exact h2 h3
        · have hj' : j < g.length := by simp at hj; omega
          rw [g1 j hj', g1 (j - 1) (by omega)]; exact h1 j hj' h3
    simp only [specL, List.mem_flatMap, List.mem_map, List.mem_filter, List.mem_range]
    constructor
    · rintro ⟨g, hg, x, ⟨⟨y, hy, rfl⟩, hst⟩, rfl⟩
      obtain ⟨h1, h2, h3⟩ := (ih g).1 hg
      refine ⟨by simp [h1], fun z hz => ?_, (key g _ h1).2 ⟨h3, hst⟩⟩
      rcases List.mem_append.1 hz with h | h
      · exact h2 z h
      · have : z = (y : Int) := by simpa using h
        omega
    · rintro ⟨h1, h2, h3⟩
      have hne : h ≠ [] := by intro e; rw [e] at h1; simp at h1
      have e := List.dropLast_concat_getLast hne
      have hl : h.dropLast.length = c := by simp [h1]
      have hlast := h2 (h.getLast hne) (List.getLast_mem hne)
      rw [← e] at h3
      obtain ⟨k1, k2⟩ := (key _ _ hl).1 h3
      refine ⟨h.dropLast, (ih _).2 ⟨hl, fun z hz => h2 z (by rw [List.dropLast_eq_take] at hz; exact List.mem_of_mem_take hz), k1⟩, h.getLast hne, ⟨⟨(h.getLast hne).toNat, by omega, by omega⟩, k2⟩, e⟩
end Go.D4

set_option linter.unusedVariables false
set_option linter.unusedSimpArgs false
namespace Go.D4
open Go.Tb
def W (b : Bog) (h : List Int) : Int := wsum b h h.length
/-- The right hollows of a bog. -/
def hollows (b : Bog) : List (List Int) := specL (dep b).toNat b.worth.length
theorem mem_hollows {b : Bog} (hb : Ok b) {h : List Int} : h ∈ hollows b ↔ hollowE b h = 0 := by
  have := hb.d1
  unfold hollows
  rw [mem_spec, hollow0, okL_iff, show (((dep b).toNat : Nat) : Int) = dep b by omega]
  exact ⟨fun ⟨h1, h2, h3⟩ => ⟨hb, ⟨h1, h2⟩, h3⟩, fun ⟨_, ⟨h1, h2⟩, h3⟩ => ⟨h1, h2, h3⟩⟩
theorem hollow_len {b : Bog} {h : List Int} (h0 : hollowE b h = 0) : h.length = b.worth.length := (okL_iff.1 (hollow0.1 h0).2.1).1
theorem spec_len (d : Nat) : ∀ c, (specL d c).length ≤ (d + 1) ^ c
  | 0 => by simp [specL]
  | c + 1 => by
    have ih := spec_len d c
    have e : ∀ l : List (List Int), (l.flatMap fun h => (((List.range (d + 1)).map fun (x : Nat) => (x : Int)).filter (stepOk h)).map fun x => h ++ [x]).length ≤ l.length * (d + 1) := fun l => by
      induction l with
      | nil => simp
      | cons h r ih =>
        simp only [List.flatMap_cons, List.length_append, List.length_map, List.length_cons]
        have := List.length_filter_le (stepOk h) ((List.range (d + 1)).map fun (x : Nat) => (x : Int))
        simp only [List.length_map, List.length_range] at this
        rw [Nat.succ_mul]; omega
    simp only [specL]
    refine Nat.le_trans (e _) ?_
    rw [Nat.pow_succ]
    exact Nat.mul_le_mul_right _ ih
theorem hollows_len {b : Bog} (hb : Ok b) : (hollows b).length ≤ 15625 ∧ 1 ≤ (hollows b).length := by
  constructor
  · have h1 := spec_len (dep b).toNat b.worth.length
    have h2 : ((dep b).toNat + 1) ^ b.worth.length ≤ 5 ^ b.worth.length := Nat.pow_le_pow_left (by have := hb.d4; omega) _
    have h3 : 5 ^ b.worth.length ≤ 5 ^ 6 := Nat.pow_le_pow_right (by omega) hb.n6
    unfold hollows; omega
  · have h0 : hollowE b (List.replicate b.worth.length 0) = 0 := hollow0.2 ⟨hb, okL_zero hb, rightB_iff.2 fun j hj h1 => by
      have g0 : ∀ c, gi (List.replicate b.worth.length 0) c = 0 := fun c => by
        unfold gi; simp only [List.getD, List.getElem?_replicate]; split <;> rfl
      rw [g0, g0]; omega⟩
    exact List.length_pos_of_mem ((mem_hollows hb).2 h0)
end Go.D4

set_option linter.unusedVariables false
set_option linter.unusedSimpArgs false
namespace Go.D4
open Go.Tb
theorem LiesIn_eq {h k : List Int} (hl : k.length = h.length) (hn : h.length ≤ 1000) : ref04_LiesIn h k = some (decide (∀ j, j < h.length → gi h j ≤ gi k j)) := by
  unfold ref04_LiesIn
  rw [list_loop0 (List.range h.length) (fun i => decide (gi h i ≤ gi k i)) (ref04_LiesIn_L1 h k) (some true) (some false) (fun n i x hx => ?_) (fun n => ?_) (by simp; omega)]
  · by_cases ha : ∀ j, j < h.length → gi h j ≤ gi k j
    · rw [decide_eq_true ha, if_pos (List.all_eq_true.2 fun i hi => by have := ha i (List.mem_range.1 hi); simpa using this)]
    · rw [decide_eq_false ha, if_neg (fun hc => ha fun j hj => by have := List.all_eq_true.1 hc j (List.mem_range.2 hj); simpa using this)]
  · have hi := lt_of_at hx
    simp at hi
    have e : x = i := by simp [hi] at hx; exact hx.symm
    subst e
    show ref04_LiesIn_B1 h k (ref04_LiesIn_L1 h k n) _ = _
    unfold ref04_LiesIn_B1 ref04_LiesIn_k2
    rw [if_pos (by omega), if_pos (by simp; omega), ix_nat (gi_at hi), ix_nat (gi_at (by omega)), gd_pos (by omega)]
    by_cases h1 : gi k x < gi h x
    · rw [if_pos h1, if_neg (by simp; omega)]
    · rw [if_neg h1, if_pos (by simp; omega)]; rfl
  · show ref04_LiesIn_B1 h k (ref04_LiesIn_L1 h k n) _ = _
    unfold ref04_LiesIn_B1 ref04_LiesIn_k2
    rw [List.length_range, if_neg (by omega), if_neg (by simp)]
    unfold ref04_LiesIn_k1
    simp [hl]
end Go.D4

set_option linter.unusedVariables false
set_option linter.unusedSimpArgs false
namespace Go.D4
open Go.Tb
theorem right_snoc {g : List Int} {x : Int} : rightB (g ++ [x]) = true ↔ rightB g = true ∧ stepOk g x = true := by
  have g1 : ∀ j, j < g.length → gi (g ++ [x]) j = gi g j := fun j hj => by
    unfold gi
    simp only [List.getD, List.getElem?_append_left hj]
  have g2 : gi (g ++ [x]) g.length = x := gi_of (by simp)
  have hs : stepOk g x = true ↔ (1 ≤ g.length → -1 ≤ x - gi g (g.length - 1) ∧ x - gi g (g.length - 1) ≤ 1) := by
    unfold stepOk
    cases hl : g.getLast? with
    | none => have := List.getLast?_eq_none_iff.1 hl; subst this; simp
    | some y =>
      rw [List.getLast?_eq_getElem?] at hl
      have hlt := lt_of_at hl
      rw [gi_of hl]
      simp only [within_iff]
      exact ⟨fun h _ => h, fun h => h (by omega)⟩
  rw [rightB_iff, rightB_iff, hs]
  constructor
  · intro h
    refine ⟨fun j hj h1 => ?_, fun h1 => ?_⟩
    · have := h j (by simp; omega) h1
      rw [g1 j hj, g1 (j - 1) (by omega)] at this; exact this
    · have := h g.length (by simp) h1
      rw [g2, g1 (g.length - 1) (by omega)] at this; exact this
  · rintro ⟨h1, h2⟩ j hj h3
    by_cases e : j = g.length
    · subst e
      rw [g2, g1 (g.length - 1) (by omega)]; exact h2 h3
    · have hj' : j < g.length := by simp at hj; omega
      rw [g1 j hj', g1 (j - 1) (by omega)]; exact h1 j hj' h3
theorem right_snoc_eq {g : List Int} {x : Int} (hg : rightB g = true) : rightB (g ++ [x]) = stepOk g x := by
  cases h : stepOk g x
  · cases h2 : rightB (g ++ [x])
    · rfl
    · rw [(right_snoc.1 h2).2] at h; cases h
  · exact right_snoc.2 ⟨hg, h⟩
/-- The right hollows with one more column, of less than j blocks. -/
def rowx (h : List Int) (j : Nat) : List (List Int) := (((List.range j).map fun (x : Nat) => (x : Int)).filter (stepOk h)).map fun x => h ++ [x]
theorem rowx_succ (h : List Int) (j : Nat) : rowx h (j + 1) = rowx h j ++ (if stepOk h (j : Int) = true then [h ++ [(j : Int)]] else []) := by
  unfold rowx
  rw [List.range_succ, List.map_append, List.filter_append, List.map_append]
  congr 1
  simp only [List.map_cons, List.map_nil, List.filter_cons, List.filter_nil]
  split <;> simp
theorem rowx_len (h : List Int) : ∀ j, (rowx h j).length ≤ j
  | 0 => by simp [rowx]
  | j + 1 => by
    have := rowx_len h j
    rw [rowx_succ, List.length_append]
    split <;> simp <;> omega
theorem flat_len (d : Nat) : ∀ l : List (List Int), (l.flatMap fun h => rowx h d).length ≤ l.length * d
  | [] => by simp
  | h :: r => by
    have := flat_len d r
    have := rowx_len h d
    rw [List.flatMap_cons, List.length_append, List.length_cons, Nat.succ_mul]; omega
theorem flat_take {d i : Nat} {l : List (List Int)} {h : List Int} (hx : l[i]? = some h) : ((l.take (i + 1)).flatMap fun h => rowx h d) = ((l.take i).flatMap fun h => rowx h d) ++ rowx h d := by
  rw [List.take_add_one, hx]; simp [List.flatMap_append]
/-- A row that the specification's list may be lengthened by. -/
def RowOk (h : List Int) : Prop := h.length ≤ 6 ∧ (∀ x ∈ h, 0 ≤ x ∧ x ≤ 4) ∧ rightB h = true
theorem rall_inner {b : Bog} (hb : Ok b) {d : Nat} (hd : dep b = (d : Int)) {m6 m8 : List (List Int)} {i : Nat} {h : List Int} (hx : m6[i]? = some h) (ho : RowOk h) (hi : i ≤ 20000) (hm : m8.length ≤ 20000) (rec2 : Int → List (List Int) → Option (List (List Int))) :
    ref04_all_L1 b m6 i rec2 FU 0 m8 = rec2 ((i + 1 : Nat) : Int) (m8 ++ rowx h (d + 1)) := by
  have hd4 := hb.d4
  refine for0 (d + 1) (fun j => m8 ++ rowx h j) (fun n s j => ref04_all_L1 b m6 i rec2 n j s) _ (by simp [rowx]) (fun n j hj => ?_) (fun n => ?_) (by omega)
  · have hrl := rowx_len h j
    have hr : ref04_right (([] ++ h) ++ [(j : Int)]) = some (stepOk h (j : Int)) := by
      rw [List.nil_append, rright_eq (by have := ho.1; simp; omega) (fun x hx => by
        rcases List.mem_append.1 hx with h1 | h1
        · have := ho.2.1 x h1; omega
        · have : x = (j : Int) := by simpa using h1
          omega), right_snoc_eq ho.2.2]
    have hho := ho.1
    show ref04_all_B1 b m6 i rec2 (ref04_all_L1 b m6 i rec2 n) _ _ = _
    unfold ref04_all_B1
    rw [bnd_eq (rdepth_eq hb.n1), if_pos (by omega), ix_nat hx, gd_pos (by simp; omega), gd_pos (by simp; omega), bnd_eq hr, rowx_succ]
    cases stepOk h (j : Int)
    · rw [if_neg (by simp), if_neg (by simp)]
      unfold ref04_all_k5
      rw [gd_pos (by omega), List.append_nil]; rfl
    · rw [if_pos rfl, if_pos rfl]
      unfold ref04_all_k5
      rw [gd_pos (by simp; omega), gd_pos (by omega), ← List.append_assoc]; rfl
  · show ref04_all_B1 b m6 i rec2 (ref04_all_L1 b m6 i rec2 n) _ _ = _
    unfold ref04_all_B1
    rw [bnd_eq (rdepth_eq hb.n1), if_neg (by omega)]
    unfold ref04_all_k4
    rw [gd_pos (by omega)]; rfl
theorem specL_ok {d c : Nat} (hd : d ≤ 4) (hc : c ≤ 6) {h : List Int} (hh : h ∈ specL d c) : RowOk h := by
  obtain ⟨h1, h2, h3⟩ := (mem_spec c h).1 hh
  exact ⟨by omega, fun x hx => by have := h2 x hx; omega, h3⟩
theorem rall_eq {b : Bog} (hb : Ok b) : ref04_all b = some (hollows b) := by
  have hd1 := hb.d1
  have hd4 := hb.d4
  have hn6 := hb.n6
  have hd : dep b = ((dep b).toNat : Int) := by omega
  unfold ref04_all hollows
  generalize hdd : (dep b).toNat = d at hd
  have hd4' : d ≤ 4 := by omega
  refine for0 b.worth.length (fun c => specL d c) (fun n s c => ref04_all_L3 b n c s) _ rfl (fun n c hc => ?_) (fun n => ?_) (by omega)
  · have hsl : (specL d c).length ≤ 3125 := by
      have h1 := spec_len d c
      have h2 : (d + 1) ^ c ≤ 5 ^ c := Nat.pow_le_pow_left (by omega) _
      have h3 : 5 ^ c ≤ 5 ^ 5 := Nat.pow_le_pow_right (by omega) (by omega)
      omega
    show ref04_all_B3 b (ref04_all_L3 b n) _ _ = _
    unfold ref04_all_B3
    rw [if_pos (by omega)]
    refine for0 (specL d c).length (fun i => ((specL d c).take i).flatMap fun h => rowx h (d + 1)) (fun m s i => ref04_all_L2 b c (specL d c) (ref04_all_L3 b n) m i s) _ (by simp) (fun m i hi => ?_) (fun m => ?_) (by omega)
    · have hx : (specL d c)[i]? = some (specL d c)[i] := by simp [hi]
      have hfl := flat_len (d + 1) ((specL d c).take i)
      have htl : ((specL d c).take i).length ≤ 3125 := by rw [List.length_take]; omega
      have : ((specL d c).take i).length * (d + 1) ≤ 3125 * 5 := Nat.mul_le_mul htl (by omega)
      show ref04_all_B2 b c (specL d c) (ref04_all_L3 b n) (ref04_all_L2 b c (specL d c) (ref04_all_L3 b n) m) _ _ = _
      unfold ref04_all_B2
      rw [if_pos (by omega), rall_inner hb hd hx (specL_ok hd4' (by omega) (List.getElem_mem _)) (by omega) (by omega), flat_take hx]
    · show ref04_all_B2 b c (specL d c) (ref04_all_L3 b n) (ref04_all_L2 b c (specL d c) (ref04_all_L3 b n) m) _ _ = _
      unfold ref04_all_B2
      rw [if_neg (by omega)]
      unfold ref04_all_k3 ref04_all_k2
      rw [gd_pos (by omega), List.take_length]; rfl
  · show ref04_all_B3 b (ref04_all_L3 b n) _ _ = _
    unfold ref04_all_B3
    rw [if_neg (by omega)]; rfl
end Go.D4

set_option linter.unusedVariables false
set_option linter.unusedSimpArgs false
namespace Go.D4
open Go.Tb
def Side (s : Int) : Prop := s = 1 ∨ s = -1
/-- The number at column c after the first k columns. -/
def spN (f : Int → Int → Int) (s : Int) (l : List Int) (c : Nat) : Nat → Int
  | 0 => gi l c
  | k + 1 => f (spN f s l c k) (gi l k + s * (max ((c : Int) - k) ((k : Int) - c)))
def spread (f : Int → Int → Int) (s : Int) (l : List Int) : List Int := (List.range l.length).map fun c => spN f s l c l.length
theorem spread_len {f : Int → Int → Int} {s : Int} {l : List Int} : (spread f s l).length = l.length := by simp [spread]
theorem spread_gi {f : Int → Int → Int} {s : Int} {l : List Int} {c : Nat} (h : c < l.length) : gi (spread f s l) c = spN f s l c l.length := by
  apply gi_of
  unfold spread
  rw [List.getElem?_map, List.getElem?_range h]; rfl
section
variable {f : Int → Int → Int} {s : Int} {l : List Int}
theorem spN_le (hs : Side s) (hf : ∀ x y, s * f x y = min (s * x) (s * y)) {c : Nat} : ∀ k, (∀ j, j < k → s * spN f s l c k ≤ s * gi l j + (max ((c : Int) - j) ((j : Int) - c))) ∧ s * spN f s l c k ≤ s * gi l c
  | 0 => ⟨fun j hj => by omega, Int.le_refl _⟩
  | k + 1 => by
    have ⟨h1, h2⟩ := spN_le hs hf (c := c) k
    have e : s * spN f s l c (k + 1) = min (s * spN f s l c k) (s * gi l k + (max ((c : Int) - k) ((k : Int) - c))) := by
      show s * f _ _ = _
      rw [hf, Int.mul_add]
      rcases hs with rfl | rfl
      · rw [Int.one_mul (1 * _), Int.one_mul (max _ _)]
      · congr 1; omega
    rw [e]
    refine ⟨fun j hj => ?_, by omega⟩
    by_cases h : j = k
    · subst h; omega
    · have := h1 j (by omega); omega
theorem spN_is (hs : Side s) (hf : ∀ x y, s * f x y = min (s * x) (s * y)) {c : Nat} : ∀ k, s * spN f s l c k = s * gi l c ∨ ∃ j, j < k ∧ s * spN f s l c k = s * gi l j + (max ((c : Int) - j) ((j : Int) - c))
  | 0 => .inl rfl
  | k + 1 => by
    have ih := spN_is hs hf (c := c) k
    have e : s * spN f s l c (k + 1) = min (s * spN f s l c k) (s * gi l k + (max ((c : Int) - k) ((k : Int) - c))) := by
      show s * f _ _ = _
      rw [hf, Int.mul_add]
      rcases hs with rfl | rfl
      · rw [Int.one_mul (1 * _), Int.one_mul (max _ _)]
      · congr 1; omega
    rw [e]
    by_cases h : s * spN f s l c k ≤ s * gi l k + (max ((c : Int) - k) ((k : Int) - c))
    · rw [show min (s * spN f s l c k) (s * gi l k + (max ((c : Int) - k) ((k : Int) - c))) = s * spN f s l c k by omega]
      rcases ih with h1 | ⟨j, h1, h2⟩
      · exact .inl h1
      · exact .inr ⟨j, by omega, h2⟩
    · exact .inr ⟨k, by omega, by omega⟩
/-- The limits spread: a hollow. -/
theorem spread_hollow (hs : Side s) (hf : ∀ x y, s * f x y = min (s * x) (s * y)) {b : Bog} (hb : Ok b) (ho : okL b l = true) : hollowE b (spread f s l) = 0 := by
  have ⟨hl, hx⟩ := okL_iff.1 ho
  have hx' : ∀ c, c < l.length → 0 ≤ gi l c ∧ gi l c ≤ dep b := fun c hc => hx _ (gi_mem hc)
  have hlow : ∀ c, c < l.length → 0 ≤ spN f s l c l.length ∧ spN f s l c l.length ≤ dep b := fun c hc => by
    have ⟨_, h2⟩ := spN_le (l := l) (f := f) hs hf (c := c) l.length
    have h3 := hx' c hc
    rcases spN_is (l := l) (f := f) hs hf (c := c) l.length with h1 | ⟨j, hj, h1⟩
    · rcases hs with rfl | rfl <;> omega
    · have h4 := hx' j hj
      rcases hs with rfl | rfl <;> omega
  refine hollow0.2 ⟨hb, okL_iff.2 ⟨by rw [spread_len, hl], fun x hx => ?_⟩, rightB_iff.2 fun j hj h1 => ?_⟩
  · obtain ⟨i, hi⟩ := List.getElem?_of_mem hx
    have hlt := lt_of_at hi
    rw [spread_len] at hlt
    have := spread_gi (f := f) (s := s) hlt
    rw [gi_of hi] at this
    rw [this]; exact hlow i hlt
  · rw [spread_len] at hj
    rw [spread_gi hj, spread_gi (show j - 1 < l.length by omega)]
    have step : ∀ a d : Nat, a < l.length → d < l.length → (a : Int) - d ≤ 1 → (d : Int) - a ≤ 1 → s * spN f s l a l.length ≤ s * spN f s l d l.length + 1 := fun a d ha hd h1 h2 => by
      have ⟨q1, q2⟩ := spN_le (l := l) (f := f) hs hf (c := a) l.length
      have q3 := q1 d hd
      rcases spN_is (l := l) (f := f) hs hf (c := d) l.length with h3 | ⟨k, hk, h3⟩
      · omega
      · have := q1 k hk; omega
    have s1 := step j (j - 1) hj (by omega) (by omega) (by omega)
    have s2 := step (j - 1) j (by omega) hj (by omega) (by omega)
    rcases hs with rfl | rfl <;> omega
/-- .. inside the limits. -/
theorem spread_in (hs : Side s) (hf : ∀ x y, s * f x y = min (s * x) (s * y)) {c : Nat} (hc : c < l.length) : s * gi (spread f s l) c ≤ s * gi l c := by
  rw [spread_gi hc]
  exact (spN_le hs hf l.length).2
/-- Two columns of a right hollow. -/
theorem right_far {h : List Int} (hr : rightB h = true) : ∀ d i : Nat, i + d < h.length → gi h (i + d) - gi h i ≤ d ∧ gi h i - gi h (i + d) ≤ d
  | 0, i, _ => by simp
  | d + 1, i, hi => by
    have ih := right_far hr d i (by omega)
    have := rightB_iff.1 hr (i + (d + 1)) hi (by omega)
    rw [show i + (d + 1) - 1 = i + d by omega] at this
    omega
theorem right_far' {h : List Int} (hr : rightB h = true) {i j : Nat} (hi : i < h.length) (hj : j < h.length) : gi h i - gi h j ≤ max ((i : Int) - j) ((j : Int) - i) ∧ gi h j - gi h i ≤ max ((i : Int) - j) ((j : Int) - i) := by
  by_cases h1 : i ≤ j
  · have := right_far hr (j - i) i (by omega)
    rw [show i + (j - i) = j by omega] at this; omega
  · have := right_far hr (i - j) j (by omega)
    rw [show j + (i - j) = i by omega] at this; omega
/-- .. and the widest one. -/
theorem spread_top (hs : Side s) (hf : ∀ x y, s * f x y = min (s * x) (s * y)) {h : List Int} (hr : rightB h = true) (hl : h.length = l.length) (hh : ∀ c, c < l.length → s * gi h c ≤ s * gi l c) {c : Nat} (hc : c < l.length) : s * gi h c ≤ s * gi (spread f s l) c := by
  rw [spread_gi hc]
  rcases spN_is (l := l) (f := f) hs hf (c := c) l.length with h1 | ⟨j, hj, h1⟩
  · rw [h1]; exact hh c hc
  · rw [h1]
    have h2 := hh j hj
    have h3 := right_far' hr (i := c) (j := j) (by omega) (by omega)
    rcases hs with rfl | rfl <;> omega
end
theorem fold_ge {g : Int → Int → Int} {s : Int} (hg : ∀ x y, s * g x y = max (s * x) (s * y)) {m c : Nat} (hc : c < m) : ∀ (ll : List (List Int)) (x : List Int), x.length = m → (∀ r ∈ ll, r.length = m) →
    s * gi x c ≤ s * gi (foldN g x ll) c ∧ ∀ r ∈ ll, s * gi r c ≤ s * gi (foldN g x ll) c
  | [], x, hx, hl => ⟨Int.le_refl _, by simp⟩
  | q :: ll, x, hx, hl => by
    have hq := hl q (List.mem_cons_self ..)
    have e : gi (List.zipWith g x q) c = g (gi x c) (gi q c) := zw_gi (by omega) (by omega)
    have ⟨h1, h2⟩ := fold_ge hg hc ll (List.zipWith g x q) (by simp; omega) (fun r hr => hl r (List.mem_cons_of_mem _ hr))
    rw [e, hg] at h1
    have e2 : foldN g x (q :: ll) = foldN g (List.zipWith g x q) ll := rfl
    rw [e2]
    refine ⟨by omega, fun r hr => ?_⟩
    rcases List.mem_cons.1 hr with rfl | hr
    · omega
    · exact h2 r hr
theorem fold_le {g : Int → Int → Int} {s : Int} (hg : ∀ x y, s * g x y = max (s * x) (s * y)) {m c : Nat} {B : Int} (hc : c < m) : ∀ (ll : List (List Int)) (x : List Int), x.length = m → (∀ r ∈ ll, r.length = m) →
    s * gi x c ≤ B → (∀ r ∈ ll, s * gi r c ≤ B) → s * gi (foldN g x ll) c ≤ B
  | [], x, hx, hl, h1, _ => h1
  | q :: ll, x, hx, hl, h1, h2 => by
    have hq := hl q (List.mem_cons_self ..)
    have e : gi (List.zipWith g x q) c = g (gi x c) (gi q c) := zw_gi (by omega) (by omega)
    have h3 := h2 q (List.mem_cons_self ..)
    refine fold_le hg hc ll (List.zipWith g x q) (by simp; omega) (fun r hr => hl r (List.mem_cons_of_mem _ hr)) ?_ (fun r hr => h2 r (List.mem_cons_of_mem _ hr))
    rw [e, hg]; omega
theorem gi_ext {a b : List Int} (hl : a.length = b.length) (h : ∀ c, c < a.length → gi a c = gi b c) : a = b := by
  apply List.ext_getElem hl
  intro c h1 h2
  have := h c h1
  rw [gi_of (List.getElem?_eq_getElem h1), gi_of (List.getElem?_eq_getElem h2)] at this
  exact this
/-- The greatest hollow (or smallest) of those inside the limits. -/
theorem fold_spread {f g : Int → Int → Int} {s : Int} (hs : Side s) (hf : ∀ x y, s * f x y = min (s * x) (s * y)) (hg : ∀ x y, s * g x y = max (s * x) (s * y)) {b : Bog} (hb : Ok b) {l : List Int} (ho : okL b l = true) {ll : List (List Int)}
    (hm : ∀ h, h ∈ ll ↔ hollowE b h = 0 ∧ ∀ c, c < l.length → s * gi h c ≤ s * gi l c) : ∃ x, ll[0]? = some x ∧ (∀ r ∈ ll, r.length = x.length) ∧ x.length = b.worth.length ∧ foldN g x ll = spread f s l := by
  have hl := (okL_iff.1 ho).1
  have hsp := spread_hollow hs hf hb ho
  have hin : spread f s l ∈ ll := (hm _).2 ⟨hsp, fun c hc => spread_in hs hf hc⟩
  have hlen : ∀ r ∈ ll, r.length = b.worth.length := fun r hr => hollow_len ((hm r).1 hr).1
  have hpos : 0 < ll.length := List.length_pos_of_mem hin
  have hx : ll[0]? = some ll[0] := List.getElem?_eq_getElem hpos
  have hxl := hlen ll[0] (List.getElem_mem hpos)
  refine ⟨ll[0], hx, fun r hr => by rw [hlen r hr, hxl], hxl, ?_⟩
  have hfl := fold_len (f := g) ll ll[0] hxl hlen
  refine gi_ext (by rw [hfl, spread_len, hl]) fun c hc => ?_
  have hc' : c < l.length := by omega
  have ht : ∀ r ∈ ll, s * gi r c ≤ s * gi (spread f s l) c := fun r hr => by
    have ⟨h1, h2⟩ := (hm r).1 hr
    exact spread_top hs hf (hollow0.1 h1).2.2 (by rw [hlen r hr, hl]) h2 hc'
  have h1 := (fold_ge hg (m := b.worth.length) (c := c) (by omega) ll ll[0] hxl hlen).2 _ hin
  have h2 := fold_le hg (m := b.worth.length) (c := c) (by omega) ll ll[0] hxl hlen (ht _ (List.getElem_mem hpos)) ht
  rcases hs with rfl | rfl <;> omega
end Go.D4

set_option linter.unusedVariables false
set_option linter.unusedSimpArgs false
namespace Go.D4
open Go.Tb
theorem spread_eq {f : Int → Int → Int} {F : Int → Int → Option Int} (hF : ∀ x y, F x y = some (f x y)) {s : Int} (hs : Side s) {l : List Int} (hl : l.length ≤ 1000) (hx : ∀ x ∈ l, -1000 ≤ x ∧ x ≤ 1000) : cut_spread l s F = some (spread f s l) := by
  unfold cut_spread
  refine Eq.trans (for0 l.length (fun c => (spread f s l).take c) (fun n st c => cut_spread_L2 l s F n c st) (some (spread f s l)) rfl (fun n c hc => ?_) (fun n => ?_) (by omega)) rfl
  · have hc' : l[c]? = some (gi l c) := gi_at hc
    show cut_spread_B2 l s F (cut_spread_L2 l s F n) _ _ = _
    unfold cut_spread_B2
    rw [if_pos (by omega), ix_nat hc']
    refine Eq.trans (for0 l.length (spN f s l c) (fun m st k => cut_spread_L1 l s F c ((spread f s l).take c) (cut_spread_L2 l s F n) m st k) (cut_spread_L2 l s F n ((c + 1 : Nat) : Int) ((spread f s l).take (c + 1))) rfl (fun m k hk => ?_) (fun m => ?_) (by omega)) rfl
    · have bk := hx _ (gi_mem hk)
      have e : InR (s * (max ((c : Int) - k) ((k : Int) - c))) ∧ InR (gi l k + s * (max ((c : Int) - k) ((k : Int) - c))) := by
        rcases hs with rfl | rfl <;> omega
      show cut_spread_B1 l s F c ((spread f s l).take c) (cut_spread_L2 l s F n) (cut_spread_L1 l s F c ((spread f s l).take c) (cut_spread_L2 l s F n) m) _ _ = _
      unfold cut_spread_B1
      rw [if_pos (by omega), ix_nat (gi_at hk), gd_pos (by omega), gd_pos (by omega), gd_pos e.1, gd_pos e.2, bnd_eq (hF _ _), gd_pos (by omega)]; rfl
    · show cut_spread_B1 l s F c ((spread f s l).take c) (cut_spread_L2 l s F n) (cut_spread_L1 l s F c ((spread f s l).take c) (cut_spread_L2 l s F n) m) _ _ = _
      unfold cut_spread_B1
      rw [if_neg (by omega)]
      unfold cut_spread_k3 cut_spread_k2
      have hg : (spread f s l)[c]? = some (spN f s l c l.length) := by rw [← spread_gi hc]; exact gi_at (by rw [spread_len]; exact hc)
      rw [gd_pos (by simp [spread_len]; omega), gd_pos (by omega), List.take_add_one, hg]; rfl
  · show cut_spread_B2 l s F (cut_spread_L2 l s F n) _ _ = _
    unfold cut_spread_B2
    rw [if_neg (by omega)]
    unfold cut_spread_k1
    rw [List.take_of_length_le (by rw [spread_len]; omega)]
def underR (b : Bog) (l : List Int) : List Int × Int := if listE b l = 0 then (spread min 1 l, 0) else ([], listE b l)
def overR (b : Bog) (l : List Int) : List Int × Bool × Int := if listE b l = 0 then (spread max (-1) l, true, 0) else ([], false, listE b l)
theorem okL_bnd {b : Bog} (hb : Ok b) {l : List Int} (ho : okL b l = true) : l.length ≤ 1000 ∧ ∀ x ∈ l, -1000 ≤ x ∧ x ≤ 1000 := by
  have ⟨h1, h2⟩ := okL_iff.1 ho
  have := hb.n6; have := hb.d4
  exact ⟨by omega, fun x hx => by have := h2 x hx; omega⟩
theorem Under_eq {b : Bog} (hs : Short b) {l : List Int} (hl : l.length ≤ 1000000) : cut_Under b l = some (underR b l) := by
  unfold cut_Under underR
  rw [bnd_eq (isList_eq hs hl)]
  by_cases h0 : listE b l = 0
  · have ⟨hb, ho⟩ := list0.1 h0
    have ⟨h1, h2⟩ := okL_bnd hb ho
    rw [if_pos h0, if_pos h0, bnd_eq (spread_eq smaller_eq (.inl rfl) h1 h2)]
  · rw [if_neg h0, if_neg h0]
theorem Over_eq {b : Bog} (hs : Short b) {l : List Int} (hl : l.length ≤ 1000000) : cut_Over b l = some (overR b l) := by
  unfold cut_Over overR
  rw [bnd_eq (isList_eq hs hl)]
  by_cases h0 : listE b l = 0
  · have ⟨hb, ho⟩ := list0.1 h0
    have ⟨h1, h2⟩ := okL_bnd hb ho
    rw [if_pos h0, if_pos h0, bnd_eq (spread_eq greater_eq (.inr rfl) h1 h2)]
  · rw [if_neg h0, if_neg h0]
def liesB (h k : List Int) : Bool := decide (∀ j, j < h.length → gi h j ≤ gi k j)
theorem filter_take {α : Type} {p : α → Bool} {l : List α} {i : Nat} {x : α} (h : l[i]? = some x) : (l.take (i + 1)).filter p = (l.take i).filter p ++ (if p x = true then [x] else []) := by
  rw [List.take_add_one, h]
  simp only [Option.toList_some, List.filter_append, List.filter_cons, List.filter_nil]
theorem rUnder_eq {b : Bog} (hs : Short b) {l : List Int} (hl : l.length ≤ 1000000) : ref04_Under b l = some (underR b l) := by
  unfold ref04_Under underR
  rw [bnd_eq (numbers_eq hs hl)]
  by_cases h0 : listE b l = 0
  · have ⟨hb, ho⟩ := list0.1 h0
    have ⟨h1, h2⟩ := okL_bnd hb ho
    have ⟨hn1, hn2⟩ := hollows_len hb
    have hll := (okL_iff.1 ho).1
    rw [if_pos h0, if_pos h0, bnd_eq (rall_eq hb)]
    have hfl : ∀ i, (((hollows b).take i).filter fun h => liesB h l).length ≤ 15625 := fun i => by
      have q1 := List.length_filter_le (fun h => liesB h l) ((hollows b).take i)
      have q2 : ((hollows b).take i).length ≤ (hollows b).length := by rw [List.length_take]; omega
      omega
    refine Eq.trans (for0 (hollows b).length (fun i => ((hollows b).take i).filter fun h => liesB h l) (fun n st i => ref04_Under_L1 l (hollows b) n i st) (some (spread min 1 l, 0)) (by simp) (fun n i hi => ?_) (fun n => ?_) (by omega)) rfl
    · have hx : (hollows b)[i]? = some (hollows b)[i] := by simp [hi]
      have hol := hollow_len ((mem_hollows hb).1 (List.getElem_mem (l := hollows b) hi))
      have hli : ref04_LiesIn (hollows b)[i] l = some (liesB (hollows b)[i] l) := LiesIn_eq (by omega) (by omega)
      have := hfl i
      show ref04_Under_B1 l (hollows b) (ref04_Under_L1 l (hollows b) n) _ _ = _
      unfold ref04_Under_B1
      rw [if_pos (by omega), ix_nat hx, bnd_eq hli, filter_take hx]
      unfold ref04_Under_k2
      cases hp : liesB (hollows b)[i] l
      · rw [if_neg (by simp), gd_pos (by omega), if_neg (by simp), List.append_nil]; rfl
      · rw [if_pos rfl, ix_nat hx, gd_pos (by omega), gd_pos (by omega), if_pos rfl]; rfl
    · show ref04_Under_B1 l (hollows b) (ref04_Under_L1 l (hollows b) n) _ _ = _
      unfold ref04_Under_B1
      rw [if_neg (by omega)]
      unfold ref04_Under_k1
      rw [List.take_length]
      obtain ⟨x, hx, hxl, hxb, he⟩ := fold_spread (f := min) (g := max) (s := 1) (.inl rfl) (fun x y => by omega) (fun x y => by omega) hb ho (ll := (hollows b).filter fun h => liesB h l) (fun h => by
        rw [List.mem_filter, mem_hollows hb]
        refine and_congr_right fun hh => ?_
        have := hollow_len hh
        unfold liesB
        rw [decide_eq_true_eq]
        constructor
        · intro q c hc; have := q c (by omega); omega
        · intro q c hc; have := q c (by omega); omega)
      have := hfl (hollows b).length
      rw [List.take_length] at this
      rw [bnd_eq (most_eq hx hxl (by have := hb.n6; omega) (by omega)), he]
  · rw [if_neg h0, if_neg h0]
theorem rOver_eq {b : Bog} (hs : Short b) {l : List Int} (hl : l.length ≤ 1000000) : ref04_Over b l = some (overR b l) := by
  unfold ref04_Over overR
  rw [bnd_eq (numbers_eq hs hl)]
  by_cases h0 : listE b l = 0
  · have ⟨hb, ho⟩ := list0.1 h0
    have ⟨h1, h2⟩ := okL_bnd hb ho
    have ⟨hn1, hn2⟩ := hollows_len hb
    have hll := (okL_iff.1 ho).1
    rw [if_pos h0, if_pos h0, bnd_eq (rall_eq hb)]
    have hfl : ∀ i, (((hollows b).take i).filter fun h => liesB l h).length ≤ 15625 := fun i => by
      have q1 := List.length_filter_le (fun h => liesB l h) ((hollows b).take i)
      have q2 : ((hollows b).take i).length ≤ (hollows b).length := by rw [List.length_take]; omega
      omega
    refine Eq.trans (for0 (hollows b).length (fun i => ((hollows b).take i).filter fun h => liesB l h) (fun n st i => ref04_Over_L1 l (hollows b) n i st) (some (spread max (-1) l, true, 0)) (by simp) (fun n i hi => ?_) (fun n => ?_) (by omega)) rfl
    · have hx : (hollows b)[i]? = some (hollows b)[i] := by simp [hi]
      have hol := hollow_len ((mem_hollows hb).1 (List.getElem_mem (l := hollows b) hi))
      have hli : ref04_LiesIn l (hollows b)[i] = some (liesB l (hollows b)[i]) := LiesIn_eq (by omega) (by omega)
      have := hfl i
      show ref04_Over_B1 l (hollows b) (ref04_Over_L1 l (hollows b) n) _ _ = _
      unfold ref04_Over_B1
      rw [if_pos (by omega), ix_nat hx, bnd_eq hli, filter_take hx]
      unfold ref04_Over_k2
      cases hp : liesB l (hollows b)[i]
      · rw [if_neg (by simp), gd_pos (by omega), if_neg (by simp), List.append_nil]; rfl
      · rw [if_pos rfl, ix_nat hx, gd_pos (by omega), gd_pos (by omega), if_pos rfl]; rfl
    · show ref04_Over_B1 l (hollows b) (ref04_Over_L1 l (hollows b) n) _ _ = _
      unfold ref04_Over_B1
      rw [if_neg (by omega)]
      unfold ref04_Over_k1
      rw [List.take_length]
      obtain ⟨x, hx, hxl, hxb, he⟩ := fold_spread (f := max) (g := min) (s := -1) (.inr rfl) (fun x y => by omega) (fun x y => by omega) hb ho (ll := (hollows b).filter fun h => liesB l h) (fun h => by
        rw [List.mem_filter, mem_hollows hb]
        refine and_congr_right fun hh => ?_
        unfold liesB
        rw [decide_eq_true_eq]
        constructor
        · intro q c hc; have := q c (by omega); omega
        · intro q c hc; have := q c (by omega); omega)
      have := hfl (hollows b).length
      rw [List.take_length] at this
      rw [bnd_eq (least_eq hx hxl (by have := hb.n6; omega) (by omega)), he]
  · rw [if_neg h0, if_neg h0]
theorem underR_len {b : Bog} {l : List Int} : (underR b l).1.length ≤ l.length := by
  unfold underR; split
  · simp [spread_len]
  · simp
theorem overR_len {b : Bog} {l : List Int} : (overR b l).1.length ≤ l.length := by
  unfold overR; split
  · simp [spread_len]
  · simp
theorem law_CutBounds (b : Bog) (l m : List Int) (hb : b.worth.length ≤ 9223372036854775807) : law04_CutBounds b l m = some true := by
  unfold law04_CutBounds
  rw [bnd_eq (Long_eq (by simp) hb)]
  cases hL : longB b [l, m]
  · obtain ⟨hs, h2⟩ := long_short hL
    have hl := h2 l (by simp)
    have hm := h2 m (by simp)
    have u1 := underR_len (b := b) (l := l)
    have u2 := overR_len (b := b) (l := m)
    rw [if_neg (by simp), bnd_eq (Under_eq hs (by omega)), bnd_eq (rUnder_eq hs (by omega)), bnd_eq (Over_eq hs (by omega)), bnd_eq (rOver_eq hs (by omega)), bnd_eq (SameInts_self (by omega)), if_pos rfl, if_pos rfl, bnd_eq (SameInts_self (by omega)), if_pos rfl, if_pos (by simp), if_pos rfl, bnd_eq sane_eq]
  · rw [if_pos rfl, bnd_eq sane_eq]
end Go.D4
