/- Lemmas and walks that the proof of this claim uses: D4m12, D4m13, Tb22, D4p1, D4p2, D4p3, D4p4, D4p5, D4p6, D4p7, D4p8, D4p9, D4pA, D4pB, D4pC, D4pF, D4pH, D4q1, D4q2. -/
import Derived.Test.YtihcdffakmnkdaaCutBests2
set_option linter.unusedVariables false
set_option linter.unusedSimpArgs false
namespace Go.D4
open Go.Tb Go.Proofs Go.RowKit
theorem Tc75 : callable Try.prog 75 = true := by kernel_rfl
theorem Tc82 : callable Try.prog 82 = true := by kernel_rfl
set_option maxRecDepth 20000 in
set_option maxHeartbeats 1000000 in
theorem ref04_all_ok {a0 : Bog} {A_a0_worth : Option Addr} {c_a0_worth : Nat} {w : World} {res : (List (List Int))} (h_a0_worth : Sl2 w A_a0_worth c_a0_worth 1 encN a0.worth) (F : ref04_all a0 = some res) : Calls Try.prog 82 #[.agg #[.slice A_a0_worth a0.worth.length c_a0_worth]] w (fun e w' => ∃ (A1 : Option Addr) (c1 : Nat) (hs0 : List (Option Addr × Nat)), e = .returned (.slice A1 res.length c1) ∧ Hp w w' [.tab A1 c1 25 hs0 3 1 (encM encN res)]) := by
  refine calls_of_cw (args := [.agg #[.slice A_a0_worth a0.worth.length c_a0_worth]]) Try.func82 rfl rfl rfl rfl ?_
  have H := Hp.start w
  have R0 := H.ext
  unfold ref04_all at F
  refine CW.seq fun K1 hK1 => ?_
  refine CW.region ?_
  refine LW.go rfl rfl (OW.box rfl fun b1 w1 N1 => ?_)
  replace H := H.new N1 N1.blk
  replace R0 := H.ext
  refine LW.pure rfl rfl (RV.assign rfl) ?_
  refine LW.nil (hK1 _ _ ?_)
  refine CW.seq fun K2 hK2 => ?_
  refine CW.region ?_
  refine LW.go rfl rfl (OW.buildSlice (e := 25) (vs := [.slice none 0 0]) (cs := [.slice none 0 0]) rfl (fun _ => by kernel_rfl) fun b2 w2 N2 => ?_)
  replace H := H.made' (k := 1) (t := 25) (enc := (fun (_ : Unit) => [Value.slice none 0 0])) (l := (List.replicate 1 ())) N2 N2.blk (fun _ => rfl) rfl (by first | decide | omega | (simp; done) | (simp; omega))
  replace R0 := H.ext
  replace H : Hp w w2 [.tab (some ⟨b2, 0, none⟩) (((List.replicate 1 ())).length) 25 (List.replicate 1 (none, 0)) 3 1 (encM encN ((List.replicate 1 ([] : List Int)))), .blk b1 24 [.slice A_a0_worth a0.worth.length c_a0_worth]] := H.asTab encN 0 3 1 rfl
  replace R0 := H.ext
  refine LW.pure rfl rfl (RV.assign rfl) ?_
  refine LW.nil (hK2 _ _ ?_)
  refine CW.seqJ (fun ρ wl1 => (∃ (m1 : List (List Int)) (hsm1 : List (Option Addr × Nat)) (Am1 : Option Addr) (cm1 : Nat), ref04_all_k1 m1 = some res ∧ ρ = [(2, .slice none 0 0), (3, .slice Am1 m1.length cm1)] ∧ Hp w wl1 [.tab Am1 cm1 25 hsm1 3 1 (encM encN m1)])) ?_ ?_
  ·
    rintro _ wl1 ⟨m1, hsm1, Am1, cm1, F, rfl, H⟩
    have R0 := H.ext
    unfold ref04_all_k1 at F
    refine CW.seq fun K3 hK3 => ?_
    refine CW.region ?_
    refine LW.pure rfl rfl (RV.move rfl) ?_
    refine LW.pure rfl rfl (RV.assign rfl) ?_
    refine LW.nil (hK3 _ _ ?_)
    refine CW.ret ?_
    obtain rfl := Option.some.inj F
    refine ⟨_, (ResOK.one rfl), ?_⟩
    exact ⟨Am1, cm1, hsm1, (by first | rfl | (simp; done) | (simp; omega)), H⟩
  ·
    intro K4 hK4 jK5186
    refine CW.seq fun K5 hK5 => ?_
    refine CW.region ?_
    refine LW.pure rfl rfl (RV.assign rfl) ?_
    refine LW.nil (hK5 _ _ ?_)
    refine CW.block ?_
    refine CW.loop (fun meas ρ wl2 => ∃ (t4_1 : Int) (m6 : List (List Int)) (hsm6 : List (Option Addr × Nat)) (Am6 : Option Addr) (cm6 : Nat), ref04_all_L3 a0 meas t4_1 m6 = some res ∧ ρ = [(1, .pointer (some (⟨b1, 0, none⟩))), (2, .slice none 0 0), (3, .slice Am6 m6.length cm6), (4, .int .i64 t4_1)] ∧ Hp w wl2 [.tab Am6 cm6 25 hsm6 3 1 (encM encN m6), .blk b1 24 [.slice A_a0_worth a0.worth.length c_a0_worth]]) FU ⟨_, ?_, ((0 : Int)), ((List.replicate 1 ([] : List Int))), (List.replicate 1 (none, 0)), (some ⟨b2, 0, none⟩), (((List.replicate 1 ())).length), F, rfl, H⟩ ?_
    · exact ⟨rfl, rfl, (look_slice rfl (by first | rfl | (simp; done) | (simp; omega))), rfl, trivial⟩
    rintro mk1 _ wl2 ⟨t4_1, m6, hsm6, Am6, cm6, F, rfl, H⟩
    have R0 := H.ext
    replace F := ref04_all_L3_s F
    obtain ⟨mk1, rfl, F⟩ := F
    generalize hrec1 : ref04_all_L3 a0 mk1 = rec1 at F
    unfold ref04_all_B3 at F
    refine CW.seq fun K6 hK6 => ?_
    refine CW.seq fun K7 hK7 => ?_
    refine CW.region ?_
    refine LW.pure rfl rfl (RV.move rfl) ?_
    refine LW.pure rfl rfl (RV.fieldAddr Tf24_0 rfl) ?_
    refine LW.pure rfl rfl (RV.load1 Tk22 rfl ((H.blk 1 rfl).cells.off 0) rfl) ?_
    refine LW.pure rfl rfl (RV.len Ts22 rfl) ?_
    refine LW.pure rfl rfl (RV.lss rfl rfl) ?_
    refine LW.nil (hK7 _ _ ?_)
    by_cases hp1 : t4_1 < ((a0.worth.length : Int))
    ·
      replace F := ite_y hp1 F
      have hq1 := dec_t hp1
      refine CW.condT rfl hq1 ?_
      refine CW.skip (hK6 _ _ ?_)
      refine CW.seqJ (fun ρ wl3 => (∃ (m2 : List (List Int)) (hsm2 : List (Option Addr × Nat)) (Am2 : Option Addr) (cm2 : Nat), ref04_all_k2 t4_1 rec1 m2 = some res ∧ ρ = [(1, .pointer (some (⟨b1, 0, none⟩))), (2, .slice none 0 0), (3, .slice Am2 m2.length cm2), (4, .int .i64 t4_1)] ∧ Hp w wl3 [.tab Am2 cm2 25 hsm2 3 1 (encM encN m2), .blk b1 24 [.slice A_a0_worth a0.worth.length c_a0_worth]])) ?_ ?_
      ·
        rintro _ wl3 ⟨m2, hsm2, Am2, cm2, F, rfl, H⟩
        have R0 := H.ext
        unfold ref04_all_k2 at F
        obtain ⟨hg1, F⟩ := gd_some F
        refine CW.region ?_
        refine LW.pure rfl rfl (RV.move rfl) ?_
        refine LW.pure rfl rfl (RV.add rfl rfl hg1) ?_
        refine LW.pure rfl rfl (RV.assign rfl) ?_
        refine LW.nil ?_
        subst hrec1
        refine ⟨mk1, Nat.lt_succ_self _, _, ?_, (t4_1 + 1), m2, hsm2, Am2, cm2, F, rfl, H⟩
        exact ⟨rfl, rfl, (look_slice rfl (by first | rfl | (simp; done) | (simp; omega))), rfl, trivial⟩
      ·
        intro K8 hK8 jK6626
        refine CW.block ?_
        refine CW.seq fun K9 hK9 => ?_
        refine CW.region ?_
        refine LW.pure rfl rfl (RV.assign rfl) ?_
        refine LW.nil (hK9 _ _ ?_)
        refine CW.seqJ (fun ρ wl4 => (∃ (m3 : List (List Int)) (hsm3 : List (Option Addr × Nat)) (Am3 : Option Addr) (cm3 : Nat), ref04_all_k3 t4_1 rec1 m3 = some res ∧ ρ = [(1, .pointer (some (⟨b1, 0, none⟩))), (2, .slice none 0 0), (3, .slice Am6 m6.length cm6), (4, .int .i64 t4_1), (5, .slice Am3 m3.length cm3)] ∧ Hp w wl4 [.tab Am6 cm6 25 hsm6 3 1 (encM encN m6), .tab Am3 cm3 25 hsm3 3 1 (encM encN m3), .blk b1 24 [.slice A_a0_worth a0.worth.length c_a0_worth]])) ?_ ?_
        ·
          rintro _ wl4 ⟨m3, hsm3, Am3, cm3, F, rfl, H⟩
          have R0 := H.ext
          unfold ref04_all_k3 at F
          refine CW.region ?_
          refine LW.pure rfl rfl (RV.move rfl) ?_
          refine LW.pure rfl rfl (RV.assign rfl) ?_
          replace H := H.pick (L' := [.tab Am3 cm3 25 hsm3 3 1 (encM encN m3), .blk b1 24 [.slice A_a0_worth a0.worth.length c_a0_worth]]) [1, 2] (by decide) rfl
          replace R0 := H.ext
          refine LW.nil (jK6626 _ _ ⟨_, ?_, ⟨m3, hsm3, Am3, cm3, F, rfl, H⟩⟩)
          exact ⟨rfl, rfl, (look_slice rfl (by first | rfl | (simp; done) | (simp; omega))), rfl, trivial⟩
        ·
          intro K10 hK10 jK6770
          refine CW.seq fun K11 hK11 => ?_
          refine CW.region ?_
          refine LW.pure rfl rfl (RV.assign rfl) ?_
          refine LW.nil (hK11 _ _ ?_)
          refine CW.block ?_
          replace H := H.nilTab encN 25 3 1
          replace R0 := H.ext
          replace H := H.pick (L' := [.tab Am6 cm6 25 hsm6 3 1 (encM encN m6), .tab none 0 25 ([]) 3 1 (encM encN (([] : List (List Int)))), .blk b1 24 [.slice A_a0_worth a0.worth.length c_a0_worth]]) [1, 0, 2] (by decide) rfl
          replace R0 := H.ext
          refine CW.loop (fun meas ρ wl5 => ∃ (t6_1 : Int) (m8 : List (List Int)) (hsm8 : List (Option Addr × Nat)) (Am8 : Option Addr) (cm8 : Nat), ref04_all_L2 a0 t4_1 m6 rec1 meas t6_1 m8 = some res ∧ ρ = [(1, .pointer (some (⟨b1, 0, none⟩))), (2, .slice none 0 0), (3, .slice Am6 m6.length cm6), (4, .int .i64 t4_1), (5, .slice Am8 m8.length cm8), (6, .int .i64 t6_1)] ∧ Hp w wl5 [.tab Am6 cm6 25 hsm6 3 1 (encM encN m6), .tab Am8 cm8 25 hsm8 3 1 (encM encN m8), .blk b1 24 [.slice A_a0_worth a0.worth.length c_a0_worth]]) FU ⟨_, ?_, ((0 : Int)), (([] : List (List Int))), ([]), none, 0, F, rfl, H⟩ ?_
          · exact ⟨rfl, rfl, (look_slice rfl (by first | rfl | (simp; done) | (simp; omega))), rfl, (look_slice rfl (by first | rfl | (simp; done) | (simp; omega))), rfl, trivial⟩
          rintro mk2 _ wl5 ⟨t6_1, m8, hsm8, Am8, cm8, F, rfl, H⟩
          have R0 := H.ext
          replace F := ref04_all_L2_s F
          obtain ⟨mk2, rfl, F⟩ := F
          generalize hrec2 : ref04_all_L2 a0 t4_1 m6 rec1 mk2 = rec2 at F
          unfold ref04_all_B2 at F
          refine CW.seq fun K12 hK12 => ?_
          refine CW.seq fun K13 hK13 => ?_
          refine CW.region ?_
          refine LW.pure rfl rfl (RV.move rfl) ?_
          refine LW.pure rfl rfl (RV.move rfl) ?_
          refine LW.pure rfl rfl (RV.len Ts22 rfl) ?_
          refine LW.pure rfl rfl (RV.lss rfl rfl) ?_
          refine LW.nil (hK13 _ _ ?_)
          by_cases hp2 : t6_1 < ((m6.length : Int))
          ·
            replace F := ite_y hp2 F
            have hq2 := dec_t hp2
            refine CW.condT rfl hq2 ?_
            refine CW.skip (hK12 _ _ ?_)
            refine CW.seqJ (fun ρ wl6 => (∃ (m4 : List (List Int)) (hsm4 : List (Option Addr × Nat)) (Am4 : Option Addr) (cm4 : Nat), ref04_all_k4 t6_1 rec2 m4 = some res ∧ ρ = [(1, .pointer (some (⟨b1, 0, none⟩))), (2, .slice none 0 0), (3, .slice Am6 m6.length cm6), (4, .int .i64 t4_1), (5, .slice Am4 m4.length cm4), (6, .int .i64 t6_1)] ∧ Hp w wl6 [.tab Am6 cm6 25 hsm6 3 1 (encM encN m6), .tab Am4 cm4 25 hsm4 3 1 (encM encN m4), .blk b1 24 [.slice A_a0_worth a0.worth.length c_a0_worth]])) ?_ ?_
            ·
              rintro _ wl6 ⟨m4, hsm4, Am4, cm4, F, rfl, H⟩
              have R0 := H.ext
              unfold ref04_all_k4 at F
              obtain ⟨hg2, F⟩ := gd_some F
              refine CW.region ?_
              refine LW.pure rfl rfl (RV.move rfl) ?_
              refine LW.pure rfl rfl (RV.add rfl rfl hg2) ?_
              refine LW.pure rfl rfl (RV.assign rfl) ?_
              refine LW.nil ?_
              subst hrec2
              refine ⟨mk2, Nat.lt_succ_self _, _, ?_, (t6_1 + 1), m4, hsm4, Am4, cm4, F, rfl, H⟩
              exact ⟨rfl, rfl, (look_slice rfl (by first | rfl | (simp; done) | (simp; omega))), rfl, (look_slice rfl (by first | rfl | (simp; done) | (simp; omega))), rfl, trivial⟩
            ·
              intro K14 hK14 jK6890
              refine CW.block ?_
              refine CW.seq fun K15 hK15 => ?_
              refine CW.region ?_
              refine LW.pure rfl rfl (RV.assign rfl) ?_
              refine LW.nil (hK15 _ _ ?_)
              refine CW.block ?_
              refine CW.loop (fun meas ρ wl7 => ∃ (t7_1 : Int) (m7 : List (List Int)) (hsm7 : List (Option Addr × Nat)) (Am7 : Option Addr) (cm7 : Nat), ref04_all_L1 a0 m6 t6_1 rec2 meas t7_1 m7 = some res ∧ ρ = [(1, .pointer (some (⟨b1, 0, none⟩))), (2, .slice none 0 0), (3, .slice Am6 m6.length cm6), (4, .int .i64 t4_1), (5, .slice Am7 m7.length cm7), (6, .int .i64 t6_1), (7, .int .i64 t7_1)] ∧ Hp w wl7 [.tab Am6 cm6 25 hsm6 3 1 (encM encN m6), .tab Am7 cm7 25 hsm7 3 1 (encM encN m7), .blk b1 24 [.slice A_a0_worth a0.worth.length c_a0_worth]]) FU ⟨_, ?_, ((0 : Int)), m8, hsm8, Am8, cm8, F, rfl, H⟩ ?_
              · exact ⟨rfl, rfl, (look_slice rfl (by first | rfl | (simp; done) | (simp; omega))), rfl, (look_slice rfl (by first | rfl | (simp; done) | (simp; omega))), rfl, rfl, trivial⟩
              rintro mk3 _ wl7 ⟨t7_1, m7, hsm7, Am7, cm7, F, rfl, H⟩
              have R0 := H.ext
              replace F := ref04_all_L1_s F
              obtain ⟨mk3, rfl, F⟩ := F
              generalize hrec3 : ref04_all_L1 a0 m6 t6_1 rec2 mk3 = rec3 at F
              unfold ref04_all_B1 at F
              refine CW.seq fun K16 hK16 => ?_
              refine CW.seq fun K17 hK17 => ?_
              obtain ⟨r1, hr1, F⟩ := bnd_some F
              refine CW.region ?_
              refine LW.pure rfl rfl (RV.move rfl) ?_
              refine LW.pure rfl rfl (RV.loadA [.slice A_a0_worth a0.worth.length c_a0_worth] Tk24 rfl (H.blk 2 rfl).cells rfl rfl) ?_
              refine LW.go rfl rfl (OW.call Tc93 rfl (ref04_depth_ok (a0 := a0) (h_a0_worth.ext R0) hr1) ?_)
              rintro _ w3 ⟨rfl, E1⟩
              refine ⟨_, rfl, ?_⟩
              replace H := H.grow E1
              replace R0 := H.ext
              refine LW.pure rfl rfl (RV.leq rfl rfl) ?_
              refine LW.nil (hK17 _ _ ?_)
              by_cases hp3 : t7_1 ≤ r1
              ·
                replace F := ite_y hp3 F
                have hq3 := dec_t hp3
                refine CW.condT rfl hq3 ?_
                refine CW.skip (hK16 _ _ ?_)
                refine CW.seqJ (fun ρ wl8 => (∃ (m5 : List (List Int)) (hsm5 : List (Option Addr × Nat)) (Am5 : Option Addr) (cm5 : Nat), ref04_all_k5 t7_1 rec3 m5 = some res ∧ ρ = [(1, .pointer (some (⟨b1, 0, none⟩))), (2, .slice none 0 0), (3, .slice Am6 m6.length cm6), (4, .int .i64 t4_1), (5, .slice Am5 m5.length cm5), (6, .int .i64 t6_1), (7, .int .i64 t7_1)] ∧ Hp w wl8 [.tab Am6 cm6 25 hsm6 3 1 (encM encN m6), .tab Am5 cm5 25 hsm5 3 1 (encM encN m5), .blk b1 24 [.slice A_a0_worth a0.worth.length c_a0_worth]])) ?_ ?_
                ·
                  rintro _ wl8 ⟨m5, hsm5, Am5, cm5, F, rfl, H⟩
                  have R0 := H.ext
                  unfold ref04_all_k5 at F
                  obtain ⟨hg3, F⟩ := gd_some F
                  refine CW.region ?_
                  refine LW.pure rfl rfl (RV.move rfl) ?_
                  refine LW.pure rfl rfl (RV.add rfl rfl hg3) ?_
                  refine LW.pure rfl rfl (RV.assign rfl) ?_
                  refine LW.nil ?_
                  subst hrec3
                  refine ⟨mk3, Nat.lt_succ_self _, _, ?_, (t7_1 + 1), m5, hsm5, Am5, cm5, F, rfl, H⟩
                  exact ⟨rfl, rfl, (look_slice rfl (by first | rfl | (simp; done) | (simp; omega))), rfl, (look_slice rfl (by first | rfl | (simp; done) | (simp; omega))), rfl, rfl, trivial⟩
                ·
                  intro K18 hK18 jK6910
                  refine CW.block ?_
                  refine CW.seq fun K19 hK19 => ?_
                  obtain ⟨x1, hbx1, hx1, F⟩ := ix_some F
                  obtain ⟨hg4, F⟩ := gd_some F
                  obtain ⟨hg5, F⟩ := gd_some F
                  refine CW.region ?_
                  refine LW.go rfl rfl (OW.buildSlice (e := 3) (vs := []) (cs := []) rfl (fun _ => by kernel_rfl) fun b3 w4 N3 => ?_)
                  replace H := H.made' (k := 1) (t := 3) (enc := encN) (l := ([] : List Int)) N3 N3.blk (fun _ => rfl) rfl (by first | decide | omega | (simp; done) | (simp; omega))
                  replace R0 := H.ext
                  refine LW.pure rfl rfl (RV.move rfl) ?_
                  refine LW.pure rfl rfl (RV.move rfl) ?_
                  obtain ⟨B1, e1, hh1⟩ := (H.tab 1 rfl).hd hx1
                  refine LW.pure rfl rfl (RV.indexAddr Ts22 rfl rfl hbx1 ((H.tab 1 rfl).addr_ hx1)) ?_
                  refine LW.pure rfl rfl (RV.load1 Tk25 rfl ((H.tab 1 rfl).cell hx1 hh1) rfl) ?_
                  refine LW.go rfl rfl (OW.appendG (enc := encN) (l := ([] : List Int)) (xs := x1) Ts25 (look_slice rfl (by first | rfl | (simp; done) | (simp; omega))) rfl (H.own 0 rfl) ((H.tab 1 rfl).rowO hx1 hh1).sl (fun _ => rfl) rfl rfl hg4 (by decide) fun A2 c2 w5 O1 M1 D1 => ?_)
                  replace H : Hp w w5 [.own A2 c2 3 1 (List.map encN ((([] : List Int) ++ x1))), .tab Am6 cm6 25 hsm6 3 1 (encM encN m6), .tab Am7 cm7 25 hsm7 3 1 (encM encN m7), .blk b1 24 [.slice A_a0_worth a0.worth.length c_a0_worth]] := H.mod 0 rfl M1 O1 D1
                  replace R0 := H.ext
                  refine LW.pure rfl rfl (RV.move rfl) ?_
                  refine LW.go rfl rfl (OW.buildSlice (e := 3) (vs := [.int .i64 t7_1]) (cs := [.int .i64 t7_1]) rfl (fun _ => by kernel_rfl) fun b4 w6 N4 => ?_)
                  replace H := H.made' (k := 1) (t := 3) (enc := encN) (l := ([t7_1] : List Int)) N4 N4.blk (fun _ => rfl) rfl (by first | decide | omega | (simp; done) | (simp; omega))
                  replace R0 := H.ext
                  refine LW.go rfl rfl (OW.appendG (enc := encN) (l := (([] : List Int) ++ x1)) (xs := ([t7_1] : List Int)) Ts25 rfl (look_slice rfl (by first | rfl | (simp; done) | (simp; omega))) (H.own 1 rfl) (H.own 0 rfl).sl (fun _ => rfl) rfl rfl hg5 (by decide) fun A3 c3 w7 O2 M2 D2 => ?_)
                  replace H : Hp w w7 [.own (some ⟨b4, 0, none⟩) ((([t7_1] : List Int)).length) 3 1 (List.map encN (([t7_1] : List Int))), .own A3 c3 3 1 (List.map encN (((([] : List Int) ++ x1) ++ ([t7_1] : List Int)))), .tab Am6 cm6 25 hsm6 3 1 (encM encN m6), .tab Am7 cm7 25 hsm7 3 1 (encM encN m7), .blk b1 24 [.slice A_a0_worth a0.worth.length c_a0_worth]] := H.mod 1 rfl M2 O2 D2
                  replace R0 := H.ext
                  refine LW.pure rfl rfl (RV.assign rfl) ?_
                  refine LW.nil (hK19 _ _ ?_)
                  refine CW.seq fun K20 hK20 => ?_
                  obtain ⟨r2, hr2, F⟩ := bnd_some F
                  refine CW.region ?_
                  refine LW.pure rfl rfl (RV.move rfl) ?_
                  refine LW.go rfl rfl (OW.call Tc72 rfl (ref04_right_ok (a0 := ((([] : List Int) ++ x1) ++ ([t7_1] : List Int))) (H.own 1 rfl).sl hr2) ?_)
                  rintro _ w8 ⟨rfl, E2⟩
                  refine ⟨_, rfl, ?_⟩
                  replace H := H.grow E2
                  replace R0 := H.ext
                  refine LW.nil (hK20 _ _ ?_)
                  by_cases hp4 : r2 = true
                  ·
                    replace F := ite_y hp4 F
                    have hq4 : r2 = true := hp4
                    refine CW.condT rfl hq4 ?_
                    obtain ⟨hg6, F⟩ := gd_some F
                    refine CW.region ?_
                    refine LW.pure rfl rfl (RV.move rfl) ?_
                    refine LW.pure rfl rfl (RV.move rfl) ?_
                    refine LW.go rfl rfl (OW.buildSlice (e := 25) (vs := [.slice A3 ((((([] : List Int) ++ x1) ++ ([t7_1] : List Int))).length) c3]) (cs := [.slice A3 ((((([] : List Int) ++ x1) ++ ([t7_1] : List Int))).length) c3]) rfl (fun _ => by kernel_rfl) fun b5 w9 N5 => ?_)
                    replace H := H.made' (k := 1) (t := 25) (enc := encH) (l := [((A3, c3), List.map encN (((([] : List Int) ++ x1) ++ ([t7_1] : List Int))))]) N5 (by have q := N5.blk; simp only [List.flatMap_cons, List.flatMap_nil, encH, List.length_map, List.append_nil, List.cons_append, List.nil_append]; first | done | exact q) (fun _ => rfl) rfl (by first | decide | omega | (simp; done) | (simp; omega))
                    replace R0 := H.ext
                    refine LW.go rfl rfl (OW.appendT (enc := encN) (m := m7) (l := ((([] : List Int) ++ x1) ++ ([t7_1] : List Int))) Ts22 rfl rfl (H.tab 4 rfl) (H.own 0 rfl).sl rfl hg6 (by decide) fun A4 c4 w10 O3 M3 D3 => ?_)
                    replace H : Hp w w10 [.own (some ⟨b5, 0, none⟩) (([((A3, c3), List.map encN (((([] : List Int) ++ x1) ++ ([t7_1] : List Int))))]).length) 25 1 (List.map encH ([((A3, c3), List.map encN (((([] : List Int) ++ x1) ++ ([t7_1] : List Int))))])), .own (some ⟨b4, 0, none⟩) ((([t7_1] : List Int)).length) 3 1 (List.map encN (([t7_1] : List Int))), .tab Am6 cm6 25 hsm6 3 1 (encM encN m6), .tab A4 c4 25 ((hsm7 ++ [(A3, c3)])) 3 1 (encM encN ((m7 ++ [((([] : List Int) ++ x1) ++ ([t7_1] : List Int))]))), .blk b1 24 [.slice A_a0_worth a0.worth.length c_a0_worth]] := H.tabPush 4 2 (by decide) rfl rfl M3 D3 O3
                    replace R0 := H.ext
                    refine LW.pure rfl rfl (RV.assign rfl) ?_
                    replace H := H.pick (L' := [.tab Am6 cm6 25 hsm6 3 1 (encM encN m6), .tab A4 c4 25 ((hsm7 ++ [(A3, c3)])) 3 1 (encM encN ((m7 ++ [((([] : List Int) ++ x1) ++ ([t7_1] : List Int))]))), .blk b1 24 [.slice A_a0_worth a0.worth.length c_a0_worth]]) [2, 3, 4] (by decide) rfl
                    replace R0 := H.ext
                    refine LW.nil (jK6910 _ _ ⟨_, ?_, ⟨((m7 ++ [((([] : List Int) ++ x1) ++ ([t7_1] : List Int))])), ((hsm7 ++ [(A3, c3)])), A4, c4, F, rfl, H⟩⟩)
                    exact ⟨rfl, rfl, (look_slice rfl (by first | rfl | (simp; done) | (simp; omega))), rfl, (look_slice rfl (by first | rfl | (simp; done) | (simp; omega))), rfl, rfl, trivial⟩
                  ·
                    replace F := ite_n hp4 F
                    have hq4 : r2 = false := raw_f hp4
                    refine CW.condF rfl hq4 ?_
                    replace H := H.pick (L' := [.tab Am6 cm6 25 hsm6 3 1 (encM encN m6), .tab Am7 cm7 25 hsm7 3 1 (encM encN m7), .blk b1 24 [.slice A_a0_worth a0.worth.length c_a0_worth]]) [2, 3, 4] (by decide) rfl
                    replace R0 := H.ext
                    refine CW.skip (jK6910 _ _ ⟨_, ?_, ⟨m7, hsm7, Am7, cm7, F, rfl, H⟩⟩)
                    exact ⟨rfl, rfl, (look_slice rfl (by first | rfl | (simp; done) | (simp; omega))), rfl, (look_slice rfl (by first | rfl | (simp; done) | (simp; omega))), rfl, rfl, trivial⟩
              ·
                replace F := ite_n hp3 F
                have hq3 := dec_f hp3
                refine CW.condF rfl hq3 ?_
                refine CW.exit (jK6890 _ _ ⟨_, ?_, ⟨m7, hsm7, Am7, cm7, F, rfl, H⟩⟩)
                exact ⟨rfl, rfl, (look_slice rfl (by first | rfl | (simp; done) | (simp; omega))), rfl, (look_slice rfl (by first | rfl | (simp; done) | (simp; omega))), rfl, trivial⟩
          ·
            replace F := ite_n hp2 F
            have hq2 := dec_f hp2
            refine CW.condF rfl hq2 ?_
            refine CW.exit (jK6770 _ _ ⟨_, ?_, ⟨m8, hsm8, Am8, cm8, F, rfl, H⟩⟩)
            exact ⟨rfl, rfl, (look_slice rfl (by first | rfl | (simp; done) | (simp; omega))), rfl, (look_slice rfl (by first | rfl | (simp; done) | (simp; omega))), trivial⟩
    ·
      replace F := ite_n hp1 F
      have hq1 := dec_f hp1
      refine CW.condF rfl hq1 ?_
      replace H := H.pick (L' := [.tab Am6 cm6 25 hsm6 3 1 (encM encN m6)]) [0] (by decide) rfl
      replace R0 := H.ext
      refine CW.exit (jK5186 _ _ ⟨_, ?_, ⟨m6, hsm6, Am6, cm6, F, rfl, H⟩⟩)
      exact ⟨rfl, (look_slice rfl (by first | rfl | (simp; done) | (simp; omega))), trivial⟩
set_option maxRecDepth 20000 in
set_option maxHeartbeats 1000000 in
theorem ref04_bests_ok {a0 : Bog} {A_a0_worth : Option Addr} {c_a0_worth : Nat} {w : World} {res : (List (List Int)) × Int} (h_a0_worth : Sl2 w A_a0_worth c_a0_worth 1 encN a0.worth) (F : ref04_bests a0 = some res) : Calls Try.prog 75 #[.agg #[.slice A_a0_worth a0.worth.length c_a0_worth]] w (fun e w' => ∃ (A1 : Option Addr) (c1 : Nat), e = .returned (.tuple #[.slice A1 res.1.length c1, .int .i64 res.2]) ∧ Sl2 w' A1 c1 1 encN res.1 ∧ Ext w w') := by
  refine calls_of_cw (args := [.agg #[.slice A_a0_worth a0.worth.length c_a0_worth]]) Try.func75 rfl rfl rfl rfl ?_
  have H := Hp.start w
  have R0 := H.ext
  unfold ref04_bests at F
  refine CW.seq fun K1 hK1 => ?_
  refine CW.region ?_
  refine LW.go rfl rfl (OW.box rfl fun b1 w1 N1 => ?_)
  replace H := H.new N1 N1.blk
  replace R0 := H.ext
  refine LW.pure rfl rfl (RV.assign rfl) ?_
  refine LW.pure rfl rfl (RV.assign rfl) ?_
  refine LW.nil (hK1 _ _ ?_)
  refine CW.seq fun K2 hK2 => ?_
  obtain ⟨r1, hr1, F⟩ := bnd_some F
  refine CW.region ?_
  refine LW.pure rfl rfl (RV.loadA [.slice A_a0_worth a0.worth.length c_a0_worth] Tk24 rfl (H.blk 0 rfl).cells rfl rfl) ?_
  refine LW.go rfl rfl (OW.call Tc82 rfl (ref04_all_ok (a0 := a0) (h_a0_worth.ext R0) hr1) ?_)
  rintro _ w2 ⟨A16_0, c16_0, hs16_0, rfl, E1⟩
  refine ⟨_, rfl, ?_⟩
  replace H : Hp w w2 [.tab A16_0 c16_0 25 hs16_0 3 1 (encM encN r1), .blk b1 24 [.slice A_a0_worth a0.worth.length c_a0_worth]] := H.append E1
  replace R0 := H.ext
  refine LW.pure rfl rfl (RV.assign rfl) ?_
  refine LW.nil (hK2 _ _ ?_)
  refine CW.seq fun K3 hK3 => ?_
  refine CW.region ?_
  refine LW.pure rfl rfl (RV.assign rfl) ?_
  refine LW.nil (hK3 _ _ ?_)
  refine CW.seq fun K4 hK4 => ?_
  obtain ⟨x3, hbx3, hx3, F⟩ := ix_some F
  obtain ⟨r3, hr3, F⟩ := bnd_some F
  refine CW.draw [] (fun _ => True) (.cons 0 1 (.cons 1 1 (.cons 2 1 (.cons 3 1 (.cons 4 0 (.cons 5 1 .nil)))))) mixed (by kernel_rfl) fun w3 E2 => ?_
  replace H := H.grow E2
  replace R0 := H.ext
  refine DW.fix rfl rfl rfl (fun _ EQ => RV.loadA [.slice A_a0_worth a0.worth.length c_a0_worth] Tk24 rfl ((H.grow EQ).blk 1 rfl).cells rfl rfl) ?_
  refine DW.fix rfl rfl rfl (fun _ EQ => RV.move rfl) ?_
  obtain ⟨B1, e1, hh1⟩ := (H.tab 0 rfl).hd hx3
  refine DW.fix rfl rfl rfl (fun _ EQ => RV.indexAddr Ts22 rfl rfl hbx3 ((H.tab 0 rfl).addr_ hx3)) ?_
  refine DW.fix rfl rfl rfl (fun _ EQ => RV.load1 Tk25 rfl (((H.grow EQ).tab 0 rfl).cell hx3 hh1) rfl) ?_
  refine DW.sole rfl rfl rfl (OW.call Tc66 rfl (ref04_worth_ok (a0 := a0) (a1 := x3) (h_a0_worth.ext R0) ((H.tab 0 rfl).rowO hx3 hh1).sl hr3) ?_)
  rintro _ w4 ⟨rfl, E3⟩
  refine ⟨_, rfl, fun _ => E3, ModX.ext E3, ?_⟩
  replace H := H.grow E3
  replace R0 := H.ext
  refine DW.fix rfl rfl rfl (fun _ EQ => RV.assign rfl) ?_
  refine DW.nil (hK4 _ _ ?_)
  refine CW.seqJ (fun ρ wl1 => (∃ (t6_1 : Int) (m1 : List (List Int)) (hsm1 : List (Option Addr × Nat)) (Am1 : Option Addr) (cm1 : Nat), ref04_bests_k1 t6_1 m1 = some res ∧ ρ = [(2, .slice none 0 0), (3, .int .i64 0), (5, .slice Am1 m1.length cm1), (6, .int .i64 t6_1)] ∧ Hp w wl1 [.own Am1 cm1 25 1 (List.map encH (List.zip hsm1 m1)), .tab A16_0 c16_0 25 hs16_0 3 1 (encM encN r1)] ∧ SubT hsm1 m1 hs16_0 r1)) ?_ ?_
  ·
    rintro _ wl1 ⟨t6_1, m1, hsm1, Am1, cm1, F, rfl, H, hsub1⟩
    have R0 := H.ext
    unfold ref04_bests_k1 at F
    refine CW.seq fun K5 hK5 => ?_
    refine CW.region ?_
    refine LW.pure rfl rfl (RV.move rfl) ?_
    refine LW.pure rfl rfl (RV.move rfl) ?_
    refine LW.pure rfl rfl (RV.assign rfl) ?_
    refine LW.pure rfl rfl (RV.assign rfl) ?_
    refine LW.nil (hK5 _ _ ?_)
    refine CW.ret ?_
    obtain rfl := Option.some.inj F
    refine ⟨_, (ResOK.two rfl rfl), ?_⟩
    exact ⟨Am1, cm1, (by first | rfl | (simp; done) | (simp; omega)), (SubT.sl2 hsub1 (H.own 0 rfl) (H.tab 1 rfl)), R0⟩
  ·
    intro K6 hK6 jK168
    refine CW.seq fun K7 hK7 => ?_
    refine CW.region ?_
    refine LW.pure rfl rfl (RV.assign rfl) ?_
    refine LW.nil (hK7 _ _ ?_)
    refine CW.block ?_
    replace H : Hp w w4 [.own none 0 25 1 (List.map encH (List.zip (([] : List (Option Addr × Nat))) (([] : List (List Int))))), .tab A16_0 c16_0 25 hs16_0 3 1 (encM encN r1), .blk b1 24 [.slice A_a0_worth a0.worth.length c_a0_worth]] := H.nilOwn 25 1
    replace R0 := H.ext
    replace H := H.pick (L' := [.tab A16_0 c16_0 25 hs16_0 3 1 (encM encN r1), .own none 0 25 1 (List.map encH (List.zip (([] : List (Option Addr × Nat))) (([] : List (List Int))))), .blk b1 24 [.slice A_a0_worth a0.worth.length c_a0_worth]]) [1, 0, 2] (by decide) rfl
    replace R0 := H.ext
    refine CW.loop (fun meas ρ wl2 => ∃ (t6_4 : Int) (t7_1 : Int) (m4 : List (List Int)) (hsm4 : List (Option Addr × Nat)) (Am4 : Option Addr) (cm4 : Nat), ref04_bests_L1 a0 r1 meas t6_4 t7_1 m4 = some res ∧ ρ = [(1, .pointer (some (⟨b1, 0, none⟩))), (2, .slice none 0 0), (3, .int .i64 0), (4, .slice A16_0 r1.length c16_0), (5, .slice Am4 m4.length cm4), (6, .int .i64 t6_4), (7, .int .i64 t7_1)] ∧ Hp w wl2 [.tab A16_0 c16_0 25 hs16_0 3 1 (encM encN r1), .own Am4 cm4 25 1 (List.map encH (List.zip hsm4 m4)), .blk b1 24 [.slice A_a0_worth a0.worth.length c_a0_worth]] ∧ SubT hsm4 m4 hs16_0 r1) FU ⟨_, ?_, r3, ((0 : Int)), (([] : List (List Int))), (([] : List (Option Addr × Nat))), none, 0, F, rfl, H, SubT.nil⟩ ?_
    · exact ⟨rfl, rfl, rfl, (look_slice rfl (by first | rfl | (simp; done) | (simp; omega))), (look_slice rfl (by first | rfl | (simp; done) | (simp; omega))), rfl, rfl, trivial⟩
    rintro mk1 _ wl2 ⟨t6_4, t7_1, m4, hsm4, Am4, cm4, F, rfl, H, hsub2⟩
    have R0 := H.ext
    replace F := ref04_bests_L1_s F
    obtain ⟨mk1, rfl, F⟩ := F
    generalize hrec1 : ref04_bests_L1 a0 r1 mk1 = rec1 at F
    unfold ref04_bests_B1 at F
    refine CW.seq fun K8 hK8 => ?_
    refine CW.seq fun K9 hK9 => ?_
    refine CW.region ?_
    refine LW.pure rfl rfl (RV.move rfl) ?_
    refine LW.pure rfl rfl (RV.move rfl) ?_
    refine LW.pure rfl rfl (RV.len Ts22 rfl) ?_
    refine LW.pure rfl rfl (RV.lss rfl rfl) ?_
    refine LW.nil (hK9 _ _ ?_)
    by_cases hp1 : t7_1 < ((r1.length : Int))
    ·
      replace F := ite_y hp1 F
      have hq1 := dec_t hp1
      refine CW.condT rfl hq1 ?_
      refine CW.skip (hK8 _ _ ?_)
      refine CW.seqJ (fun ρ wl3 => (∃ (t6_2 : Int) (m2 : List (List Int)) (hsm2 : List (Option Addr × Nat)) (Am2 : Option Addr) (cm2 : Nat), ref04_bests_k2 t7_1 rec1 t6_2 m2 = some res ∧ ρ = [(1, .pointer (some (⟨b1, 0, none⟩))), (2, .slice none 0 0), (3, .int .i64 0), (4, .slice A16_0 r1.length c16_0), (5, .slice Am2 m2.length cm2), (6, .int .i64 t6_2), (7, .int .i64 t7_1)] ∧ Hp w wl3 [.tab A16_0 c16_0 25 hs16_0 3 1 (encM encN r1), .own Am2 cm2 25 1 (List.map encH (List.zip hsm2 m2)), .blk b1 24 [.slice A_a0_worth a0.worth.length c_a0_worth]] ∧ SubT hsm2 m2 hs16_0 r1)) ?_ ?_
      ·
        rintro _ wl3 ⟨t6_2, m2, hsm2, Am2, cm2, F, rfl, H, hsub3⟩
        have R0 := H.ext
        unfold ref04_bests_k2 at F
        obtain ⟨hg1, F⟩ := gd_some F
        refine CW.region ?_
        refine LW.pure rfl rfl (RV.move rfl) ?_
        refine LW.pure rfl rfl (RV.add rfl rfl hg1) ?_
        refine LW.pure rfl rfl (RV.assign rfl) ?_
        refine LW.nil ?_
        subst hrec1
        refine ⟨mk1, Nat.lt_succ_self _, _, ?_, t6_2, (t7_1 + 1), m2, hsm2, Am2, cm2, F, rfl, H, hsub3⟩
        exact ⟨rfl, rfl, rfl, (look_slice rfl (by first | rfl | (simp; done) | (simp; omega))), (look_slice rfl (by first | rfl | (simp; done) | (simp; omega))), rfl, rfl, trivial⟩
      ·
        intro K10 hK10 jK213
        refine CW.block ?_
        refine CW.seq fun K11 hK11 => ?_
        obtain ⟨x2, hbx2, hx2, F⟩ := ix_some F
        obtain ⟨r2, hr2, F⟩ := bnd_some F
        refine CW.draw [] (fun _ => True) (.cons 0 1 (.cons 1 1 (.cons 2 1 (.cons 3 1 (.cons 4 1 (.cons 5 0 (.cons 6 1 .nil))))))) mixed (by kernel_rfl) fun w5 E4 => ?_
        replace H := H.grow E4
        replace R0 := H.ext
        refine DW.fix rfl rfl rfl (fun _ EQ => RV.loadA [.slice A_a0_worth a0.worth.length c_a0_worth] Tk24 rfl ((H.grow EQ).blk 2 rfl).cells rfl rfl) ?_
        refine DW.fix rfl rfl rfl (fun _ EQ => RV.move rfl) ?_
        refine DW.fix rfl rfl rfl (fun _ EQ => RV.move rfl) ?_
        obtain ⟨B2, e2, hh2⟩ := (H.tab 0 rfl).hd hx2
        refine DW.fix rfl rfl rfl (fun _ EQ => RV.indexAddr Ts22 rfl rfl hbx2 ((H.tab 0 rfl).addr_ hx2)) ?_
        refine DW.fix rfl rfl rfl (fun _ EQ => RV.load1 Tk25 rfl (((H.grow EQ).tab 0 rfl).cell hx2 hh2) rfl) ?_
        refine DW.sole rfl rfl rfl (OW.call Tc66 rfl (ref04_worth_ok (a0 := a0) (a1 := x2) (h_a0_worth.ext R0) ((H.tab 0 rfl).rowO hx2 hh2).sl hr2) ?_)
        rintro _ w6 ⟨rfl, E5⟩
        refine ⟨_, rfl, fun _ => E5, ModX.ext E5, ?_⟩
        replace H := H.grow E5
        replace R0 := H.ext
        refine DW.fix rfl rfl rfl (fun _ EQ => RV.assign rfl) ?_
        refine DW.nil (hK11 _ _ ?_)
        refine CW.seqJ (fun ρ wl4 => (∃ (t6_3 : Int) (m3 : List (List Int)) (hsm3 : List (Option Addr × Nat)) (Am3 : Option Addr) (cm3 : Nat), ref04_bests_k3 r1 t7_1 rec1 r2 t6_3 m3 = some res ∧ ρ = [(1, .pointer (some (⟨b1, 0, none⟩))), (2, .slice none 0 0), (3, .int .i64 0), (4, .slice A16_0 r1.length c16_0), (5, .slice Am3 m3.length cm3), (6, .int .i64 t6_3), (7, .int .i64 t7_1), (8, .int .i64 r2)] ∧ Hp w wl4 [.tab A16_0 c16_0 25 hs16_0 3 1 (encM encN r1), .own Am3 cm3 25 1 (List.map encH (List.zip hsm3 m3)), .blk b1 24 [.slice A_a0_worth a0.worth.length c_a0_worth]] ∧ SubT hsm3 m3 hs16_0 r1)) ?_ ?_
        ·
          rintro _ wl4 ⟨t6_3, m3, hsm3, Am3, cm3, F, rfl, H, hsub4⟩
          have R0 := H.ext
          unfold ref04_bests_k3 at F
          refine CW.seq fun K12 hK12 => ?_
          refine CW.region ?_
          refine LW.pure rfl rfl (RV.move rfl) ?_
          refine LW.pure rfl rfl (RV.move rfl) ?_
          refine LW.pure rfl rfl (RV.eqi rfl rfl) ?_
          refine LW.nil (hK12 _ _ ?_)
          by_cases hp2 : r2 = t6_3
          ·
            replace F := ite_y hp2 F
            have hq2 := dec_t hp2
            refine CW.condT rfl hq2 ?_
            obtain ⟨x1, hbx1, hx1, F⟩ := ix_some F
            obtain ⟨hg2, F⟩ := gd_some F
            refine CW.region ?_
            refine LW.pure rfl rfl (RV.move rfl) ?_
            refine LW.pure rfl rfl (RV.move rfl) ?_
            refine LW.pure rfl rfl (RV.move rfl) ?_
            obtain ⟨B3, e3, hh3⟩ := (H.tab 0 rfl).hd hx1
            refine LW.pure rfl rfl (RV.indexAddr Ts22 rfl rfl hbx1 ((H.tab 0 rfl).addr_ hx1)) ?_
            refine LW.pure rfl rfl (RV.load1 Tk25 rfl ((H.tab 0 rfl).cell hx1 hh3) rfl) ?_
            refine LW.go rfl rfl (OW.buildSlice (e := 25) (vs := [.slice B3 x1.length e3]) (cs := [.slice B3 x1.length e3]) rfl (fun _ => by kernel_rfl) fun b2 w7 N2 => ?_)
            replace H := H.made' (k := 1) (t := 25) (enc := encH) (l := ([((B3, e3), x1)] : List ((Option Addr × Nat) × List Int))) N2 (by have q := N2.blk; simp only [List.flatMap_cons, List.flatMap_nil, encH, List.length_nil, List.append_nil, List.cons_append, List.nil_append]; first | done | exact q) (fun _ => rfl) rfl (by first | decide | omega | (simp; done) | (simp; omega))
            replace R0 := H.ext
            refine LW.go rfl rfl (OW.appendS (m := m3) (mT := r1) (hs := hsm3) (hT := hs16_0) (h := (B3, e3)) (l := x1) Ts22 rfl rfl hsub4 (H.own 2 rfl) (H.own 0 rfl).sl rfl hg2 (by decide) fun A2 c2 w8 O1 M1 D1 => ?_)
            have hsub5 : SubT (hsm3 ++ [(B3, e3)]) (m3 ++ [x1]) hs16_0 r1 := SubT.push hsub4 hh3 hx1
            replace H : Hp w w8 [.own (some ⟨b2, 0, none⟩) ((([((B3, e3), x1)] : List ((Option Addr × Nat) × List Int))).length) 25 1 (List.map encH (([((B3, e3), x1)] : List ((Option Addr × Nat) × List Int)))), .tab A16_0 c16_0 25 hs16_0 3 1 (encM encN r1), .own A2 c2 25 1 (List.map encH (List.zip ((hsm3 ++ [(B3, e3)])) ((m3 ++ [x1])))), .blk b1 24 [.slice A_a0_worth a0.worth.length c_a0_worth]] := H.mod 2 rfl M1 O1 D1
            replace R0 := H.ext
            refine LW.pure rfl rfl (RV.assign rfl) ?_
            replace H := H.pick (L' := [.tab A16_0 c16_0 25 hs16_0 3 1 (encM encN r1), .own A2 c2 25 1 (List.map encH (List.zip ((hsm3 ++ [(B3, e3)])) ((m3 ++ [x1])))), .blk b1 24 [.slice A_a0_worth a0.worth.length c_a0_worth]]) [1, 2, 3] (by decide) rfl
            replace R0 := H.ext
            refine LW.nil (jK213 _ _ ⟨_, ?_, ⟨t6_3, ((m3 ++ [x1])), ((hsm3 ++ [(B3, e3)])), A2, c2, F, rfl, H, hsub5⟩⟩)
            exact ⟨rfl, rfl, rfl, (look_slice rfl (by first | rfl | (simp; done) | (simp; omega))), (look_slice rfl (by first | rfl | (simp; done) | (simp; omega))), rfl, rfl, trivial⟩
          ·
            replace F := ite_n hp2 F
            have hq2 := dec_f hp2
            refine CW.condF rfl hq2 ?_
            refine CW.skip (jK213 _ _ ⟨_, ?_, ⟨t6_3, m3, hsm3, Am3, cm3, F, rfl, H, hsub4⟩⟩)
            exact ⟨rfl, rfl, rfl, (look_slice rfl (by first | rfl | (simp; done) | (simp; omega))), (look_slice rfl (by first | rfl | (simp; done) | (simp; omega))), rfl, rfl, trivial⟩
        ·
          intro K13 hK13 jK218
          refine CW.seq fun K14 hK14 => ?_
          refine CW.region ?_
          refine LW.pure rfl rfl (RV.move rfl) ?_
          refine LW.pure rfl rfl (RV.move rfl) ?_
          refine LW.pure rfl rfl (RV.gtr rfl rfl) ?_
          refine LW.nil (hK14 _ _ ?_)
          by_cases hp3 : t6_4 < r2
          ·
            replace F := ite_y hp3 F
            have hq3 := dec_t hp3
            refine CW.condT rfl hq3 ?_
            refine CW.seq fun K15 hK15 => ?_
            refine CW.region ?_
            refine LW.pure rfl rfl (RV.assign rfl) ?_
            refine LW.nil (hK15 _ _ ?_)
            refine CW.region ?_
            refine LW.pure rfl rfl (RV.move rfl) ?_
            refine LW.pure rfl rfl (RV.assign rfl) ?_
            replace H : Hp w w6 [.own none 0 25 1 (List.map encH (List.zip (([] : List (Option Addr × Nat))) (([] : List (List Int))))), .tab A16_0 c16_0 25 hs16_0 3 1 (encM encN r1), .own Am4 cm4 25 1 (List.map encH (List.zip hsm4 m4)), .blk b1 24 [.slice A_a0_worth a0.worth.length c_a0_worth]] := H.nilOwn 25 1
            replace R0 := H.ext
            replace H := H.pick (L' := [.tab A16_0 c16_0 25 hs16_0 3 1 (encM encN r1), .own none 0 25 1 (List.map encH (List.zip (([] : List (Option Addr × Nat))) (([] : List (List Int))))), .blk b1 24 [.slice A_a0_worth a0.worth.length c_a0_worth]]) [1, 0, 3] (by decide) rfl
            replace R0 := H.ext
            refine LW.nil (jK218 _ _ ⟨_, ?_, ⟨r2, (([] : List (List Int))), (([] : List (Option Addr × Nat))), none, 0, F, rfl, H, SubT.nil⟩⟩)
            exact ⟨rfl, rfl, rfl, (look_slice rfl (by first | rfl | (simp; done) | (simp; omega))), (look_slice rfl (by first | rfl | (simp; done) | (simp; omega))), rfl, rfl, rfl, trivial⟩
          ·
            replace F := ite_n hp3 F
            have hq3 := dec_f hp3
            refine CW.condF rfl hq3 ?_
            refine CW.skip (jK218 _ _ ⟨_, ?_, ⟨t6_4, m4, hsm4, Am4, cm4, F, rfl, H, hsub2⟩⟩)
            exact ⟨rfl, rfl, rfl, (look_slice rfl (by first | rfl | (simp; done) | (simp; omega))), (look_slice rfl (by first | rfl | (simp; done) | (simp; omega))), rfl, rfl, rfl, trivial⟩
    ·
      replace F := ite_n hp1 F
      have hq1 := dec_f hp1
      refine CW.condF rfl hq1 ?_
      replace H := H.pick (L' := [.own Am4 cm4 25 1 (List.map encH (List.zip hsm4 m4)), .tab A16_0 c16_0 25 hs16_0 3 1 (encM encN r1)]) [1, 0] (by decide) rfl
      replace R0 := H.ext
      refine CW.exit (jK168 _ _ ⟨_, ?_, ⟨t6_4, m4, hsm4, Am4, cm4, F, rfl, H, hsub2⟩⟩)
      exact ⟨rfl, rfl, (look_slice rfl (by first | rfl | (simp; done) | (simp; omega))), rfl, trivial⟩
set_option maxRecDepth 20000 in
set_option maxHeartbeats 1000000 in
theorem ref04_Best_ok {a0 : Bog} {A_a0_worth : Option Addr} {c_a0_worth : Nat} {w : World} {res : (List Int) × Int × Int} (h_a0_worth : Sl2 w A_a0_worth c_a0_worth 1 encN a0.worth) (F : ref04_Best a0 = some res) : Calls Try.prog 29 #[.agg #[.slice A_a0_worth a0.worth.length c_a0_worth]] w (fun e w' => ∃ (A0 : Option Addr) (c0 : Nat), e = .returned (.tuple #[.slice A0 res.1.length c0, .int .i64 res.2.1, .int .i64 res.2.2]) ∧ Hp w w' [.own A0 c0 3 1 (List.map encN res.1)]) := by
  refine calls_of_cw (args := [.agg #[.slice A_a0_worth a0.worth.length c_a0_worth]]) Try.func29 rfl rfl rfl rfl ?_
  have H := Hp.start w
  have R0 := H.ext
  unfold ref04_Best at F
  refine CW.seq fun K1 hK1 => ?_
  refine CW.region ?_
  refine LW.go rfl rfl (OW.box rfl fun b1 w1 N1 => ?_)
  replace H := H.new N1 N1.blk
  replace R0 := H.ext
  refine LW.pure rfl rfl (RV.assign rfl) ?_
  refine LW.pure rfl rfl (RV.assign rfl) ?_
  refine LW.pure rfl rfl (RV.assign rfl) ?_
  refine LW.nil (hK1 _ _ ?_)
  refine CW.seq fun K2 hK2 => ?_
  obtain ⟨r1, hr1, F⟩ := bnd_some F
  refine CW.region ?_
  refine LW.pure rfl rfl (RV.loadA [.slice A_a0_worth a0.worth.length c_a0_worth] Tk24 rfl (H.blk 0 rfl).cells rfl rfl) ?_
  refine LW.go rfl rfl (OW.call Tc26 rfl (ref04_Validate_ok (a0 := a0) (h_a0_worth.ext R0) hr1) ?_)
  rintro _ w2 ⟨rfl, E1⟩
  refine ⟨_, rfl, ?_⟩
  replace H := H.grow E1
  replace R0 := H.ext
  refine LW.pure rfl rfl (RV.assign rfl) ?_
  refine LW.nil (hK2 _ _ ?_)
  refine CW.seq fun K3 hK3 => ?_
  refine CW.seq fun K4 hK4 => ?_
  refine CW.region ?_
  refine LW.pure rfl rfl (RV.move rfl) ?_
  refine LW.pure rfl rfl (RV.nei rfl rfl) ?_
  refine LW.nil (hK4 _ _ ?_)
  by_cases hp1 : r1 = 0
  ·
    replace F := ite_y hp1 F
    have hq1 := dec_t hp1
    refine CW.condF rfl (not_f hq1) ?_
    refine CW.skip (hK3 _ _ ?_)
    refine CW.seq fun K5 hK5 => ?_
    obtain ⟨r2, hr2, F⟩ := bnd_some F
    refine CW.region ?_
    refine LW.pure rfl rfl (RV.loadA [.slice A_a0_worth a0.worth.length c_a0_worth] Tk24 rfl (H.blk 0 rfl).cells rfl rfl) ?_
    refine LW.go rfl rfl (OW.call Tc75 rfl (ref04_bests_ok (a0 := a0) (h_a0_worth.ext R0) hr2) ?_)
    rintro _ w3 ⟨A7_0, c7_0, rfl, S7_0, E2⟩
    refine ⟨_, rfl, ?_⟩
    replace H := H.grow E2
    replace R0 := H.ext
    refine LW.pure rfl rfl (RV.move rfl) ?_
    refine LW.pure rfl rfl (RV.extract rfl rfl) ?_
    refine LW.pure rfl rfl (RV.extract rfl rfl) ?_
    refine LW.pure rfl rfl (RV.assign rfl) ?_
    refine LW.pure rfl rfl (RV.assign rfl) ?_
    refine LW.nil (hK5 _ _ ?_)
    refine CW.seq fun K6 hK6 => ?_
    obtain ⟨r3, hr3, F⟩ := bnd_some F
    refine CW.region ?_
    refine LW.pure rfl rfl (RV.move rfl) ?_
    refine LW.go rfl rfl (OW.call Tc76 rfl (ref04_least_ok (a0 := r2.1) S7_0 hr3) ?_)
    rintro _ w4 ⟨A9_0, c9_0, rfl, E3⟩
    refine ⟨_, rfl, ?_⟩
    have S7_0 := S7_0.ext E3.ext
    replace H : Hp w w4 [.own A9_0 c9_0 3 1 (List.map encN r3), .blk b1 24 [.slice A_a0_worth a0.worth.length c_a0_worth]] := H.append E3
    replace R0 := H.ext
    refine LW.pure rfl rfl (RV.move rfl) ?_
    refine LW.pure rfl rfl (RV.assign rfl) ?_
    refine LW.pure rfl rfl (RV.assign rfl) ?_
    refine LW.pure rfl rfl (RV.assign rfl) ?_
    refine LW.nil (hK6 _ _ ?_)
    refine CW.ret ?_
    obtain rfl := Option.some.inj F
    refine ⟨_, (ResOK.three rfl rfl rfl), ?_⟩
    replace H := H.pick (L' := [.own A9_0 c9_0 3 1 (List.map encN r3)]) [0] (by decide) rfl
    replace R0 := H.ext
    exact ⟨A9_0, c9_0, (by first | rfl | (simp; done) | (simp; omega)), H⟩
  ·
    replace F := ite_n hp1 F
    have hq1 := dec_f hp1
    refine CW.condT rfl (not_t hq1) ?_
    refine CW.seq fun K7 hK7 => ?_
    refine CW.region ?_
    refine LW.pure rfl rfl (RV.move rfl) ?_
    refine LW.pure rfl rfl (RV.assign rfl) ?_
    refine LW.pure rfl rfl (RV.assign rfl) ?_
    refine LW.pure rfl rfl (RV.assign rfl) ?_
    refine LW.nil (hK7 _ _ ?_)
    refine CW.ret ?_
    obtain rfl := Option.some.inj F
    refine ⟨_, (ResOK.three rfl rfl rfl), ?_⟩
    replace H := H.nilOwn 3 1
    replace R0 := H.ext
    replace H := H.pick (L' := [.own none 0 3 1 (List.map encN (([] : List Int)))]) [0] (by decide) rfl
    replace R0 := H.ext
    exact ⟨none, 0, (by first | rfl | (simp; done) | (simp; omega)), H⟩
set_option maxRecDepth 20000 in
set_option maxHeartbeats 1000000 in
theorem ref04_Deepest_ok {a0 : Bog} {A_a0_worth : Option Addr} {c_a0_worth : Nat} {w : World} {res : (List Int) × Int × Int} (h_a0_worth : Sl2 w A_a0_worth c_a0_worth 1 encN a0.worth) (F : ref04_Deepest a0 = some res) : Calls Try.prog 31 #[.agg #[.slice A_a0_worth a0.worth.length c_a0_worth]] w (fun e w' => ∃ (A0 : Option Addr) (c0 : Nat), e = .returned (.tuple #[.slice A0 res.1.length c0, .int .i64 res.2.1, .int .i64 res.2.2]) ∧ Hp w w' [.own A0 c0 3 1 (List.map encN res.1)]) := by
  refine calls_of_cw (args := [.agg #[.slice A_a0_worth a0.worth.length c_a0_worth]]) Try.func31 rfl rfl rfl rfl ?_
  have H := Hp.start w
  have R0 := H.ext
  unfold ref04_Deepest at F
  refine CW.seq fun K1 hK1 => ?_
  refine CW.region ?_
  refine LW.go rfl rfl (OW.box rfl fun b1 w1 N1 => ?_)
  replace H := H.new N1 N1.blk
  replace R0 := H.ext
  refine LW.pure rfl rfl (RV.assign rfl) ?_
  refine LW.pure rfl rfl (RV.assign rfl) ?_
  refine LW.pure rfl rfl (RV.assign rfl) ?_
  refine LW.nil (hK1 _ _ ?_)
  refine CW.seq fun K2 hK2 => ?_
  obtain ⟨r1, hr1, F⟩ := bnd_some F
  refine CW.region ?_
  refine LW.pure rfl rfl (RV.loadA [.slice A_a0_worth a0.worth.length c_a0_worth] Tk24 rfl (H.blk 0 rfl).cells rfl rfl) ?_
  refine LW.go rfl rfl (OW.call Tc26 rfl (ref04_Validate_ok (a0 := a0) (h_a0_worth.ext R0) hr1) ?_)
  rintro _ w2 ⟨rfl, E1⟩
  refine ⟨_, rfl, ?_⟩
  replace H := H.grow E1
  replace R0 := H.ext
  refine LW.pure rfl rfl (RV.assign rfl) ?_
  refine LW.nil (hK2 _ _ ?_)
  refine CW.seq fun K3 hK3 => ?_
  refine CW.seq fun K4 hK4 => ?_
  refine CW.region ?_
  refine LW.pure rfl rfl (RV.move rfl) ?_
  refine LW.pure rfl rfl (RV.nei rfl rfl) ?_
  refine LW.nil (hK4 _ _ ?_)
  by_cases hp1 : r1 = 0
  ·
    replace F := ite_y hp1 F
    have hq1 := dec_t hp1
    refine CW.condF rfl (not_f hq1) ?_
    refine CW.skip (hK3 _ _ ?_)
    refine CW.seq fun K5 hK5 => ?_
    obtain ⟨r2, hr2, F⟩ := bnd_some F
    refine CW.region ?_
    refine LW.pure rfl rfl (RV.loadA [.slice A_a0_worth a0.worth.length c_a0_worth] Tk24 rfl (H.blk 0 rfl).cells rfl rfl) ?_
    refine LW.go rfl rfl (OW.call Tc75 rfl (ref04_bests_ok (a0 := a0) (h_a0_worth.ext R0) hr2) ?_)
    rintro _ w3 ⟨A7_0, c7_0, rfl, S7_0, E2⟩
    refine ⟨_, rfl, ?_⟩
    replace H := H.grow E2
    replace R0 := H.ext
    refine LW.pure rfl rfl (RV.move rfl) ?_
    refine LW.pure rfl rfl (RV.extract rfl rfl) ?_
    refine LW.pure rfl rfl (RV.extract rfl rfl) ?_
    refine LW.pure rfl rfl (RV.assign rfl) ?_
    refine LW.pure rfl rfl (RV.assign rfl) ?_
    refine LW.nil (hK5 _ _ ?_)
    refine CW.seq fun K6 hK6 => ?_
    obtain ⟨r3, hr3, F⟩ := bnd_some F
    refine CW.region ?_
    refine LW.pure rfl rfl (RV.move rfl) ?_
    refine LW.go rfl rfl (OW.call Tc78 rfl (ref04_most_ok (a0 := r2.1) S7_0 hr3) ?_)
    rintro _ w4 ⟨A9_0, c9_0, rfl, E3⟩
    refine ⟨_, rfl, ?_⟩
    have S7_0 := S7_0.ext E3.ext
    replace H : Hp w w4 [.own A9_0 c9_0 3 1 (List.map encN r3), .blk b1 24 [.slice A_a0_worth a0.worth.length c_a0_worth]] := H.append E3
    replace R0 := H.ext
    refine LW.pure rfl rfl (RV.move rfl) ?_
    refine LW.pure rfl rfl (RV.assign rfl) ?_
    refine LW.pure rfl rfl (RV.assign rfl) ?_
    refine LW.pure rfl rfl (RV.assign rfl) ?_
    refine LW.nil (hK6 _ _ ?_)
    refine CW.ret ?_
    obtain rfl := Option.some.inj F
    refine ⟨_, (ResOK.three rfl rfl rfl), ?_⟩
    replace H := H.pick (L' := [.own A9_0 c9_0 3 1 (List.map encN r3)]) [0] (by decide) rfl
    replace R0 := H.ext
    exact ⟨A9_0, c9_0, (by first | rfl | (simp; done) | (simp; omega)), H⟩
  ·
    replace F := ite_n hp1 F
    have hq1 := dec_f hp1
    refine CW.condT rfl (not_t hq1) ?_
    refine CW.seq fun K7 hK7 => ?_
    refine CW.region ?_
    refine LW.pure rfl rfl (RV.move rfl) ?_
    refine LW.pure rfl rfl (RV.assign rfl) ?_
    refine LW.pure rfl rfl (RV.assign rfl) ?_
    refine LW.pure rfl rfl (RV.assign rfl) ?_
    refine LW.nil (hK7 _ _ ?_)
    refine CW.ret ?_
    obtain rfl := Option.some.inj F
    refine ⟨_, (ResOK.three rfl rfl rfl), ?_⟩
    replace H := H.nilOwn 3 1
    replace R0 := H.ext
    replace H := H.pick (L' := [.own none 0 3 1 (List.map encN (([] : List Int)))]) [0] (by decide) rfl
    replace R0 := H.ext
    exact ⟨none, 0, (by first | rfl | (simp; done) | (simp; omega)), H⟩
end Go.D4

set_option linter.unusedVariables false
set_option linter.unusedSimpArgs false
namespace Go.D4
open Go.Tb Go.Proofs Go.RowKit
theorem Tc29 : callable Try.prog 29 = true := by kernel_rfl
theorem Tc31 : callable Try.prog 31 = true := by kernel_rfl
set_option maxRecDepth 20000 in
set_option maxHeartbeats 1000000 in
theorem law04_CutBests_ok {a0 : Bog} {A_a0_worth : Option Addr} {c_a0_worth : Nat} {w : World} {res : Bool} (h_a0_worth : Sl2 w A_a0_worth c_a0_worth 1 encN a0.worth) (F : law04_CutBests a0 = some res) : Calls Try.prog 5 #[.agg #[.slice A_a0_worth a0.worth.length c_a0_worth]] w (Rt w (.bool res)) := by
  refine calls_of_cw (args := [.agg #[.slice A_a0_worth a0.worth.length c_a0_worth]]) Try.func5 rfl rfl rfl rfl ?_
  have H := Hp.start w
  have R0 := H.ext
  unfold law04_CutBests at F
  refine CW.seq fun K1 hK1 => ?_
  refine CW.region ?_
  refine LW.go rfl rfl (OW.box rfl fun b1 w1 N1 => ?_)
  replace H := H.new N1 N1.blk
  replace R0 := H.ext
  refine LW.pure rfl rfl (RV.assign rfl) ?_
  refine LW.nil (hK1 _ _ ?_)
  refine CW.seq fun K2 hK2 => ?_
  refine CW.seq fun K3 hK3 => ?_
  obtain ⟨r1, hr1, F⟩ := bnd_some F
  refine CW.region ?_
  refine LW.pure rfl rfl (RV.loadA [.slice A_a0_worth a0.worth.length c_a0_worth] Tk24 rfl (H.blk 0 rfl).cells rfl rfl) ?_
  refine LW.go rfl rfl (OW.call Tc17 rfl (law04_Long_ok (a0 := a0) (a1 := ([] : List (List Int))) (h_a0_worth.ext R0) (Sl2.nil_) hr1) ?_)
  rintro _ w2 ⟨rfl, E1⟩
  refine ⟨_, rfl, ?_⟩
  replace H := H.grow E1
  replace R0 := H.ext
  refine LW.nil (hK3 _ _ ?_)
  by_cases hp1 : r1 = true
  ·
    replace F := ite_y hp1 F
    have hq1 : r1 = true := hp1
    refine CW.condT rfl hq1 ?_
    refine CW.seq fun K4 hK4 => ?_
    obtain ⟨r2, hr2, F⟩ := bnd_some F
    refine CW.region ?_
    refine LW.go rfl rfl (OW.call Tc18 rfl (law04_sane_ok hr2) ?_)
    rintro _ w3 ⟨rfl, E2⟩
    refine ⟨_, rfl, ?_⟩
    replace H := H.grow E2
    replace R0 := H.ext
    refine LW.pure rfl rfl (RV.assign rfl) ?_
    refine LW.nil (hK4 _ _ ?_)
    refine CW.ret ?_
    obtain rfl := Option.some.inj F
    refine ⟨_, (ResOK.one rfl), ?_⟩
    refine ⟨(by first | rfl | simp), R0⟩
  ·
    replace F := ite_n hp1 F
    have hq1 : r1 = false := raw_f hp1
    refine CW.condF rfl hq1 ?_
    refine CW.skip (hK2 _ _ ?_)
    refine CW.seq fun K5 hK5 => ?_
    obtain ⟨r3, hr3, F⟩ := bnd_some F
    refine CW.region ?_
    refine LW.pure rfl rfl (RV.loadA [.slice A_a0_worth a0.worth.length c_a0_worth] Tk24 rfl (H.blk 0 rfl).cells rfl rfl) ?_
    refine LW.go rfl rfl (OW.call Tc28 rfl (cut_Best_ok (a0 := a0) (h_a0_worth.ext R0) hr3) ?_)
    rintro _ w4 ⟨A16_0, c16_0, rfl, E3⟩
    refine ⟨_, rfl, ?_⟩
    replace H : Hp w w4 [.own A16_0 c16_0 3 1 (List.map encN r3.1), .blk b1 24 [.slice A_a0_worth a0.worth.length c_a0_worth]] := H.append E3
    replace R0 := H.ext
    refine LW.pure rfl rfl (RV.move rfl) ?_
    refine LW.pure rfl rfl (RV.extract rfl rfl) ?_
    refine LW.pure rfl rfl (RV.extract rfl rfl) ?_
    refine LW.pure rfl rfl (RV.extract rfl rfl) ?_
    refine LW.pure rfl rfl (RV.assign rfl) ?_
    refine LW.pure rfl rfl (RV.assign rfl) ?_
    refine LW.pure rfl rfl (RV.assign rfl) ?_
    refine LW.nil (hK5 _ _ ?_)
    refine CW.seq fun K6 hK6 => ?_
    obtain ⟨r4, hr4, F⟩ := bnd_some F
    refine CW.region ?_
    refine LW.pure rfl rfl (RV.loadA [.slice A_a0_worth a0.worth.length c_a0_worth] Tk24 rfl (H.blk 1 rfl).cells rfl rfl) ?_
    refine LW.go rfl rfl (OW.call Tc29 rfl (ref04_Best_ok (a0 := a0) (h_a0_worth.ext R0) hr4) ?_)
    rintro _ w5 ⟨A18_0, c18_0, rfl, E4⟩
    refine ⟨_, rfl, ?_⟩
    replace H : Hp w w5 [.own A18_0 c18_0 3 1 (List.map encN r4.1), .own A16_0 c16_0 3 1 (List.map encN r3.1), .blk b1 24 [.slice A_a0_worth a0.worth.length c_a0_worth]] := H.append E4
    replace R0 := H.ext
    refine LW.pure rfl rfl (RV.move rfl) ?_
    refine LW.pure rfl rfl (RV.extract rfl rfl) ?_
    refine LW.pure rfl rfl (RV.extract rfl rfl) ?_
    refine LW.pure rfl rfl (RV.extract rfl rfl) ?_
    refine LW.pure rfl rfl (RV.assign rfl) ?_
    refine LW.pure rfl rfl (RV.assign rfl) ?_
    refine LW.pure rfl rfl (RV.assign rfl) ?_
    refine LW.nil (hK6 _ _ ?_)
    refine CW.seq fun K7 hK7 => ?_
    obtain ⟨r5, hr5, F⟩ := bnd_some F
    refine CW.region ?_
    refine LW.pure rfl rfl (RV.loadA [.slice A_a0_worth a0.worth.length c_a0_worth] Tk24 rfl (H.blk 2 rfl).cells rfl rfl) ?_
    refine LW.go rfl rfl (OW.call Tc30 rfl (cut_Deepest_ok (a0 := a0) (h_a0_worth.ext R0) hr5) ?_)
    rintro _ w6 ⟨A20_0, c20_0, rfl, E5⟩
    refine ⟨_, rfl, ?_⟩
    replace H : Hp w w6 [.own A20_0 c20_0 3 1 (List.map encN r5.1), .own A18_0 c18_0 3 1 (List.map encN r4.1), .own A16_0 c16_0 3 1 (List.map encN r3.1), .blk b1 24 [.slice A_a0_worth a0.worth.length c_a0_worth]] := H.append E5
    replace R0 := H.ext
    refine LW.pure rfl rfl (RV.move rfl) ?_
    refine LW.pure rfl rfl (RV.extract rfl rfl) ?_
    refine LW.pure rfl rfl (RV.extract rfl rfl) ?_
    refine LW.pure rfl rfl (RV.extract rfl rfl) ?_
    refine LW.pure rfl rfl (RV.assign rfl) ?_
    refine LW.pure rfl rfl (RV.assign rfl) ?_
    refine LW.pure rfl rfl (RV.assign rfl) ?_
    refine LW.nil (hK7 _ _ ?_)
    refine CW.seq fun K8 hK8 => ?_
    obtain ⟨r6, hr6, F⟩ := bnd_some F
    refine CW.region ?_
    refine LW.pure rfl rfl (RV.loadA [.slice A_a0_worth a0.worth.length c_a0_worth] Tk24 rfl (H.blk 3 rfl).cells rfl rfl) ?_
    refine LW.go rfl rfl (OW.call Tc31 rfl (ref04_Deepest_ok (a0 := a0) (h_a0_worth.ext R0) hr6) ?_)
    rintro _ w7 ⟨A22_0, c22_0, rfl, E6⟩
    refine ⟨_, rfl, ?_⟩
    replace H : Hp w w7 [.own A22_0 c22_0 3 1 (List.map encN r6.1), .own A20_0 c20_0 3 1 (List.map encN r5.1), .own A18_0 c18_0 3 1 (List.map encN r4.1), .own A16_0 c16_0 3 1 (List.map encN r3.1), .blk b1 24 [.slice A_a0_worth a0.worth.length c_a0_worth]] := H.append E6
    replace R0 := H.ext
    refine LW.pure rfl rfl (RV.move rfl) ?_
    refine LW.pure rfl rfl (RV.extract rfl rfl) ?_
    refine LW.pure rfl rfl (RV.extract rfl rfl) ?_
    refine LW.pure rfl rfl (RV.extract rfl rfl) ?_
    refine LW.pure rfl rfl (RV.assign rfl) ?_
    refine LW.pure rfl rfl (RV.assign rfl) ?_
    refine LW.pure rfl rfl (RV.assign rfl) ?_
    refine LW.nil (hK8 _ _ ?_)
    refine CW.seq fun K9 hK9 => ?_
    obtain ⟨r7, hr7, F⟩ := bnd_some F
    by_cases hp2 : r7 = true
    ·
      replace F := ite_y hp2 F
      have hq2 : r7 = true := hp2
      by_cases hp3 : r3.2.1 = r4.2.1
      ·
        replace F := ite_y hp3 F
        have hq3 := dec_t hp3
        by_cases hp4 : r3.2.2 = r4.2.2
        ·
          replace F := ite_y hp4 F
          have hq4 := dec_t hp4
          obtain ⟨r8, hr8, F⟩ := bnd_some F
          by_cases hp5 : r8 = true
          ·
            replace F := ite_y hp5 F
            have hq5 : r8 = true := hp5
            by_cases hp6 : r5.2.1 = r6.2.1
            ·
              replace F := ite_y hp6 F
              have hq6 := dec_t hp6
              by_cases hp7 : r5.2.2 = r6.2.2
              ·
                replace F := ite_y hp7 F
                have hq7 := dec_t hp7
                by_cases hp8 : r3.2.1 = r5.2.1
                ·
                  replace F := ite_y hp8 F
                  have hq8 := dec_t hp8
                  obtain ⟨r9, hr9, F⟩ := bnd_some F
                  by_cases hp9 : r9 = true
                  ·
                    replace F := ite_y hp9 F
                    have hq9 : r9 = true := hp9
                    obtain ⟨r10, hr10, F⟩ := bnd_some F
                    refine CW.region ?_
                    refine LW.pure rfl rfl (RV.move rfl) ?_
                    refine LW.pure rfl rfl (RV.move rfl) ?_
                    refine LW.go rfl rfl (OW.call Tc21 rfl (ref04_SameInts_ok (a0 := r3.1) (a1 := r4.1) (H.own 3 rfl).sl (H.own 2 rfl).sl hr7) ?_)
                    rintro _ w8 ⟨rfl, E7⟩
                    refine ⟨_, rfl, ?_⟩
                    replace H := H.grow E7
                    replace R0 := H.ext
                    refine LW.pure rfl rfl (RV.move rfl) ?_
                    refine LW.pureYB rfl rfl rfl rfl hq2 (RV.move rfl) ?_
                    refine LW.pureYB rfl rfl rfl rfl hq2 (RV.move rfl) ?_
                    refine LW.pureYB rfl rfl rfl rfl hq2 (RV.eqi rfl rfl) ?_
                    refine LW.pure rfl rfl (RV.pickTB rfl hq2 rfl) ?_
                    refine LW.pure rfl rfl (RV.move rfl) ?_
                    refine LW.pureYB rfl rfl rfl rfl hq3 (RV.move rfl) ?_
                    refine LW.pureYB rfl rfl rfl rfl hq3 (RV.move rfl) ?_
                    refine LW.pureYB rfl rfl rfl rfl hq3 (RV.eqi rfl rfl) ?_
                    refine LW.pure rfl rfl (RV.pickTB rfl hq3 rfl) ?_
                    refine LW.pure rfl rfl (RV.move rfl) ?_
                    refine LW.pureYB rfl rfl rfl rfl hq4 (RV.move rfl) ?_
                    refine LW.pureYB rfl rfl rfl rfl hq4 (RV.move rfl) ?_
                    refine LW.yesB rfl rfl rfl rfl hq4 (OW.call Tc21 rfl (ref04_SameInts_ok (a0 := r5.1) (a1 := r6.1) (H.own 1 rfl).sl (H.own 0 rfl).sl hr8) ?_)
                    rintro _ w9 ⟨rfl, E8⟩
                    refine ⟨_, rfl, ?_⟩
                    replace H := H.grow E8
                    replace R0 := H.ext
                    refine LW.pure rfl rfl (RV.pickTB rfl hq4 rfl) ?_
                    refine LW.pure rfl rfl (RV.move rfl) ?_
                    refine LW.pureYB rfl rfl rfl rfl hq5 (RV.move rfl) ?_
                    refine LW.pureYB rfl rfl rfl rfl hq5 (RV.move rfl) ?_
                    refine LW.pureYB rfl rfl rfl rfl hq5 (RV.eqi rfl rfl) ?_
                    refine LW.pure rfl rfl (RV.pickTB rfl hq5 rfl) ?_
                    refine LW.pure rfl rfl (RV.move rfl) ?_
                    refine LW.pureYB rfl rfl rfl rfl hq6 (RV.move rfl) ?_
                    refine LW.pureYB rfl rfl rfl rfl hq6 (RV.move rfl) ?_
                    refine LW.pureYB rfl rfl rfl rfl hq6 (RV.eqi rfl rfl) ?_
                    refine LW.pure rfl rfl (RV.pickTB rfl hq6 rfl) ?_
                    refine LW.pure rfl rfl (RV.move rfl) ?_
                    refine LW.pureYB rfl rfl rfl rfl hq7 (RV.move rfl) ?_
                    refine LW.pureYB rfl rfl rfl rfl hq7 (RV.move rfl) ?_
                    refine LW.pureYB rfl rfl rfl rfl hq7 (RV.eqi rfl rfl) ?_
                    refine LW.pure rfl rfl (RV.pickTB rfl hq7 rfl) ?_
                    refine LW.pure rfl rfl (RV.move rfl) ?_
                    refine LW.pureYB rfl rfl rfl rfl hq8 (RV.move rfl) ?_
                    refine LW.pureYB rfl rfl rfl rfl hq8 (RV.move rfl) ?_
                    refine LW.yesB rfl rfl rfl rfl hq8 (OW.call Tc32 rfl (ref04_LiesIn_ok (a0 := r3.1) (a1 := r5.1) (H.own 3 rfl).sl (H.own 1 rfl).sl hr9) ?_)
                    rintro _ w10 ⟨rfl, E9⟩
                    refine ⟨_, rfl, ?_⟩
                    replace H := H.grow E9
                    replace R0 := H.ext
                    refine LW.pure rfl rfl (RV.pickTB rfl hq8 rfl) ?_
                    refine LW.pure rfl rfl (RV.move rfl) ?_
                    refine LW.yesB rfl rfl rfl rfl hq9 (OW.call Tc18 rfl (law04_sane_ok hr10) ?_)
                    rintro _ w11 ⟨rfl, E10⟩
                    refine ⟨_, rfl, ?_⟩
                    replace H := H.grow E10
                    replace R0 := H.ext
                    refine LW.pure rfl rfl (RV.pickTB rfl hq9 rfl) ?_
                    refine LW.pure rfl rfl (RV.assign rfl) ?_
                    refine LW.nil (hK9 _ _ ?_)
                    refine CW.ret ?_
                    obtain rfl := Option.some.inj F
                    refine ⟨_, (ResOK.one rfl), ?_⟩
                    refine ⟨(by first | rfl | simp), R0⟩
                  ·
                    replace F := ite_n hp9 F
                    have hq9 : r9 = false := raw_f hp9
                    refine CW.region ?_
                    refine LW.pure rfl rfl (RV.move rfl) ?_
                    refine LW.pure rfl rfl (RV.move rfl) ?_
                    refine LW.go rfl rfl (OW.call Tc21 rfl (ref04_SameInts_ok (a0 := r3.1) (a1 := r4.1) (H.own 3 rfl).sl (H.own 2 rfl).sl hr7) ?_)
                    rintro _ w12 ⟨rfl, E11⟩
                    refine ⟨_, rfl, ?_⟩
                    replace H := H.grow E11
                    replace R0 := H.ext
                    refine LW.pure rfl rfl (RV.move rfl) ?_
                    refine LW.pureYB rfl rfl rfl rfl hq2 (RV.move rfl) ?_
                    refine LW.pureYB rfl rfl rfl rfl hq2 (RV.move rfl) ?_
                    refine LW.pureYB rfl rfl rfl rfl hq2 (RV.eqi rfl rfl) ?_
                    refine LW.pure rfl rfl (RV.pickTB rfl hq2 rfl) ?_
                    refine LW.pure rfl rfl (RV.move rfl) ?_
                    refine LW.pureYB rfl rfl rfl rfl hq3 (RV.move rfl) ?_
                    refine LW.pureYB rfl rfl rfl rfl hq3 (RV.move rfl) ?_
                    refine LW.pureYB rfl rfl rfl rfl hq3 (RV.eqi rfl rfl) ?_
                    refine LW.pure rfl rfl (RV.pickTB rfl hq3 rfl) ?_
                    refine LW.pure rfl rfl (RV.move rfl) ?_
                    refine LW.pureYB rfl rfl rfl rfl hq4 (RV.move rfl) ?_
                    refine LW.pureYB rfl rfl rfl rfl hq4 (RV.move rfl) ?_
                    refine LW.yesB rfl rfl rfl rfl hq4 (OW.call Tc21 rfl (ref04_SameInts_ok (a0 := r5.1) (a1 := r6.1) (H.own 1 rfl).sl (H.own 0 rfl).sl hr8) ?_)
                    rintro _ w13 ⟨rfl, E12⟩
                    refine ⟨_, rfl, ?_⟩
                    replace H := H.grow E12
                    replace R0 := H.ext
                    refine LW.pure rfl rfl (RV.pickTB rfl hq4 rfl) ?_
                    refine LW.pure rfl rfl (RV.move rfl) ?_
                    refine LW.pureYB rfl rfl rfl rfl hq5 (RV.move rfl) ?_
                    refine LW.pureYB rfl rfl rfl rfl hq5 (RV.move rfl) ?_
                    refine LW.pureYB rfl rfl rfl rfl hq5 (RV.eqi rfl rfl) ?_
                    refine LW.pure rfl rfl (RV.pickTB rfl hq5 rfl) ?_
                    refine LW.pure rfl rfl (RV.move rfl) ?_
                    refine LW.pureYB rfl rfl rfl rfl hq6 (RV.move rfl) ?_
                    refine LW.pureYB rfl rfl rfl rfl hq6 (RV.move rfl) ?_
                    refine LW.pureYB rfl rfl rfl rfl hq6 (RV.eqi rfl rfl) ?_
                    refine LW.pure rfl rfl (RV.pickTB rfl hq6 rfl) ?_
                    refine LW.pure rfl rfl (RV.move rfl) ?_
                    refine LW.pureYB rfl rfl rfl rfl hq7 (RV.move rfl) ?_
                    refine LW.pureYB rfl rfl rfl rfl hq7 (RV.move rfl) ?_
                    refine LW.pureYB rfl rfl rfl rfl hq7 (RV.eqi rfl rfl) ?_
                    refine LW.pure rfl rfl (RV.pickTB rfl hq7 rfl) ?_
                    refine LW.pure rfl rfl (RV.move rfl) ?_
                    refine LW.pureYB rfl rfl rfl rfl hq8 (RV.move rfl) ?_
                    refine LW.pureYB rfl rfl rfl rfl hq8 (RV.move rfl) ?_
                    refine LW.yesB rfl rfl rfl rfl hq8 (OW.call Tc32 rfl (ref04_LiesIn_ok (a0 := r3.1) (a1 := r5.1) (H.own 3 rfl).sl (H.own 1 rfl).sl hr9) ?_)
                    rintro _ w14 ⟨rfl, E13⟩
                    refine ⟨_, rfl, ?_⟩
                    replace H := H.grow E13
                    replace R0 := H.ext
                    refine LW.pure rfl rfl (RV.pickTB rfl hq8 rfl) ?_
                    refine LW.pure rfl rfl (RV.move rfl) ?_
                    refine LW.noB rfl rfl rfl rfl (ne_beq (v := false) hq9 rfl) ?_
                    refine LW.pure rfl rfl (RV.pickFB rfl hq9 rfl) ?_
                    refine LW.pure rfl rfl (RV.assign rfl) ?_
                    refine LW.nil (hK9 _ _ ?_)
                    refine CW.ret ?_
                    obtain rfl := Option.some.inj F
                    refine ⟨_, (ResOK.one rfl), ?_⟩
                    refine ⟨(by first | rfl | simp), R0⟩
                ·
                  replace F := ite_n hp8 F
                  have hq8 := dec_f hp8
                  refine CW.region ?_
                  refine LW.pure rfl rfl (RV.move rfl) ?_
                  refine LW.pure rfl rfl (RV.move rfl) ?_
                  refine LW.go rfl rfl (OW.call Tc21 rfl (ref04_SameInts_ok (a0 := r3.1) (a1 := r4.1) (H.own 3 rfl).sl (H.own 2 rfl).sl hr7) ?_)
                  rintro _ w15 ⟨rfl, E14⟩
                  refine ⟨_, rfl, ?_⟩
                  replace H := H.grow E14
                  replace R0 := H.ext
                  refine LW.pure rfl rfl (RV.move rfl) ?_
                  refine LW.pureYB rfl rfl rfl rfl hq2 (RV.move rfl) ?_
                  refine LW.pureYB rfl rfl rfl rfl hq2 (RV.move rfl) ?_
                  refine LW.pureYB rfl rfl rfl rfl hq2 (RV.eqi rfl rfl) ?_
                  refine LW.pure rfl rfl (RV.pickTB rfl hq2 rfl) ?_
                  refine LW.pure rfl rfl (RV.move rfl) ?_
                  refine LW.pureYB rfl rfl rfl rfl hq3 (RV.move rfl) ?_
                  refine LW.pureYB rfl rfl rfl rfl hq3 (RV.move rfl) ?_
                  refine LW.pureYB rfl rfl rfl rfl hq3 (RV.eqi rfl rfl) ?_
                  refine LW.pure rfl rfl (RV.pickTB rfl hq3 rfl) ?_
                  refine LW.pure rfl rfl (RV.move rfl) ?_
                  refine LW.pureYB rfl rfl rfl rfl hq4 (RV.move rfl) ?_
                  refine LW.pureYB rfl rfl rfl rfl hq4 (RV.move rfl) ?_
                  refine LW.yesB rfl rfl rfl rfl hq4 (OW.call Tc21 rfl (ref04_SameInts_ok (a0 := r5.1) (a1 := r6.1) (H.own 1 rfl).sl (H.own 0 rfl).sl hr8) ?_)
                  rintro _ w16 ⟨rfl, E15⟩
                  refine ⟨_, rfl, ?_⟩
                  replace H := H.grow E15
                  replace R0 := H.ext
                  refine LW.pure rfl rfl (RV.pickTB rfl hq4 rfl) ?_
                  refine LW.pure rfl rfl (RV.move rfl) ?_
                  refine LW.pureYB rfl rfl rfl rfl hq5 (RV.move rfl) ?_
                  refine LW.pureYB rfl rfl rfl rfl hq5 (RV.move rfl) ?_
                  refine LW.pureYB rfl rfl rfl rfl hq5 (RV.eqi rfl rfl) ?_
                  refine LW.pure rfl rfl (RV.pickTB rfl hq5 rfl) ?_
                  refine LW.pure rfl rfl (RV.move rfl) ?_
                  refine LW.pureYB rfl rfl rfl rfl hq6 (RV.move rfl) ?_
                  refine LW.pureYB rfl rfl rfl rfl hq6 (RV.move rfl) ?_
                  refine LW.pureYB rfl rfl rfl rfl hq6 (RV.eqi rfl rfl) ?_
                  refine LW.pure rfl rfl (RV.pickTB rfl hq6 rfl) ?_
                  refine LW.pure rfl rfl (RV.move rfl) ?_
                  refine LW.pureYB rfl rfl rfl rfl hq7 (RV.move rfl) ?_
                  refine LW.pureYB rfl rfl rfl rfl hq7 (RV.move rfl) ?_
                  refine LW.pureYB rfl rfl rfl rfl hq7 (RV.eqi rfl rfl) ?_
                  refine LW.pure rfl rfl (RV.pickTB rfl hq7 rfl) ?_
                  refine LW.pure rfl rfl (RV.move rfl) ?_
                  refine LW.noB rfl rfl rfl rfl (ne_beq (v := false) hq8 rfl) ?_
                  refine LW.noB rfl rfl rfl rfl (ne_beq (v := false) hq8 rfl) ?_
                  refine LW.noB rfl rfl rfl rfl (ne_beq (v := false) hq8 rfl) ?_
                  refine LW.pure rfl rfl (RV.pickFB rfl hq8 rfl) ?_
                  refine LW.pure rfl rfl (RV.move rfl) ?_
                  refine LW.noB rfl rfl rfl rfl (ne_beq (v := false) rfl rfl) ?_
                  refine LW.pure rfl rfl (RV.pickFB rfl rfl rfl) ?_
                  refine LW.pure rfl rfl (RV.assign rfl) ?_
                  refine LW.nil (hK9 _ _ ?_)
                  refine CW.ret ?_
                  obtain rfl := Option.some.inj F
                  refine ⟨_, (ResOK.one rfl), ?_⟩
                  refine ⟨(by first | rfl | simp), R0⟩
              ·
                replace F := ite_n hp7 F
                have hq7 := dec_f hp7
                refine CW.region ?_
                refine LW.pure rfl rfl (RV.move rfl) ?_
                refine LW.pure rfl rfl (RV.move rfl) ?_
                refine LW.go rfl rfl (OW.call Tc21 rfl (ref04_SameInts_ok (a0 := r3.1) (a1 := r4.1) (H.own 3 rfl).sl (H.own 2 rfl).sl hr7) ?_)
                rintro _ w17 ⟨rfl, E16⟩
                refine ⟨_, rfl, ?_⟩
                replace H := H.grow E16
                replace R0 := H.ext
                refine LW.pure rfl rfl (RV.move rfl) ?_
                refine LW.pureYB rfl rfl rfl rfl hq2 (RV.move rfl) ?_
                refine LW.pureYB rfl rfl rfl rfl hq2 (RV.move rfl) ?_
                refine LW.pureYB rfl rfl rfl rfl hq2 (RV.eqi rfl rfl) ?_
                refine LW.pure rfl rfl (RV.pickTB rfl hq2 rfl) ?_
                refine LW.pure rfl rfl (RV.move rfl) ?_
                refine LW.pureYB rfl rfl rfl rfl hq3 (RV.move rfl) ?_
                refine LW.pureYB rfl rfl rfl rfl hq3 (RV.move rfl) ?_
                refine LW.pureYB rfl rfl rfl rfl hq3 (RV.eqi rfl rfl) ?_
                refine LW.pure rfl rfl (RV.pickTB rfl hq3 rfl) ?_
                refine LW.pure rfl rfl (RV.move rfl) ?_
                refine LW.pureYB rfl rfl rfl rfl hq4 (RV.move rfl) ?_
                refine LW.pureYB rfl rfl rfl rfl hq4 (RV.move rfl) ?_
                refine LW.yesB rfl rfl rfl rfl hq4 (OW.call Tc21 rfl (ref04_SameInts_ok (a0 := r5.1) (a1 := r6.1) (H.own 1 rfl).sl (H.own 0 rfl).sl hr8) ?_)
                rintro _ w18 ⟨rfl, E17⟩
                refine ⟨_, rfl, ?_⟩
                replace H := H.grow E17
                replace R0 := H.ext
                refine LW.pure rfl rfl (RV.pickTB rfl hq4 rfl) ?_
                refine LW.pure rfl rfl (RV.move rfl) ?_
                refine LW.pureYB rfl rfl rfl rfl hq5 (RV.move rfl) ?_
                refine LW.pureYB rfl rfl rfl rfl hq5 (RV.move rfl) ?_
                refine LW.pureYB rfl rfl rfl rfl hq5 (RV.eqi rfl rfl) ?_
                refine LW.pure rfl rfl (RV.pickTB rfl hq5 rfl) ?_
                refine LW.pure rfl rfl (RV.move rfl) ?_
                refine LW.pureYB rfl rfl rfl rfl hq6 (RV.move rfl) ?_
                refine LW.pureYB rfl rfl rfl rfl hq6 (RV.move rfl) ?_
                refine LW.pureYB rfl rfl rfl rfl hq6 (RV.eqi rfl rfl) ?_
                refine LW.pure rfl rfl (RV.pickTB rfl hq6 rfl) ?_
                refine LW.pure rfl rfl (RV.move rfl) ?_
                refine LW.noB rfl rfl rfl rfl (ne_beq (v := false) hq7 rfl) ?_
                refine LW.noB rfl rfl rfl rfl (ne_beq (v := false) hq7 rfl) ?_
                refine LW.noB rfl rfl rfl rfl (ne_beq (v := false) hq7 rfl) ?_
                refine LW.pure rfl rfl (RV.pickFB rfl hq7 rfl) ?_
                refine LW.pure rfl rfl (RV.move rfl) ?_
                refine LW.noB rfl rfl rfl rfl (ne_beq (v := false) rfl rfl) ?_
                refine LW.noB rfl rfl rfl rfl (ne_beq (v := false) rfl rfl) ?_
                refine LW.noB rfl rfl rfl rfl (ne_beq (v := false) rfl rfl) ?_
                refine LW.pure rfl rfl (RV.pickFB rfl rfl rfl) ?_
                refine LW.pure rfl rfl (RV.move rfl) ?_
                refine LW.noB rfl rfl rfl rfl (ne_beq (v := false) rfl rfl) ?_
                refine LW.pure rfl rfl (RV.pickFB rfl rfl rfl) ?_
                refine LW.pure rfl rfl (RV.assign rfl) ?_
                refine LW.nil (hK9 _ _ ?_)
                refine CW.ret ?_
                obtain rfl := Option.some.inj F
                refine ⟨_, (ResOK.one rfl), ?_⟩
                refine ⟨(by first | rfl | simp), R0⟩
            ·
              replace F := ite_n hp6 F
              have hq6 := dec_f hp6
              refine CW.region ?_
              refine LW.pure rfl rfl (RV.move rfl) ?_
              refine LW.pure rfl rfl (RV.move rfl) ?_
              refine LW.go rfl rfl (OW.call Tc21 rfl (ref04_SameInts_ok (a0 := r3.1) (a1 := r4.1) (H.own 3 rfl).sl (H.own 2 rfl).sl hr7) ?_)
              rintro _ w19 ⟨rfl, E18⟩
              refine ⟨_, rfl, ?_⟩
              replace H := H.grow E18
              replace R0 := H.ext
              refine LW.pure rfl rfl (RV.move rfl) ?_
              refine LW.pureYB rfl rfl rfl rfl hq2 (RV.move rfl) ?_
              refine LW.pureYB rfl rfl rfl rfl hq2 (RV.move rfl) ?_
              refine LW.pureYB rfl rfl rfl rfl hq2 (RV.eqi rfl rfl) ?_
              refine LW.pure rfl rfl (RV.pickTB rfl hq2 rfl) ?_
              refine LW.pure rfl rfl (RV.move rfl) ?_
              refine LW.pureYB rfl rfl rfl rfl hq3 (RV.move rfl) ?_
              refine LW.pureYB rfl rfl rfl rfl hq3 (RV.move rfl) ?_
              refine LW.pureYB rfl rfl rfl rfl hq3 (RV.eqi rfl rfl) ?_
              refine LW.pure rfl rfl (RV.pickTB rfl hq3 rfl) ?_
              refine LW.pure rfl rfl (RV.move rfl) ?_
              refine LW.pureYB rfl rfl rfl rfl hq4 (RV.move rfl) ?_
              refine LW.pureYB rfl rfl rfl rfl hq4 (RV.move rfl) ?_
              refine LW.yesB rfl rfl rfl rfl hq4 (OW.call Tc21 rfl (ref04_SameInts_ok (a0 := r5.1) (a1 := r6.1) (H.own 1 rfl).sl (H.own 0 rfl).sl hr8) ?_)
              rintro _ w20 ⟨rfl, E19⟩
              refine ⟨_, rfl, ?_⟩
              replace H := H.grow E19
              replace R0 := H.ext
              refine LW.pure rfl rfl (RV.pickTB rfl hq4 rfl) ?_
              refine LW.pure rfl rfl (RV.move rfl) ?_
              refine LW.pureYB rfl rfl rfl rfl hq5 (RV.move rfl) ?_
              refine LW.pureYB rfl rfl rfl rfl hq5 (RV.move rfl) ?_
              refine LW.pureYB rfl rfl rfl rfl hq5 (RV.eqi rfl rfl) ?_
              refine LW.pure rfl rfl (RV.pickTB rfl hq5 rfl) ?_
              refine LW.pure rfl rfl (RV.move rfl) ?_
              refine LW.noB rfl rfl rfl rfl (ne_beq (v := false) hq6 rfl) ?_
              refine LW.noB rfl rfl rfl rfl (ne_beq (v := false) hq6 rfl) ?_
              refine LW.noB rfl rfl rfl rfl (ne_beq (v := false) hq6 rfl) ?_
              refine LW.pure rfl rfl (RV.pickFB rfl hq6 rfl) ?_
              refine LW.pure rfl rfl (RV.move rfl) ?_
              refine LW.noB rfl rfl rfl rfl (ne_beq (v := false) rfl rfl) ?_
              refine LW.noB rfl rfl rfl rfl (ne_beq (v := false) rfl rfl) ?_
              refine LW.noB rfl rfl rfl rfl (ne_beq (v := false) rfl rfl) ?_
              refine LW.pure rfl rfl (RV.pickFB rfl rfl rfl) ?_
              refine LW.pure rfl rfl (RV.move rfl) ?_
              refine LW.noB rfl rfl rfl rfl (ne_beq (v := false) rfl rfl) ?_
              refine LW.noB rfl rfl rfl rfl (ne_beq (v := false) rfl rfl) ?_
              refine LW.noB rfl rfl rfl rfl (ne_beq (v := false) rfl rfl) ?_
              refine LW.pure rfl rfl (RV.pickFB rfl rfl rfl) ?_
              refine LW.pure rfl rfl (RV.move rfl) ?_
              refine LW.noB rfl rfl rfl rfl (ne_beq (v := false) rfl rfl) ?_
              refine LW.pure rfl rfl (RV.pickFB rfl rfl rfl) ?_
              refine LW.pure rfl rfl (RV.assign rfl) ?_
              refine LW.nil (hK9 _ _ ?_)
              refine CW.ret ?_
              obtain rfl := Option.some.inj F
              refine ⟨_, (ResOK.one rfl), ?_⟩
              refine ⟨(by first | rfl | simp), R0⟩
          ·
            replace F := ite_n hp5 F
            have hq5 : r8 = false := raw_f hp5
            refine CW.region ?_
            refine LW.pure rfl rfl (RV.move rfl) ?_
            refine LW.pure rfl rfl (RV.move rfl) ?_
            refine LW.go rfl rfl (OW.call Tc21 rfl (ref04_SameInts_ok (a0 := r3.1) (a1 := r4.1) (H.own 3 rfl).sl (H.own 2 rfl).sl hr7) ?_)
            rintro _ w21 ⟨rfl, E20⟩
            refine ⟨_, rfl, ?_⟩
            replace H := H.grow E20
            replace R0 := H.ext
            refine LW.pure rfl rfl (RV.move rfl) ?_
            refine LW.pureYB rfl rfl rfl rfl hq2 (RV.move rfl) ?_
            refine LW.pureYB rfl rfl rfl rfl hq2 (RV.move rfl) ?_
            refine LW.pureYB rfl rfl rfl rfl hq2 (RV.eqi rfl rfl) ?_
            refine LW.pure rfl rfl (RV.pickTB rfl hq2 rfl) ?_
            refine LW.pure rfl rfl (RV.move rfl) ?_
            refine LW.pureYB rfl rfl rfl rfl hq3 (RV.move rfl) ?_
            refine LW.pureYB rfl rfl rfl rfl hq3 (RV.move rfl) ?_
            refine LW.pureYB rfl rfl rfl rfl hq3 (RV.eqi rfl rfl) ?_
            refine LW.pure rfl rfl (RV.pickTB rfl hq3 rfl) ?_
            refine LW.pure rfl rfl (RV.move rfl) ?_
            refine LW.pureYB rfl rfl rfl rfl hq4 (RV.move rfl) ?_
            refine LW.pureYB rfl rfl rfl rfl hq4 (RV.move rfl) ?_
            refine LW.yesB rfl rfl rfl rfl hq4 (OW.call Tc21 rfl (ref04_SameInts_ok (a0 := r5.1) (a1 := r6.1) (H.own 1 rfl).sl (H.own 0 rfl).sl hr8) ?_)
            rintro _ w22 ⟨rfl, E21⟩
            refine ⟨_, rfl, ?_⟩
            replace H := H.grow E21
            replace R0 := H.ext
            refine LW.pure rfl rfl (RV.pickTB rfl hq4 rfl) ?_
            refine LW.pure rfl rfl (RV.move rfl) ?_
            refine LW.noB rfl rfl rfl rfl (ne_beq (v := false) hq5 rfl) ?_
            refine LW.noB rfl rfl rfl rfl (ne_beq (v := false) hq5 rfl) ?_
            refine LW.noB rfl rfl rfl rfl (ne_beq (v := false) hq5 rfl) ?_
            refine LW.pure rfl rfl (RV.pickFB rfl hq5 rfl) ?_
            refine LW.pure rfl rfl (RV.move rfl) ?_
            refine LW.noB rfl rfl rfl rfl (ne_beq (v := false) rfl rfl) ?_
            refine LW.noB rfl rfl rfl rfl (ne_beq (v := false) rfl rfl) ?_
            refine LW.noB rfl rfl rfl rfl (ne_beq (v := false) rfl rfl) ?_
            refine LW.pure rfl rfl (RV.pickFB rfl rfl rfl) ?_
            refine LW.pure rfl rfl (RV.move rfl) ?_
            refine LW.noB rfl rfl rfl rfl (ne_beq (v := false) rfl rfl) ?_
            refine LW.noB rfl rfl rfl rfl (ne_beq (v := false) rfl rfl) ?_
            refine LW.noB rfl rfl rfl rfl (ne_beq (v := false) rfl rfl) ?_
            refine LW.pure rfl rfl (RV.pickFB rfl rfl rfl) ?_
            refine LW.pure rfl rfl (RV.move rfl) ?_
            refine LW.noB rfl rfl rfl rfl (ne_beq (v := false) rfl rfl) ?_
            refine LW.noB rfl rfl rfl rfl (ne_beq (v := false) rfl rfl) ?_
            refine LW.noB rfl rfl rfl rfl (ne_beq (v := false) rfl rfl) ?_
            refine LW.pure rfl rfl (RV.pickFB rfl rfl rfl) ?_
            refine LW.pure rfl rfl (RV.move rfl) ?_
            refine LW.noB rfl rfl rfl rfl (ne_beq (v := false) rfl rfl) ?_
            refine LW.pure rfl rfl (RV.pickFB rfl rfl rfl) ?_
            refine LW.pure rfl rfl (RV.assign rfl) ?_
            refine LW.nil (hK9 _ _ ?_)
            refine CW.ret ?_
            obtain rfl := Option.some.inj F
            refine ⟨_, (ResOK.one rfl), ?_⟩
            refine ⟨(by first | rfl | simp), R0⟩
        ·
          replace F := ite_n hp4 F
          have hq4 := dec_f hp4
          refine CW.region ?_
          refine LW.pure rfl rfl (RV.move rfl) ?_
          refine LW.pure rfl rfl (RV.move rfl) ?_
          refine LW.go rfl rfl (OW.call Tc21 rfl (ref04_SameInts_ok (a0 := r3.1) (a1 := r4.1) (H.own 3 rfl).sl (H.own 2 rfl).sl hr7) ?_)
          rintro _ w23 ⟨rfl, E22⟩
          refine ⟨_, rfl, ?_⟩
          replace H := H.grow E22
          replace R0 := H.ext
          refine LW.pure rfl rfl (RV.move rfl) ?_
          refine LW.pureYB rfl rfl rfl rfl hq2 (RV.move rfl) ?_
          refine LW.pureYB rfl rfl rfl rfl hq2 (RV.move rfl) ?_
          refine LW.pureYB rfl rfl rfl rfl hq2 (RV.eqi rfl rfl) ?_
          refine LW.pure rfl rfl (RV.pickTB rfl hq2 rfl) ?_
          refine LW.pure rfl rfl (RV.move rfl) ?_
          refine LW.pureYB rfl rfl rfl rfl hq3 (RV.move rfl) ?_
          refine LW.pureYB rfl rfl rfl rfl hq3 (RV.move rfl) ?_
          refine LW.pureYB rfl rfl rfl rfl hq3 (RV.eqi rfl rfl) ?_
          refine LW.pure rfl rfl (RV.pickTB rfl hq3 rfl) ?_
          refine LW.pure rfl rfl (RV.move rfl) ?_
          refine LW.noB rfl rfl rfl rfl (ne_beq (v := false) hq4 rfl) ?_
          refine LW.noB rfl rfl rfl rfl (ne_beq (v := false) hq4 rfl) ?_
          refine LW.noB rfl rfl rfl rfl (ne_beq (v := false) hq4 rfl) ?_
          refine LW.pure rfl rfl (RV.pickFB rfl hq4 rfl) ?_
          refine LW.pure rfl rfl (RV.move rfl) ?_
          refine LW.noB rfl rfl rfl rfl (ne_beq (v := false) rfl rfl) ?_
          refine LW.noB rfl rfl rfl rfl (ne_beq (v := false) rfl rfl) ?_
          refine LW.noB rfl rfl rfl rfl (ne_beq (v := false) rfl rfl) ?_
          refine LW.pure rfl rfl (RV.pickFB rfl rfl rfl) ?_
          refine LW.pure rfl rfl (RV.move rfl) ?_
          refine LW.noB rfl rfl rfl rfl (ne_beq (v := false) rfl rfl) ?_
          refine LW.noB rfl rfl rfl rfl (ne_beq (v := false) rfl rfl) ?_
          refine LW.noB rfl rfl rfl rfl (ne_beq (v := false) rfl rfl) ?_
          refine LW.pure rfl rfl (RV.pickFB rfl rfl rfl) ?_
          refine LW.pure rfl rfl (RV.move rfl) ?_
          refine LW.noB rfl rfl rfl rfl (ne_beq (v := false) rfl rfl) ?_
          refine LW.noB rfl rfl rfl rfl (ne_beq (v := false) rfl rfl) ?_
          refine LW.noB rfl rfl rfl rfl (ne_beq (v := false) rfl rfl) ?_
          refine LW.pure rfl rfl (RV.pickFB rfl rfl rfl) ?_
          refine LW.pure rfl rfl (RV.move rfl) ?_
          refine LW.noB rfl rfl rfl rfl (ne_beq (v := false) rfl rfl) ?_
          refine LW.noB rfl rfl rfl rfl (ne_beq (v := false) rfl rfl) ?_
          refine LW.noB rfl rfl rfl rfl (ne_beq (v := false) rfl rfl) ?_
          refine LW.pure rfl rfl (RV.pickFB rfl rfl rfl) ?_
          refine LW.pure rfl rfl (RV.move rfl) ?_
          refine LW.noB rfl rfl rfl rfl (ne_beq (v := false) rfl rfl) ?_
          refine LW.pure rfl rfl (RV.pickFB rfl rfl rfl) ?_
          refine LW.pure rfl rfl (RV.assign rfl) ?_
          refine LW.nil (hK9 _ _ ?_)
          refine CW.ret ?_
          obtain rfl := Option.some.inj F
          refine ⟨_, (ResOK.one rfl), ?_⟩
          refine ⟨(by first | rfl | simp), R0⟩
      ·
        replace F := ite_n hp3 F
        have hq3 := dec_f hp3
        refine CW.region ?_
        refine LW.pure rfl rfl (RV.move rfl) ?_
        refine LW.pure rfl rfl (RV.move rfl) ?_
        refine LW.go rfl rfl (OW.call Tc21 rfl (ref04_SameInts_ok (a0 := r3.1) (a1 := r4.1) (H.own 3 rfl).sl (H.own 2 rfl).sl hr7) ?_)
        rintro _ w24 ⟨rfl, E23⟩
        refine ⟨_, rfl, ?_⟩
        replace H := H.grow E23
        replace R0 := H.ext
        refine LW.pure rfl rfl (RV.move rfl) ?_
        refine LW.pureYB rfl rfl rfl rfl hq2 (RV.move rfl) ?_
        refine LW.pureYB rfl rfl rfl rfl hq2 (RV.move rfl) ?_
        refine LW.pureYB rfl rfl rfl rfl hq2 (RV.eqi rfl rfl) ?_
        refine LW.pure rfl rfl (RV.pickTB rfl hq2 rfl) ?_
        refine LW.pure rfl rfl (RV.move rfl) ?_
        refine LW.noB rfl rfl rfl rfl (ne_beq (v := false) hq3 rfl) ?_
        refine LW.noB rfl rfl rfl rfl (ne_beq (v := false) hq3 rfl) ?_
        refine LW.noB rfl rfl rfl rfl (ne_beq (v := false) hq3 rfl) ?_
        refine LW.pure rfl rfl (RV.pickFB rfl hq3 rfl) ?_
        refine LW.pure rfl rfl (RV.move rfl) ?_
        refine LW.noB rfl rfl rfl rfl (ne_beq (v := false) rfl rfl) ?_
        refine LW.noB rfl rfl rfl rfl (ne_beq (v := false) rfl rfl) ?_
        refine LW.noB rfl rfl rfl rfl (ne_beq (v := false) rfl rfl) ?_
        refine LW.pure rfl rfl (RV.pickFB rfl rfl rfl) ?_
        refine LW.pure rfl rfl (RV.move rfl) ?_
        refine LW.noB rfl rfl rfl rfl (ne_beq (v := false) rfl rfl) ?_
        refine LW.noB rfl rfl rfl rfl (ne_beq (v := false) rfl rfl) ?_
        refine LW.noB rfl rfl rfl rfl (ne_beq (v := false) rfl rfl) ?_
        refine LW.pure rfl rfl (RV.pickFB rfl rfl rfl) ?_
        refine LW.pure rfl rfl (RV.move rfl) ?_
        refine LW.noB rfl rfl rfl rfl (ne_beq (v := false) rfl rfl) ?_
        refine LW.noB rfl rfl rfl rfl (ne_beq (v := false) rfl rfl) ?_
        refine LW.noB rfl rfl rfl rfl (ne_beq (v := false) rfl rfl) ?_
        refine LW.pure rfl rfl (RV.pickFB rfl rfl rfl) ?_
        refine LW.pure rfl rfl (RV.move rfl) ?_
        refine LW.noB rfl rfl rfl rfl (ne_beq (v := false) rfl rfl) ?_
        refine LW.noB rfl rfl rfl rfl (ne_beq (v := false) rfl rfl) ?_
        refine LW.noB rfl rfl rfl rfl (ne_beq (v := false) rfl rfl) ?_
        refine LW.pure rfl rfl (RV.pickFB rfl rfl rfl) ?_
        refine LW.pure rfl rfl (RV.move rfl) ?_
        refine LW.noB rfl rfl rfl rfl (ne_beq (v := false) rfl rfl) ?_
        refine LW.noB rfl rfl rfl rfl (ne_beq (v := false) rfl rfl) ?_
        refine LW.noB rfl rfl rfl rfl (ne_beq (v := false) rfl rfl) ?_
        refine LW.pure rfl rfl (RV.pickFB rfl rfl rfl) ?_
        refine LW.pure rfl rfl (RV.move rfl) ?_
        refine LW.noB rfl rfl rfl rfl (ne_beq (v := false) rfl rfl) ?_
        refine LW.pure rfl rfl (RV.pickFB rfl rfl rfl) ?_
        refine LW.pure rfl rfl (RV.assign rfl) ?_
        refine LW.nil (hK9 _ _ ?_)
        refine CW.ret ?_
        obtain rfl := Option.some.inj F
        refine ⟨_, (ResOK.one rfl), ?_⟩
        refine ⟨(by first | rfl | simp), R0⟩
    ·
      replace F := ite_n hp2 F
      have hq2 : r7 = false := raw_f hp2
      refine CW.region ?_
      refine LW.pure rfl rfl (RV.move rfl) ?_
      refine LW.pure rfl rfl (RV.move rfl) ?_
      refine LW.go rfl rfl (OW.call Tc21 rfl (ref04_SameInts_ok (a0 := r3.1) (a1 := r4.1) (H.own 3 rfl).sl (H.own 2 rfl).sl hr7) ?_)
      rintro _ w25 ⟨rfl, E24⟩
      refine ⟨_, rfl, ?_⟩
      replace H := H.grow E24
      replace R0 := H.ext
      refine LW.pure rfl rfl (RV.move rfl) ?_
      refine LW.noB rfl rfl rfl rfl (ne_beq (v := false) hq2 rfl) ?_
      refine LW.noB rfl rfl rfl rfl (ne_beq (v := false) hq2 rfl) ?_
      refine LW.noB rfl rfl rfl rfl (ne_beq (v := false) hq2 rfl) ?_
      refine LW.pure rfl rfl (RV.pickFB rfl hq2 rfl) ?_
      refine LW.pure rfl rfl (RV.move rfl) ?_
      refine LW.noB rfl rfl rfl rfl (ne_beq (v := false) rfl rfl) ?_
      refine LW.noB rfl rfl rfl rfl (ne_beq (v := false) rfl rfl) ?_
      refine LW.noB rfl rfl rfl rfl (ne_beq (v := false) rfl rfl) ?_
      refine LW.pure rfl rfl (RV.pickFB rfl rfl rfl) ?_
      refine LW.pure rfl rfl (RV.move rfl) ?_
      refine LW.noB rfl rfl rfl rfl (ne_beq (v := false) rfl rfl) ?_
      refine LW.noB rfl rfl rfl rfl (ne_beq (v := false) rfl rfl) ?_
      refine LW.noB rfl rfl rfl rfl (ne_beq (v := false) rfl rfl) ?_
      refine LW.pure rfl rfl (RV.pickFB rfl rfl rfl) ?_
      refine LW.pure rfl rfl (RV.move rfl) ?_
      refine LW.noB rfl rfl rfl rfl (ne_beq (v := false) rfl rfl) ?_
      refine LW.noB rfl rfl rfl rfl (ne_beq (v := false) rfl rfl) ?_
      refine LW.noB rfl rfl rfl rfl (ne_beq (v := false) rfl rfl) ?_
      refine LW.pure rfl rfl (RV.pickFB rfl rfl rfl) ?_
      refine LW.pure rfl rfl (RV.move rfl) ?_
      refine LW.noB rfl rfl rfl rfl (ne_beq (v := false) rfl rfl) ?_
      refine LW.noB rfl rfl rfl rfl (ne_beq (v := false) rfl rfl) ?_
      refine LW.noB rfl rfl rfl rfl (ne_beq (v := false) rfl rfl) ?_
      refine LW.pure rfl rfl (RV.pickFB rfl rfl rfl) ?_
      refine LW.pure rfl rfl (RV.move rfl) ?_
      refine LW.noB rfl rfl rfl rfl (ne_beq (v := false) rfl rfl) ?_
      refine LW.noB rfl rfl rfl rfl (ne_beq (v := false) rfl rfl) ?_
      refine LW.noB rfl rfl rfl rfl (ne_beq (v := false) rfl rfl) ?_
      refine LW.pure rfl rfl (RV.pickFB rfl rfl rfl) ?_
      refine LW.pure rfl rfl (RV.move rfl) ?_
      refine LW.noB rfl rfl rfl rfl (ne_beq (v := false) rfl rfl) ?_
      refine LW.noB rfl rfl rfl rfl (ne_beq (v := false) rfl rfl) ?_
      refine LW.noB rfl rfl rfl rfl (ne_beq (v := false) rfl rfl) ?_
      refine LW.pure rfl rfl (RV.pickFB rfl rfl rfl) ?_
      refine LW.pure rfl rfl (RV.move rfl) ?_
      refine LW.noB rfl rfl rfl rfl (ne_beq (v := false) rfl rfl) ?_
      refine LW.pure rfl rfl (RV.pickFB rfl rfl rfl) ?_
      refine LW.pure rfl rfl (RV.assign rfl) ?_
      refine LW.nil (hK9 _ _ ?_)
      refine CW.ret ?_
      obtain rfl := Option.some.inj F
      refine ⟨_, (ResOK.one rfl), ?_⟩
      refine ⟨(by first | rfl | simp), R0⟩
end Go.D4

namespace Go.Tb
/-- A loop over 0 .. N - 1 with a state, that is left at the first i for which p does not hold. -/
theorem scan_loop {S R : Type} (N : Nat) (p : Nat → Bool) (g : Nat → S) (L : Nat → S → Int → Option R) (yes : Option R) (no : Nat → Option R)
    (step : ∀ n i : Nat, i < N → L (n + 1) (g i) (i : Int) = if p i = true then L n (g (i + 1)) ((i + 1 : Nat) : Int) else no i)
    (stop : ∀ n : Nat, L (n + 1) (g N) (N : Int) = yes) : ∀ (d n i : Nat), N = i + d → d < n → L n (g i) (i : Int) = match (List.range' i d).find? (fun j => !p j) with | none => yes | some j => no j
  | 0, n + 1, i, hd, hn => by
    have hi : i = N := by omega
    subst hi
    rw [stop n]; rfl
  | d + 1, n + 1, i, hd, hn => by
    rw [step n i (by omega), List.range'_succ, List.find?_cons]
    cases hp : p i
    · simp
    · simp only [if_true, Bool.not_true]
      exact scan_loop N p g L yes no step stop d n (i + 1) (by omega) (by omega)
theorem find_all {p : Nat → Bool} {i d : Nat} : (List.range' i d).find? (fun j => !p j) = none ↔ ∀ j, i ≤ j → j < i + d → p j = true := by
  rw [List.find?_eq_none]
  constructor
  · intro h j h1 h2
    have := h j (by rw [List.mem_range'_1]; omega)
    simpa using this
  · intro h x hx
    rw [List.mem_range'_1] at hx
    simp [h x hx.1 hx.2]
/-- A loop over 0 .. N - 1 with a state and no way out. -/
theorem for_loop {S R : Type} (N : Nat) (g : Nat → S) (L : Nat → S → Int → Option R) (yes : Option R)
    (step : ∀ n i : Nat, i < N → L (n + 1) (g i) (i : Int) = L n (g (i + 1)) ((i + 1 : Nat) : Int))
    (stop : ∀ n : Nat, L (n + 1) (g N) (N : Int) = yes) : ∀ (d n i : Nat), N = i + d → d < n → L n (g i) (i : Int) = yes
  | 0, n + 1, i, hd, hn => by
    have hi : i = N := by omega
    subst hi
    exact stop n
  | d + 1, n + 1, i, hd, hn => by
    rw [step n i (by omega)]
    exact for_loop N g L yes step stop d n (i + 1) (by omega) (by omega)
theorem for_loop0 {S R : Type} (N : Nat) (g : Nat → S) (L : Nat → S → Int → Option R) (yes : Option R)
    (step : ∀ n i : Nat, i < N → L (n + 1) (g i) (i : Int) = L n (g (i + 1)) ((i + 1 : Nat) : Int))
    (stop : ∀ n : Nat, L (n + 1) (g N) (N : Int) = yes) (hN : N ≤ 9223372036854775807) : L FU (g 0) 0 = yes :=
  for_loop N g L yes step stop N FU 0 (by omega) (by have := FU_pos; omega)
theorem scan_loop0 {S R : Type} (N : Nat) (p : Nat → Bool) (g : Nat → S) (L : Nat → S → Int → Option R) (yes no : Option R)
    (step : ∀ n i : Nat, i < N → L (n + 1) (g i) (i : Int) = if p i = true then L n (g (i + 1)) ((i + 1 : Nat) : Int) else no)
    (stop : ∀ n : Nat, L (n + 1) (g N) (N : Int) = yes) (hN : N ≤ 9223372036854775807) : L FU (g 0) 0 = if (∀ j, j < N → p j = true) then yes else no := by
  have h := scan_loop N p g L yes (fun _ => no) step stop N FU 0 (by omega) (by have := FU_pos; omega)
  refine Eq.trans h ?_
  cases hf : (List.range' 0 N).find? (fun j => !p j) with
  | none => rw [if_pos (fun j hj => find_all.1 hf j (by omega) (by omega))]
  | some j =>
    have h1 := List.find?_some hf
    have h2 := List.mem_of_find?_eq_some hf
    rw [List.mem_range'_1] at h2
    rw [if_neg]
    intro hall
    have := hall j (by omega)
    simp [this] at h1
/-- The same over the elements of a list. -/
theorem list_loop0 {α R : Type} (l : List α) (p : α → Bool) (L : Nat → Int → Option R) (yes no : Option R)
    (step : ∀ (n i : Nat) (x : α), l[i]? = some x → L (n + 1) (i : Int) = if p x = true then L n ((i + 1 : Nat) : Int) else no)
    (stop : ∀ n : Nat, L (n + 1) (l.length : Int) = yes) (hl : l.length ≤ 9223372036854775807) : L FU 0 = if l.all p = true then yes else no := by
  have h := scan_loop0 l.length (fun i => (l[i]?.map p).getD true) (fun _ => ()) (fun n _ i => L n i) yes no (fun n i hi => by
    have hx : l[i]? = some l[i] := by simp [hi]
    rw [step n i _ hx]; simp [hx]) stop hl
  refine Eq.trans h ?_
  by_cases ha : l.all p = true
  · rw [if_pos ha, if_pos]
    intro j hj
    have := List.all_eq_true.1 ha l[j] (List.getElem_mem hj)
    simp [hj, this]
  · rw [if_neg ha, if_neg]
    intro hc
    refine ha (List.all_eq_true.2 fun x hx => ?_)
    obtain ⟨j, hj⟩ := List.getElem?_of_mem hx
    have := hc j (lt_of_at hj)
    simpa [hj] using this
end Go.Tb

set_option linter.unusedVariables false
set_option linter.unusedSimpArgs false
namespace Go.D4
open Go.Tb
theorem sane_eq : law04_sane = some true := by decide +kernel
theorem scan_from {R : Type} (N s : Nat) (p : Nat → Bool) (L : Nat → Int → Option R) (yes no : Option R)
    (step : ∀ n i : Nat, s ≤ i → i < N → L (n + 1) (i : Int) = if p i = true then L n ((i + 1 : Nat) : Int) else no)
    (stop : ∀ n i : Nat, N ≤ i → L (n + 1) (i : Int) = yes) : ∀ (d n i : Nat), s ≤ i → N ≤ i + d → d < n → L n (i : Int) = if (∀ j, j < N → i ≤ j → p j = true) then yes else no
  | 0, n + 1, i, hs, hd, hn => by
    rw [stop n i (by omega), if_pos (fun j h1 h2 => by omega)]
  | d + 1, n + 1, i, hs, hd, hn => by
    by_cases hi : N ≤ i
    · rw [stop n i hi, if_pos (fun j h1 h2 => by omega)]
    · rw [step n i hs (by omega)]
      cases hp : p i
      · rw [if_neg (by simp), if_neg (fun h => by have := h i (by omega) (Nat.le_refl _); simp [hp] at this)]
      · rw [if_pos rfl, scan_from N s p L yes no step stop d n (i + 1) (by omega) (by omega) (by omega)]
        by_cases hall : ∀ j, j < N → i + 1 ≤ j → p j = true
        · rw [if_pos hall, if_pos (fun j h1 h2 => by
            by_cases hj : j = i
            · subst hj; exact hp
            · exact hall j h1 (by omega))]
        · rw [if_neg hall, if_neg (fun h => hall fun j h1 h2 => h j h1 (by omega))]
theorem scan1 {R : Type} (N : Nat) (p : Nat → Bool) (L : Nat → Int → Option R) (yes no : Option R)
    (step : ∀ n i : Nat, 1 ≤ i → i < N → L (n + 1) (i : Int) = if p i = true then L n ((i + 1 : Nat) : Int) else no)
    (stop : ∀ n i : Nat, N ≤ i → L (n + 1) (i : Int) = yes) (hN : N ≤ 9223372036854775807) : L FU 1 = if (∀ j, j < N → 1 ≤ j → p j = true) then yes else no :=
  scan_from N 1 p L yes no step stop N FU 1 (by omega) (by omega) (by have := FU_pos; omega)
theorem for0 {S R : Type} (N : Nat) (g : Nat → S) (L : Nat → S → Int → Option R) (yes : Option R) {s0 : S} (h0 : g 0 = s0)
    (step : ∀ n i : Nat, i < N → L (n + 1) (g i) (i : Int) = L n (g (i + 1)) ((i + 1 : Nat) : Int))
    (stop : ∀ n : Nat, L (n + 1) (g N) (N : Int) = yes) (hN : N ≤ 9223372036854775807) : L FU s0 0 = yes := by
  rw [← h0]; exact for_loop0 N g L yes step stop hN
/-- A library loop: is there an element for which f holds? -/
theorem ContainsFunc_eq (l : List Int) (f : Int → Option Bool) (q : Int → Bool) (hf : ∀ x, f x = some (q x)) (hl : l.length ≤ 1000000) : slices_ContainsFunc_int l f = some (l.any q) := by
  unfold slices_ContainsFunc_int slices_IndexFunc_int
  have h := scan_loop l.length (fun i => (l[i]?.map fun x => !q x).getD true) (fun _ => ()) (fun n _ i => slices_IndexFunc_int_L1 l f n i) (some (-1)) (fun j => some (j : Int)) (fun n i hi => ?_) (fun n => ?_) l.length FU 0 (by omega) (by have := FU_pos; omega)
  · rw [bnd_eq (x := match (List.range' 0 l.length).find? (fun j => !((l[j]?.map fun x => !q x).getD true)) with | none => -1 | some j => (j : Int)) (by
      refine Eq.trans h ?_
      cases (List.range' 0 l.length).find? (fun j => !((l[j]?.map fun x => !q x).getD true)) <;> rfl)]
    congr 1
    cases hf : (List.range' 0 l.length).find? (fun j => !((l[j]?.map fun x => !q x).getD true)) with
    | none =>
      have := find_all.1 hf
      have ha : l.any q = false := List.any_eq_false.2 fun x hx => by
        obtain ⟨j, hj⟩ := List.getElem?_of_mem hx
        have := this j (by omega) (by have := lt_of_at hj; omega)
        simpa [hj] using this
      simp [ha]
    | some j =>
      have h1 := List.find?_some hf
      have h2 := List.mem_of_find?_eq_some hf
      rw [List.mem_range'_1] at h2
      have hx : l[j]? = some l[j] := List.getElem?_eq_getElem (by omega)
      rw [hx] at h1
      have ha : l.any q = true := by
        rw [List.any_eq_true]
        exact ⟨l[j], List.getElem_mem _, by simpa using h1⟩
      simp [ha]
  · show slices_IndexFunc_int_B1 l f (slices_IndexFunc_int_L1 l f n) _ = _
    have hx : l[i]? = some l[i] := by simp [hi]
    unfold slices_IndexFunc_int_B1
    rw [if_pos (by omega), ix_nat hx, bnd_eq (hf _), gd_pos (by omega), hx]
    cases h : q l[i] <;> simp [h]
  · show slices_IndexFunc_int_B1 l f (slices_IndexFunc_int_L1 l f n) _ = _
    unfold slices_IndexFunc_int_B1
    rw [if_neg (by omega)]; rfl
def within (n lo hi : Int) : Bool := decide (lo ≤ n) && decide (n ≤ hi)
theorem within_iff {n lo hi : Int} : within n lo hi = true ↔ lo ≤ n ∧ n ≤ hi := by unfold within; simp
theorem from_eq (n lo hi : Int) : cut_from n lo hi = some (within n lo hi) := by
  unfold cut_from within
  by_cases h : lo ≤ n <;> simp [h]
def dep (b : Bog) : Int := ((b.worth[0]?.getD []).length : Int)
theorem ix0 {α β : Type} {l : List α} {k : α → Option β} {x : α} (h : l[0]? = some x) : ix l 0 k = k x := ix_nat (i := 0) h
theorem depth_eq {b : Bog} (h : 1 ≤ b.worth.length) : cut_depth b = some (dep b) := by
  have hx : b.worth[0]? = some b.worth[0] := by simp
  unfold cut_depth dep
  rw [ix0 hx, hx]; rfl
theorem rdepth_eq {b : Bog} (h : 1 ≤ b.worth.length) : ref04_depth b = some (dep b) := by
  have hx : b.worth[0]? = some b.worth[0] := by simp
  unfold ref04_depth dep
  rw [ix0 hx, hx]; rfl
def okW (w : Int) : Bool := within w (-50) 50
def okCol (d : Int) (c : List Int) : Bool := decide ((c.length : Int) = d) && c.all okW
def okB (b : Bog) : Bool := within b.worth.length 1 6 && within (dep b) 1 4 && b.worth.all (okCol (dep b))
def validate (b : Bog) : Int := if okB b = true then 0 else 1
def Short (b : Bog) : Prop := b.worth.length ≤ 50 ∧ ∀ c ∈ b.worth, c.length ≤ 50
theorem Validate_1_eq (w : Int) : cut_Validate_1 w = some (!okW w) := by
  unfold cut_Validate_1; rw [bnd_eq (from_eq _ _ _)]; rfl
theorem any_not {l : List Int} : (l.any fun x => !okW x) = !(l.all okW) := by
  induction l with
  | nil => rfl
  | cons x r ih => simp [ih]
theorem Validate_eq {b : Bog} (hs : Short b) : cut_Validate b = some (validate b) := by
  unfold cut_Validate validate okB
  rw [bnd_eq (from_eq _ _ _)]
  cases h1 : within b.worth.length 1 6
  · rw [if_neg (by simp)]; unfold cut_Validate_k3; simp
  have h1' := within_iff.1 h1
  rw [if_pos rfl, bnd_eq (depth_eq (by omega)), bnd_eq (from_eq _ _ _)]
  cases h2 : within (dep b) 1 4
  · unfold cut_Validate_k3; simp
  unfold cut_Validate_k3
  rw [if_neg (by simp), list_loop0 b.worth (okCol (dep b)) (cut_Validate_L1 b) (some 0) (some 1) (fun n i x hx => ?_) (fun n => ?_) (by omega)]
  · cases b.worth.all (okCol (dep b)) <;> simp
  · have := lt_of_at hx
    have hxl := hs.2 x (List.mem_of_getElem? hx)
    show cut_Validate_B1 b (cut_Validate_L1 b n) _ = _
    unfold cut_Validate_B1 okCol
    rw [if_pos (by omega), ix_nat hx, bnd_eq (depth_eq (by omega))]
    unfold cut_Validate_k2
    by_cases hd : (x.length : Int) = dep b
    · rw [if_pos hd, bnd_eq (ContainsFunc_eq x _ _ Validate_1_eq (by omega)), any_not, gd_pos (by omega)]
      cases x.all okW <;> simp [hd]
    · rw [if_neg hd, gd_pos (by omega)]; simp [hd]
  · show cut_Validate_B1 b (cut_Validate_L1 b n) _ = _
    unfold cut_Validate_B1
    rw [if_neg (by omega)]; rfl
theorem rValidate_eq {b : Bog} (hs : Short b) : ref04_Validate b = some (validate b) := by
  unfold ref04_Validate validate okB
  by_cases h1 : (b.worth.length : Int) < 1
  · have : within b.worth.length 1 6 = false := by simp [within]; omega
    rw [if_pos h1, this]; unfold ref04_Validate_k4; simp
  rw [if_neg h1]
  by_cases h2 : (6 : Int) < b.worth.length
  · have : within b.worth.length 1 6 = false := by simp [within]; omega
    rw [if_pos h2, this]; unfold ref04_Validate_k4; simp
  rw [if_neg h2]
  have h3 : within b.worth.length 1 6 = true := within_iff.2 (by omega)
  have h0 : b.worth[0]? = some b.worth[0] := by simp
  have hd : dep b = (b.worth[0].length : Int) := by unfold dep; rw [h0]; rfl
  rw [ix0 h0, ix0 h0, h3, ← hd]
  by_cases h4 : dep b < 1
  · have : within (dep b) 1 4 = false := by simp [within]; omega
    rw [if_pos h4, this]; unfold ref04_Validate_k4; simp
  rw [if_neg h4]
  by_cases h5 : 4 < dep b
  · have : within (dep b) 1 4 = false := by simp [within]; omega
    simp only [h5, this]; unfold ref04_Validate_k4; simp
  have h6 : within (dep b) 1 4 = true := within_iff.2 (by omega)
  simp only [h5, h6, decide_false, Bool.true_and]
  unfold ref04_Validate_k4
  rw [if_neg (by simp), list_loop0 b.worth (okCol (dep b)) (ref04_Validate_L2 b) (some 0) (some 1) (fun n i x hx => ?_) (fun n => ?_) (by omega)]
  · cases b.worth.all (okCol (dep b)) <;> simp
  · have := lt_of_at hx
    have hxl := hs.2 x (List.mem_of_getElem? hx)
    show ref04_Validate_B2 b (ref04_Validate_L2 b n) _ = _
    unfold ref04_Validate_B2 okCol
    rw [if_pos (by omega), ix_nat hx, ix0 h0, ← hd]
    by_cases hdd : (x.length : Int) = dep b
    · rw [if_pos hdd, list_loop0 x okW (ref04_Validate_L1 b i (ref04_Validate_L2 b n)) (ref04_Validate_L2 b n ((i + 1 : Nat) : Int)) (some 1) (fun m j v hv => ?_) (fun m => ?_) (by omega)]
      · cases x.all okW <;> simp [hdd]
      · have := lt_of_at hv
        show ref04_Validate_B1 b i (ref04_Validate_L2 b n) (ref04_Validate_L1 b i (ref04_Validate_L2 b n) m) _ = _
        unfold ref04_Validate_B1
        rw [ix_nat hx, if_pos (by omega), ix_nat hx, ix_nat hv]
        unfold ref04_Validate_k3
        by_cases hb : (50 : Int) < v
        · rw [if_pos hb]; simp [okW, within]; omega
        · rw [if_neg hb, ix_nat hx, ix_nat hv, gd_pos (by omega)]
          by_cases hc : v < -50
          · simp [hc, okW, within]; omega
          · have : okW v = true := within_iff.2 (by omega)
            simp [hc, this]
      · show ref04_Validate_B1 b i (ref04_Validate_L2 b n) (ref04_Validate_L1 b i (ref04_Validate_L2 b n) m) _ = _
        unfold ref04_Validate_B1
        rw [ix_nat hx, if_neg (by omega)]
        unfold ref04_Validate_k2
        rw [gd_pos (by omega)]; rfl
    · rw [if_neg hdd]; simp [hdd]
  · show ref04_Validate_B2 b (ref04_Validate_L2 b n) _ = _
    unfold ref04_Validate_B2
    rw [if_neg (by omega)]; rfl
end Go.D4

set_option linter.unusedVariables false
set_option linter.unusedSimpArgs false
namespace Go.D4
open Go.Tb
def gi (l : List Int) (i : Nat) : Int := l.getD i 0
theorem gi_of {l : List Int} {i : Nat} {x : Int} (h : l[i]? = some x) : gi l i = x := by simp [gi, List.getD, h]
def rightB (h : List Int) : Bool := decide (∀ j, j < h.length → 1 ≤ j → within (gi h j - gi h (j - 1)) (-1) 1 = true)
def okL (b : Bog) (h : List Int) : Bool := decide ((h.length : Int) = b.worth.length) && h.all (fun n => within n 0 (dep b))
def listE (b : Bog) (h : List Int) : Int := if validate b = 0 then (if okL b h = true then 0 else 1) else validate b
def hollowE (b : Bog) (h : List Int) : Int := if listE b h = 0 then (if rightB h = true then 0 else 6) else listE b h
structure Ok (b : Bog) : Prop where
  n1 : 1 ≤ b.worth.length
  n6 : b.worth.length ≤ 6
  d1 : 1 ≤ dep b
  d4 : dep b ≤ 4
  col : ∀ c ∈ b.worth, (c.length : Int) = dep b ∧ ∀ w ∈ c, -50 ≤ w ∧ w ≤ 50
theorem okB_iff {b : Bog} : okB b = true ↔ Ok b := by
  unfold okB
  simp only [Bool.and_eq_true, within_iff, List.all_eq_true, okCol, decide_eq_true_eq, okW]
  constructor
  · rintro ⟨⟨h1, h2⟩, h3⟩
    exact ⟨by omega, by omega, h2.1, h2.2, h3⟩
  · intro h
    exact ⟨⟨⟨by have := h.n1; omega, by have := h.n6; omega⟩, h.d1, h.d4⟩, h.col⟩
theorem val0 {b : Bog} : validate b = 0 ↔ Ok b := by
  rw [← okB_iff]; unfold validate; split <;> simp_all
theorem okL_iff {b : Bog} {h : List Int} : okL b h = true ↔ h.length = b.worth.length ∧ ∀ x ∈ h, 0 ≤ x ∧ x ≤ dep b := by
  unfold okL
  simp only [Bool.and_eq_true, decide_eq_true_eq, List.all_eq_true, within_iff]
  constructor
  · rintro ⟨h1, h2⟩; exact ⟨by omega, h2⟩
  · rintro ⟨h1, h2⟩; exact ⟨by omega, h2⟩
theorem list0 {b : Bog} {h : List Int} : listE b h = 0 ↔ Ok b ∧ okL b h = true := by
  unfold listE
  constructor
  · intro h0
    split at h0
    · rename_i hv
      split at h0
      · rename_i ho; exact ⟨val0.1 hv, ho⟩
      · cases h0
    · rename_i hv; exact absurd h0 hv
  · rintro ⟨h1, h2⟩
    rw [if_pos (val0.2 h1), if_pos h2]
theorem hollow0 {b : Bog} {h : List Int} : hollowE b h = 0 ↔ Ok b ∧ okL b h = true ∧ rightB h = true := by
  unfold hollowE
  constructor
  · intro h0
    split at h0
    · rename_i hv
      split at h0
      · rename_i ho; exact ⟨(list0.1 hv).1, (list0.1 hv).2, ho⟩
      · cases h0
    · rename_i hv; exact absurd h0 hv
  · rintro ⟨h1, h2, h3⟩
    rw [if_pos (list0.2 ⟨h1, h2⟩), if_pos h3]
theorem rright_eq {h : List Int} (hl : h.length ≤ 1000000) (hb : ∀ x ∈ h, -1000 ≤ x ∧ x ≤ 1000) : ref04_right h = some (rightB h) := by
  unfold ref04_right rightB
  rw [scan1 h.length (fun j => within (gi h j - gi h (j - 1)) (-1) 1) (ref04_right_L1 h) (some true) (some false) (fun n i h1 hi => ?_) (fun n i hi => ?_) (by omega)]
  · by_cases hp : ∀ j, j < h.length → 1 ≤ j → within (gi h j - gi h (j - 1)) (-1) 1 = true
    · rw [if_pos hp, decide_eq_true hp]
    · rw [if_neg hp, decide_eq_false hp]
  · have hx : h[i]? = some h[i] := by simp [hi]
    have hy : h[i - 1]? = some h[i - 1] := List.getElem?_eq_getElem (by omega)
    have bx := hb h[i] (List.getElem_mem _)
    have by_ := hb h[i - 1] (List.getElem_mem _)
    show ref04_right_B1 h (ref04_right_L1 h n) _ = _
    unfold ref04_right_B1 ref04_right_k2
    rw [if_pos (by omega), ix_nat hx, gd_pos (by omega), show ((i : Int) - 1) = ((i - 1 : Nat) : Int) by omega, ix_nat hy, gd_pos (by omega), gi_of hx, gi_of hy]
    by_cases h1 : (1 : Int) < h[i] - h[i - 1]
    · rw [if_pos h1]; simp [within]; omega
    · rw [if_neg h1, gd_pos (by omega), ix_nat hy, ix_nat hx, gd_pos (by omega), gd_pos (by omega)]
      by_cases h2 : (1 : Int) < h[i - 1] - h[i]
      · simp [h2, within]; omega
      · have : within (h[i] - h[i - 1]) (-1) 1 = true := within_iff.2 (by omega)
        simp [h2, this]
  · show ref04_right_B1 h (ref04_right_L1 h n) _ = _
    unfold ref04_right_B1
    rw [if_neg (by omega)]; rfl
def isum : List Int → Int
  | [] => 0
  | x :: r => x + isum r
theorem isum_append (l m : List Int) : isum (l ++ m) = isum l + isum m := by
  induction l with
  | nil => simp [isum]
  | cons x r ih => simp [isum, ih]; omega
theorem isum_take {l : List Int} {j : Nat} {x : Int} (h : l[j]? = some x) : isum (l.take (j + 1)) = isum (l.take j) + x := by
  have hj := lt_of_at h
  rw [List.take_succ_eq_append_getElem hj, isum_append]
  have : l[j] = x := by rw [List.getElem?_eq_getElem hj] at h; exact Option.some.inj h
  simp [isum, this]
theorem isum_bnd {l : List Int} (h : ∀ x ∈ l, -50 ≤ x ∧ x ≤ 50) : -50 * (l.length : Int) ≤ isum l ∧ isum l ≤ 50 * (l.length : Int) := by
  induction l with
  | nil => simp [isum]
  | cons x r ih =>
    have := ih (fun y hy => h y (List.mem_cons_of_mem _ hy))
    have := h x (List.mem_cons_self ..)
    simp only [isum, List.length_cons]
    omega
def colW (b : Bog) (c : Nat) (n : Int) : Int := isum ((b.worth.getD c []).take n.toNat)
def wsum (b : Bog) (h : List Int) : Nat → Int
  | 0 => 0
  | c + 1 => wsum b h c + colW b c (gi h c)
theorem col_of {b : Bog} {c : Nat} {x : List Int} (h : b.worth[c]? = some x) (n : Int) : colW b c n = isum (x.take n.toNat) := by simp [colW, List.getD, h]
theorem colW_bnd {b : Bog} (hb : Ok b) (c : Nat) (n : Int) : -200 ≤ colW b c n ∧ colW b c n ≤ 200 := by
  unfold colW
  have : ∀ x ∈ (b.worth.getD c []).take n.toNat, -50 ≤ x ∧ x ≤ 50 := fun x hx => by
    have hx := List.mem_of_mem_take hx
    by_cases hc : c < b.worth.length
    · have : b.worth.getD c [] = b.worth[c] := by simp [List.getD, hc]
      rw [this] at hx
      exact (hb.col _ (List.getElem_mem hc)).2 x hx
    · have : b.worth.getD c [] = [] := by simp [List.getD]; rw [List.getElem?_eq_none (by omega)]; rfl
      rw [this] at hx; cases hx
  have h1 := isum_bnd this
  have h2 : ((b.worth.getD c []).take n.toNat).length ≤ 4 := by
    rw [List.length_take]
    by_cases hc : c < b.worth.length
    · have e : b.worth.getD c [] = b.worth[c] := by simp [List.getD, hc]
      have := (hb.col _ (List.getElem_mem hc)).1
      have := hb.d4
      rw [e]; omega
    · have : b.worth.getD c [] = [] := by simp [List.getD]; rw [List.getElem?_eq_none (by omega)]; rfl
      rw [this]; simp
  omega
theorem wsum_bnd {b : Bog} (hb : Ok b) (h : List Int) : ∀ c : Nat, -200 * (c : Int) ≤ wsum b h c ∧ wsum b h c ≤ 200 * (c : Int)
  | 0 => by simp [wsum]
  | c + 1 => by
    have h1 := wsum_bnd hb h c
    have h2 := colW_bnd hb c (gi h c)
    simp only [wsum]
    omega
theorem worth_eq {b : Bog} {h : List Int} (hb : Ok b) (ho : okL b h = true) : cut_worth b h = some (wsum b h h.length) := by
  have ⟨hl, hx⟩ := okL_iff.1 ho
  have h6 := hb.n6
  unfold cut_worth
  refine Eq.trans (for_loop0 h.length (wsum b h) (fun n s i => cut_worth_L2 b h n s i) (some (wsum b h h.length)) (fun n i hi => ?_) (fun n => ?_) (by omega)) rfl
  · have hv : h[i]? = some h[i] := by simp [hi]
    have hc : b.worth[i]? = some b.worth[i] := List.getElem?_eq_getElem (by omega)
    have hcol := hb.col b.worth[i] (List.getElem_mem _)
    have hxi := hx h[i] (List.getElem_mem _)
    have hd := hb.d4
    show cut_worth_B2 b h (cut_worth_L2 b h n) _ _ = _
    unfold cut_worth_B2
    rw [if_pos (by omega), ix_nat hv, ix_nat hc, gd_pos (by omega)]
    have hlen : (List.take (Int.toNat h[i]) b.worth[i]).length = (h[i]).toNat := by rw [List.length_take]; omega
    have hws := wsum_bnd hb h i
    refine Eq.trans (for0 (List.take (Int.toNat h[i]) b.worth[i]).length (fun j => wsum b h i + isum ((List.take (Int.toNat h[i]) b.worth[i]).take j)) (fun m s j => cut_worth_L1 i (cut_worth_L2 b h n) h[i] b.worth[i] m s j) (cut_worth_L2 b h n (wsum b h (i + 1)) ((i + 1 : Nat) : Int)) (by simp [isum]) (fun m j hj => ?_) (fun m => ?_) (by omega)) rfl
    · have hw : (List.take (Int.toNat h[i]) b.worth[i])[j]? = some (List.take (Int.toNat h[i]) b.worth[i])[j] := by simp only [List.getElem?_eq_getElem hj]
      have hs := isum_bnd (l := (List.take (Int.toNat h[i]) b.worth[i]).take j) (fun x hm => hcol.2 x (List.mem_of_mem_take (List.mem_of_mem_take hm)))
      have hwb := hcol.2 _ (List.mem_of_mem_take (List.getElem_mem hj))
      have hjl : (List.take j (List.take (Int.toNat h[i]) b.worth[i])).length ≤ 4 := by rw [List.length_take]; omega
      show cut_worth_B1 i (cut_worth_L2 b h n) h[i] b.worth[i] (cut_worth_L1 i (cut_worth_L2 b h n) h[i] b.worth[i] m) _ _ = _
      unfold cut_worth_B1
      rw [if_pos (by omega), ix_nat hw, gd_pos (by omega), gd_pos (by omega), isum_take hw, Int.add_assoc]
      rfl
    · show cut_worth_B1 i (cut_worth_L2 b h n) h[i] b.worth[i] (cut_worth_L1 i (cut_worth_L2 b h n) h[i] b.worth[i] m) _ _ = _
      unfold cut_worth_B1
      rw [if_neg (by omega)]
      unfold cut_worth_k2
      rw [gd_pos (by omega), List.take_length]
      show cut_worth_L2 b h n _ _ = cut_worth_L2 b h n (wsum b h i + colW b i (gi h i)) _
      rw [gi_of hv, col_of hc]
      rfl
  · show cut_worth_B2 b h (cut_worth_L2 b h n) _ _ = _
    unfold cut_worth_B2
    rw [if_neg (by omega)]; rfl
theorem rworth_eq {b : Bog} {h : List Int} (hb : Ok b) (ho : okL b h = true) : ref04_worth b h = some (wsum b h h.length) := by
  have ⟨hl, hx⟩ := okL_iff.1 ho
  have h6 := hb.n6
  unfold ref04_worth
  refine Eq.trans (for_loop0 h.length (wsum b h) (fun n s i => ref04_worth_L2 b h n s i) (some (wsum b h h.length)) (fun n i hi => ?_) (fun n => ?_) (by omega)) rfl
  · have hv : h[i]? = some h[i] := by simp [hi]
    have hc : b.worth[i]? = some b.worth[i] := List.getElem?_eq_getElem (by omega)
    have hcol := hb.col b.worth[i] (List.getElem_mem _)
    have hxi := hx h[i] (List.getElem_mem _)
    have hd := hb.d4
    show ref04_worth_B2 b h (ref04_worth_L2 b h n) _ _ = _
    unfold ref04_worth_B2
    rw [if_pos (by omega)]
    have hws := wsum_bnd hb h i
    refine Eq.trans (for0 (h[i]).toNat (fun j => wsum b h i + isum (b.worth[i].take j)) (fun m s j => ref04_worth_L1 b h i (ref04_worth_L2 b h n) m s j) (ref04_worth_L2 b h n (wsum b h (i + 1)) ((i + 1 : Nat) : Int)) (by simp [isum]) (fun m j hj => ?_) (fun m => ?_) (by omega)) rfl
    · have hjc : j < b.worth[i].length := by omega
      have hw : b.worth[i][j]? = some b.worth[i][j] := by simp only [List.getElem?_eq_getElem hjc]
      have hs := isum_bnd (l := b.worth[i].take j) (fun x hm => hcol.2 x (List.mem_of_mem_take hm))
      have hwb := hcol.2 _ (List.getElem_mem hjc)
      have hjl : (List.take j b.worth[i]).length ≤ 4 := by rw [List.length_take]; omega
      show ref04_worth_B1 b h i (ref04_worth_L2 b h n) (ref04_worth_L1 b h i (ref04_worth_L2 b h n) m) _ _ = _
      unfold ref04_worth_B1
      rw [ix_nat hv, if_pos (by omega), ix_nat hc, ix_nat hw, gd_pos (by omega), gd_pos (by omega), isum_take hw, Int.add_assoc]
      rfl
    · show ref04_worth_B1 b h i (ref04_worth_L2 b h n) (ref04_worth_L1 b h i (ref04_worth_L2 b h n) m) _ _ = _
      unfold ref04_worth_B1
      rw [ix_nat hv, if_neg (by omega)]
      unfold ref04_worth_k2
      rw [gd_pos (by omega)]
      show ref04_worth_L2 b h n _ _ = ref04_worth_L2 b h n (wsum b h i + colW b i (gi h i)) _
      rw [gi_of hv, col_of hc]
      rfl
  · show ref04_worth_B2 b h (ref04_worth_L2 b h n) _ _ = _
    unfold ref04_worth_B2
    rw [if_neg (by omega)]; rfl
def longB (b : Bog) (ls : List (List Int)) : Bool := !(ls.all fun l => !decide ((100 : Int) < l.length)) || (!(b.worth.all fun l => !decide ((50 : Int) < l.length)) || decide ((50 : Int) < b.worth.length))
theorem Long_eq {b : Bog} {ls : List (List Int)} (h1 : ls.length ≤ 9223372036854775807) (h2 : b.worth.length ≤ 9223372036854775807) : law04_Long b ls = some (longB b ls) := by
  unfold law04_Long longB
  rw [list_loop0 ls (fun l => !decide ((100 : Int) < l.length)) (law04_Long_L2 b ls) (law04_Long_k2 b) (some true) (fun n i x hx => ?_) (fun n => ?_) h1]
  · cases ls.all fun l => !decide ((100 : Int) < l.length)
    · simp
    · simp only [if_true, Bool.not_true, Bool.false_or]
      unfold law04_Long_k2
      rw [list_loop0 b.worth (fun l => !decide ((50 : Int) < l.length)) (law04_Long_L1 b) (law04_Long_k1 b) (some true) (fun n i x hx => ?_) (fun n => ?_) h2]
      · cases b.worth.all fun l => !decide ((50 : Int) < l.length)
        · simp
        · simp [law04_Long_k1]
      · have := lt_of_at hx
        show law04_Long_B1 b (law04_Long_L1 b n) _ = _
        unfold law04_Long_B1
        rw [if_pos (by omega), ix_nat hx, gd_pos (by omega)]
        by_cases h : (50 : Int) < x.length <;> simp [h]
      · show law04_Long_B1 b (law04_Long_L1 b n) _ = _
        unfold law04_Long_B1
        rw [if_neg (by omega)]
  · have := lt_of_at hx
    show law04_Long_B2 b ls (law04_Long_L2 b ls n) _ = _
    unfold law04_Long_B2
    rw [if_pos (by omega), ix_nat hx, gd_pos (by omega)]
    by_cases h : (100 : Int) < x.length <;> simp [h]
  · show law04_Long_B2 b ls (law04_Long_L2 b ls n) _ = _
    unfold law04_Long_B2
    rw [if_neg (by omega)]
theorem long_short {b : Bog} {ls : List (List Int)} (h : longB b ls = false) : Short b ∧ ∀ l ∈ ls, l.length ≤ 100 := by
  unfold longB at h
  simp only [Bool.or_eq_false_iff, Bool.not_eq_false', List.all_eq_true, Bool.not_eq_true', decide_eq_false_iff_not] at h
  obtain ⟨h1, h2, h3⟩ := h
  exact ⟨⟨by omega, fun c hc => by have := h2 c hc; omega⟩, fun l hl => by have := h1 l hl; omega⟩
end Go.D4

set_option linter.unusedVariables false
set_option linter.unusedSimpArgs false
namespace Go.D4
open Go.Tb
theorem Clone_eq {l : List Int} (h : l.length ≤ 1000000) : slices_Clone_int l = some l := by
  unfold slices_Clone_int
  rw [gd_pos (by simpa using h)]; rfl
def bump (h : List Int) (c : Nat) : List Int := h.set c (gi h c + 1)
def openB (b : Bog) (h : List Int) (c : Nat) : Bool := decide (gi h c + 1 ≤ dep b) && rightB (bump h c)
theorem gi_mem {h : List Int} {c : Nat} (hc : c < h.length) : gi h c ∈ h := by
  have : h[c]? = some h[c] := by simp [hc]
  rw [gi_of this]; exact List.getElem_mem hc
theorem gi_at {h : List Int} {c : Nat} (hc : c < h.length) : h[c]? = some (gi h c) := by
  have : h[c]? = some h[c] := by simp [hc]
  rw [gi_of this]; exact this
theorem SameInts_self {l : List Int} (hl : l.length ≤ 1000000) : ref04_SameInts l l = some true := by
  unfold ref04_SameInts
  rw [if_pos rfl, list_loop0 l (fun _ => true) (ref04_SameInts_L1 l l) (some true) (some false) (fun n i x hx => ?_) (fun n => ?_) (by omega)]
  · simp
  · have := lt_of_at hx
    show ref04_SameInts_B1 l l (ref04_SameInts_L1 l l n) _ = _
    unfold ref04_SameInts_B1
    rw [if_pos (by omega), ix_nat hx, ix_nat hx, if_pos rfl, gd_pos (by omega), if_pos rfl]; rfl
  · show ref04_SameInts_B1 l l (ref04_SameInts_L1 l l n) _ = _
    unfold ref04_SameInts_B1
    rw [if_neg (by omega)]; rfl
theorem bump_hollow {b : Bog} {h : List Int} (hb : Ok b) (ho : okL b h = true) {c : Nat} (hc : c < h.length) (hop : openB b h c = true) : hollowE b (bump h c) = 0 := by
  unfold openB at hop
  simp only [Bool.and_eq_true, decide_eq_true_eq] at hop
  refine hollow0.2 ⟨hb, okL_iff.2 ⟨by simp [bump, (okL_iff.1 ho).1], fun x hx => ?_⟩, hop.2⟩
  unfold bump at hx
  rcases List.mem_or_eq_of_mem_set hx with h1 | h1
  · exact (okL_iff.1 ho).2 x h1
  · have := (okL_iff.1 ho).2 _ (gi_mem hc)
    omega
end Go.D4

set_option linter.unusedVariables false
set_option linter.unusedSimpArgs false
namespace Go.D4
open Go.Tb
def inCols (b : Bog) (c : Int) : Bool := within c 0 ((b.worth.length : Int) - 1)
/-- The hollow after the first i columns of an order (a column that is not open changes nothing). -/
def ordN (b : Bog) (o : List Int) : Nat → List Int
  | 0 => List.replicate b.worth.length 0
  | i + 1 => if openB b (ordN b o i) (gi o i).toNat = true then bump (ordN b o i) (gi o i).toNat else ordN b o i
theorem okL_zero {b : Bog} (hb : Ok b) : okL b (List.replicate b.worth.length 0) = true :=
  okL_iff.2 ⟨by simp, fun x hx => by have := List.eq_of_mem_replicate hx; have := hb.d1; omega⟩
def ordP (b : Bog) (o : List Int) (i : Nat) : Bool := openB b (ordN b o i) (gi o i).toNat
end Go.D4

set_option linter.unusedVariables false
set_option linter.unusedSimpArgs false
namespace Go.D4
open Go.Tb
theorem zw_at {f : Int → Int → Int} {h k : List Int} {i : Nat} {x y : Int} (hx : h[i]? = some x) (hy : k[i]? = some y) : (List.zipWith f h k)[i]? = some (f x y) := by
  rw [List.getElem?_zipWith, hx, hy]
theorem zw_gi {f : Int → Int → Int} {h k : List Int} (hl : k.length = h.length) {i : Nat} (hi : i < h.length) : gi (List.zipWith f h k) i = f (gi h i) (gi k i) :=
  gi_of (zw_at (gi_at hi) (gi_at (by omega)))
theorem joined_eq {h k : List Int} {F : Int → Int → Option Int} {f : Int → Int → Int} (hF : ∀ x y, F x y = some (f x y)) (hl : k.length = h.length) (hn : h.length ≤ 1000) : cut_joined h k F = some (List.zipWith f h k) := by
  unfold cut_joined
  have hzl : (List.zipWith f h k).length = h.length := by simp; omega
  refine Eq.trans (for0 h.length (fun i => (List.zipWith f h k).take i) (fun n s i => cut_joined_L1 h k F n i s) (some (List.zipWith f h k)) (by simp) (fun n i hi => ?_) (fun n => ?_) (by omega)) rfl
  · show cut_joined_B1 h k F (cut_joined_L1 h k F n) _ _ = _
    unfold cut_joined_B1
    have hz := zw_at (f := f) (gi_at hi) (gi_at (h := k) (c := i) (by omega))
    have e : (List.zipWith f h k).take (i + 1) = (List.zipWith f h k).take i ++ [f (gi h i) (gi k i)] := by
      rw [List.take_add_one, hz]; rfl
    rw [if_pos (by omega), ix_nat (gi_at hi), ix_nat (gi_at (by omega)), bnd_eq (hF _ _), gd_pos (by simp; omega), gd_pos (by omega), e]; rfl
  · show cut_joined_B1 h k F (cut_joined_L1 h k F n) _ _ = _
    unfold cut_joined_B1
    rw [if_neg (by omega)]
    unfold cut_joined_k1
    rw [List.take_of_length_le (by omega)]
theorem smaller_eq (x y : Int) : cut_smaller x y = some (min x y) := rfl
theorem greater_eq (x y : Int) : cut_greater x y = some (max x y) := rfl
/-- One row taken in, the first j columns of it. -/
def mixN (f : Int → Int → Int) (s r : List Int) (j : Nat) : List Int := (List.zipWith f s r).take j ++ s.drop j
theorem mix_step {f : Int → Int → Int} {s r : List Int} (hl : r.length = s.length) {j : Nat} (hj : j < s.length) : (mixN f s r j)[j]? = some (gi s j) ∧ (mixN f s r j).set j (f (gi s j) (gi r j)) = mixN f s r (j + 1) ∧ (mixN f s r j).length = s.length := by
  have hz := zw_at (f := f) (gi_at hj) (gi_at (h := r) (c := j) (by omega))
  have hzl : ((List.zipWith f s r).take j).length = j := by simp; omega
  have hd : s.drop j = gi s j :: s.drop (j + 1) := by
    rw [List.drop_eq_getElem_cons hj]
    congr 1
    have := gi_at hj
    rw [List.getElem?_eq_getElem hj] at this
    exact Option.some.inj this
  refine ⟨?_, ?_, by unfold mixN; simp; omega⟩
  · unfold mixN
    rw [List.getElem?_append_right (by omega), hzl, hd]; simp
  · unfold mixN
    rw [List.set_append_right _ _ (by omega), hzl, hd, Nat.sub_self, List.set_cons_zero, List.take_add_one, hz]
    simp
def foldN (f : Int → Int → Int) (x : List Int) (ll : List (List Int)) : List Int := ll.foldl (fun s r => List.zipWith f s r) x
theorem fold_len {f : Int → Int → Int} {m : Nat} : ∀ (ll : List (List Int)) (x : List Int), x.length = m → (∀ r ∈ ll, r.length = m) → (foldN f x ll).length = m
  | [], x, hx, h => hx
  | r :: ll, x, hx, h => by
    refine fold_len ll _ ?_ (fun q hq => h q (List.mem_cons_of_mem _ hq))
    have := h r (List.mem_cons_self ..)
    simp; omega
theorem fold_take {f : Int → Int → Int} {x : List Int} {ll : List (List Int)} {i : Nat} {r : List Int} (h : ll[i]? = some r) : foldN f x (ll.take (i + 1)) = List.zipWith f (foldN f x (ll.take i)) r := by
  have hi := lt_of_at h
  rw [List.take_add_one, h]
  simp [foldN, List.foldl_append]
theorem least_eq {ll : List (List Int)} {x : List Int} (hx : ll[0]? = some x) (hl : ∀ r ∈ ll, r.length = x.length) (hn : x.length ≤ 1000) (hm : ll.length ≤ 1000000) : ref04_least ll = some (foldN min x ll) := by
  unfold ref04_least
  rw [ix0 hx, gd_pos (by simp; omega), List.nil_append]
  refine Eq.trans (for0 ll.length (fun i => foldN min x (ll.take i)) (fun n s i => ref04_least_L2 ll n i s) (some (foldN min x ll)) rfl (fun n i hi => ?_) (fun n => ?_) (by omega)) rfl
  · have hr : ll[i]? = some ll[i] := by simp [hi]
    have hrl := hl ll[i] (List.getElem_mem _)
    have hfl := fold_len (f := min) (ll.take i) x rfl (fun r hr => hl r (List.mem_of_mem_take hr))
    show ref04_least_B2 ll (ref04_least_L2 ll n) _ _ = _
    unfold ref04_least_B2
    rw [if_pos (by omega)]
    refine Eq.trans (for0 x.length (mixN min (foldN min x (ll.take i)) ll[i]) (fun m s j => ref04_least_L1 ll i (ref04_least_L2 ll n) m j s) (ref04_least_L2 ll n ((i + 1 : Nat) : Int) (foldN min x (ll.take (i + 1)))) (by simp [mixN]) (fun m j hj => ?_) (fun m => ?_) (by omega)) rfl
    · have hj' : j < (foldN min x (ll.take i)).length := by omega
      obtain ⟨m1, m2, m3⟩ := mix_step (f := min) (s := foldN min x (ll.take i)) (r := ll[i]) (by omega) hj'
      show ref04_least_B1 ll i (ref04_least_L2 ll n) (ref04_least_L1 ll i (ref04_least_L2 ll n) m) _ _ = _
      unfold ref04_least_B1
      rw [if_pos (by omega), ix_nat m1, ix_nat hr, ix_nat (gi_at (by omega)), ix_nat m1, gd_pos (by omega), ← m2]; rfl
    · show ref04_least_B1 ll i (ref04_least_L2 ll n) (ref04_least_L1 ll i (ref04_least_L2 ll n) m) _ _ = _
      unfold ref04_least_B1
      have e : mixN min (foldN min x (ll.take i)) ll[i] x.length = foldN min x (ll.take (i + 1)) := by
        rw [fold_take hr]; unfold mixN
        rw [List.take_of_length_le (by simp; omega), List.drop_of_length_le (by omega), List.append_nil]
      have hel := fold_len (f := min) (ll.take (i + 1)) x rfl (fun r hr => hl r (List.mem_of_mem_take hr))
      rw [e, if_neg (by omega)]
      unfold ref04_least_k2
      rw [gd_pos (by omega)]; rfl
  · show ref04_least_B2 ll (ref04_least_L2 ll n) _ _ = _
    unfold ref04_least_B2
    rw [if_neg (by omega), List.take_length]; rfl
theorem most_eq {ll : List (List Int)} {x : List Int} (hx : ll[0]? = some x) (hl : ∀ r ∈ ll, r.length = x.length) (hn : x.length ≤ 1000) (hm : ll.length ≤ 1000000) : ref04_most ll = some (foldN max x ll) := by
  unfold ref04_most
  rw [ix0 hx, gd_pos (by simp; omega), List.nil_append]
  refine Eq.trans (for0 ll.length (fun i => foldN max x (ll.take i)) (fun n s i => ref04_most_L2 ll n i s) (some (foldN max x ll)) rfl (fun n i hi => ?_) (fun n => ?_) (by omega)) rfl
  · have hr : ll[i]? = some ll[i] := by simp [hi]
    have hrl := hl ll[i] (List.getElem_mem _)
    have hfl := fold_len (f := max) (ll.take i) x rfl (fun r hr => hl r (List.mem_of_mem_take hr))
    show ref04_most_B2 ll (ref04_most_L2 ll n) _ _ = _
    unfold ref04_most_B2
    rw [if_pos (by omega)]
    refine Eq.trans (for0 x.length (mixN max (foldN max x (ll.take i)) ll[i]) (fun m s j => ref04_most_L1 ll i (ref04_most_L2 ll n) m j s) (ref04_most_L2 ll n ((i + 1 : Nat) : Int) (foldN max x (ll.take (i + 1)))) (by simp [mixN]) (fun m j hj => ?_) (fun m => ?_) (by omega)) rfl
    · have hj' : j < (foldN max x (ll.take i)).length := by omega
      obtain ⟨m1, m2, m3⟩ := mix_step (f := max) (s := foldN max x (ll.take i)) (r := ll[i]) (by omega) hj'
      show ref04_most_B1 ll i (ref04_most_L2 ll n) (ref04_most_L1 ll i (ref04_most_L2 ll n) m) _ _ = _
      unfold ref04_most_B1
      rw [if_pos (by omega), ix_nat m1, ix_nat hr, ix_nat (gi_at (by omega)), ix_nat m1, gd_pos (by omega), ← m2]; rfl
    · show ref04_most_B1 ll i (ref04_most_L2 ll n) (ref04_most_L1 ll i (ref04_most_L2 ll n) m) _ _ = _
      unfold ref04_most_B1
      have e : mixN max (foldN max x (ll.take i)) ll[i] x.length = foldN max x (ll.take (i + 1)) := by
        rw [fold_take hr]; unfold mixN
        rw [List.take_of_length_le (by simp; omega), List.drop_of_length_le (by omega), List.append_nil]
      have hel := fold_len (f := max) (ll.take (i + 1)) x rfl (fun r hr => hl r (List.mem_of_mem_take hr))
      rw [e, if_neg (by omega)]
      unfold ref04_most_k2
      rw [gd_pos (by omega)]; rfl
  · show ref04_most_B2 ll (ref04_most_L2 ll n) _ _ = _
    unfold ref04_most_B2
    rw [if_neg (by omega), List.take_length]; rfl
theorem lens {b : Bog} {h k : List Int} (h0 : hollowE b h = 0) (k0 : hollowE b k = 0) : k.length = h.length ∧ h.length ≤ 6 := by
  have ⟨hb, ho, _⟩ := hollow0.1 h0
  have ⟨_, ko, _⟩ := hollow0.1 k0
  have := (okL_iff.1 ho).1; have := (okL_iff.1 ko).1; have := hb.n6
  omega
theorem zw_self {f : Int → Int → Int} (hf : ∀ x, f x x = x) : ∀ h : List Int, List.zipWith f h h = h
  | [] => rfl
  | x :: r => by simp [hf, zw_self hf r]
theorem rightB_iff {h : List Int} : rightB h = true ↔ ∀ j, j < h.length → 1 ≤ j → -1 ≤ gi h j - gi h (j - 1) ∧ gi h j - gi h (j - 1) ≤ 1 := by
  unfold rightB
  simp only [decide_eq_true_eq, within_iff]
theorem hollow_zip {b : Bog} {h k : List Int} {f : Int → Int → Int} (hf : (∀ x y, f x y = min x y) ∨ (∀ x y, f x y = max x y)) (h0 : hollowE b h = 0) (k0 : hollowE b k = 0) : hollowE b (List.zipWith f h k) = 0 := by
  have ⟨l1, l2⟩ := lens h0 k0
  have ⟨hb, ho, hr⟩ := hollow0.1 h0
  have ⟨_, ko, kr⟩ := hollow0.1 k0
  have hzl : (List.zipWith f h k).length = h.length := by simp; omega
  refine hollow0.2 ⟨hb, okL_iff.2 ⟨by rw [hzl]; exact (okL_iff.1 ho).1, fun x hx => ?_⟩, rightB_iff.2 fun j hj h1 => ?_⟩
  · obtain ⟨i, hi⟩ := List.getElem?_of_mem hx
    have hlt := lt_of_at hi
    rw [zw_at (gi_at (by omega)) (gi_at (by omega))] at hi
    have e := Option.some.inj hi
    have b1 := (okL_iff.1 ho).2 _ (gi_mem (h := h) (c := i) (by omega))
    have b2 := (okL_iff.1 ko).2 _ (gi_mem (h := k) (c := i) (by omega))
    rcases hf with hf | hf <;> rw [hf] at e <;> omega
  · rw [hzl] at hj
    have r1 := rightB_iff.1 hr j hj h1
    have r2 := rightB_iff.1 kr j (by omega) h1
    rw [zw_gi l1 hj, zw_gi l1 (by omega)]
    rcases hf with hf | hf <;> rw [hf, hf] <;> omega
theorem colW_mm (b : Bog) (c : Nat) (x y : Int) : colW b c (min x y) + colW b c (max x y) = colW b c x + colW b c y := by
  by_cases h : x ≤ y
  · rw [show min x y = x by omega, show max x y = y by omega]
  · rw [show min x y = y by omega, show max x y = x by omega]; omega
theorem wsum_mm {b : Bog} {h k : List Int} (hl : k.length = h.length) : ∀ i, i ≤ h.length → wsum b (List.zipWith min h k) i + wsum b (List.zipWith max h k) i = wsum b h i + wsum b k i
  | 0, _ => rfl
  | i + 1, hi => by
    have ih := wsum_mm (b := b) hl i (by omega)
    have := colW_mm b i (gi h i) (gi k i)
    simp only [wsum]
    rw [zw_gi hl (by omega), zw_gi hl (by omega)]
    omega
end Go.D4

set_option linter.unusedVariables false
set_option linter.unusedSimpArgs false
namespace Go.D4
open Go.Tb
structure Inv (b : Bog) (h at_ : List Int) (r : Nat) : Prop where
  ok : Ok b
  lh : okL b h = true
  rh : rightB h = true
  la : okL b at_ = true
  ra : rightB at_ = true
  le : ∀ c, c < h.length → gi at_ c ≤ gi h c
  r_ : isum h - isum at_ = (r : Int)
theorem Inv.len {b : Bog} {h at_ : List Int} {r : Nat} (i : Inv b h at_ r) : at_.length = h.length ∧ h.length ≤ 6 := by
  have := (okL_iff.1 i.lh).1; have := (okL_iff.1 i.la).1; have := i.ok.n6
  omega
theorem isum_bump : ∀ {l : List Int} {c : Nat}, c < l.length → isum (bump l c) = isum l + 1
  | x :: r, 0, _ => by simp [bump, isum, gi]; omega
  | x :: r, c + 1, h => by
    have := isum_bump (l := r) (c := c) (by simpa using h)
    simp only [bump, isum, List.set_cons_succ] at this ⊢
    have e : gi (x :: r) (c + 1) = gi r c := by simp [gi, List.getD]
    rw [e]; omega
theorem isum_le : ∀ {l m : List Int}, l.length = m.length → (∀ c, c < m.length → gi l c ≤ gi m c) → isum l ≤ isum m ∧ (isum l = isum m → l = m)
  | [], [], _, _ => by simp
  | x :: r, y :: s, hl, h => by
    have h0 := h 0 (by simp)
    have ih := isum_le (l := r) (m := s) (by simpa using hl) (fun c hc => by
      have := h (c + 1) (by simpa using hc)
      simpa [gi, List.getD] using this)
    simp only [gi, List.getD, List.getElem?_cons_zero, Option.getD_some] at h0
    simp only [isum]
    refine ⟨by omega, fun e => ?_⟩
    have e1 : x = y := by omega
    have e2 := ih.2 (by omega)
    rw [e1, e2]
theorem gi_bump {l : List Int} {c j : Nat} (hc : c < l.length) : gi (bump l c) j = if j = c then gi l c + 1 else gi l j := by
  unfold bump gi
  simp only [List.getD, List.getElem?_set]
  by_cases h : c = j
  · subst h; simp [hc]
  · rw [if_neg h, if_neg (fun e => h e.symm)]
theorem Inv.next {b : Bog} {h at_ : List Int} {r c : Nat} (i : Inv b h at_ (r + 1)) (hc : c < at_.length) (hlt : gi at_ c < gi h c) (hop : openB b at_ c = true) : Inv b h (bump at_ c) r := by
  have hh := hollow0.1 (bump_hollow i.ok i.la hc hop)
  refine ⟨i.ok, i.lh, i.rh, hh.2.1, hh.2.2, fun j hj => ?_, ?_⟩
  · rw [gi_bump hc]
    split
    · rename_i e; subst e; omega
    · exact i.le j hj
  · rw [isum_bump hc]; have := i.r_; omega
theorem Inv.zero {b : Bog} {h : List Int} (h0 : hollowE b h = 0) : Inv b h (List.replicate h.length 0) (isum h).toNat ∧ (isum h).toNat ≤ 24 := by
  have ⟨hb, ho, hr⟩ := hollow0.1 h0
  have ⟨hl, hx⟩ := okL_iff.1 ho
  have g0 : ∀ c, gi (List.replicate h.length 0) c = 0 := fun c => by
    unfold gi; simp only [List.getD, List.getElem?_replicate]; split <;> rfl
  have s0 : ∀ n, isum (List.replicate n 0) = 0 := fun n => by
    induction n with
    | zero => rfl
    | succ n ih => simp [List.replicate_succ, isum, ih]
  have nn : 0 ≤ isum h ∧ isum h ≤ 4 * (h.length : Int) := by
    have hd := hb.d4
    clear hl ho hr h0 g0
    induction h with
    | nil => simp [isum]
    | cons x r ih =>
      have := ih (fun y hy => hx y (List.mem_cons_of_mem _ hy))
      have := hx x (List.mem_cons_self ..)
      simp only [isum, List.length_cons]; omega
  have h6 := hb.n6
  refine ⟨⟨hb, ho, hr, by rw [hl]; exact okL_zero hb, rightB_iff.2 fun j hj h1 => by rw [g0, g0]; omega, fun c hc => ?_, ?_⟩, by omega⟩
  · rw [g0]; exact (hx _ (gi_mem hc)).1
  · rw [s0]; omega
theorem Inv.done {b : Bog} {h at_ : List Int} (i : Inv b h at_ 0) : at_ = h := by
  have ⟨hl, _⟩ := i.len
  exact (isum_le hl i.le).2 (by have := i.r_; omega)
end Go.D4

set_option linter.unusedVariables false
set_option linter.unusedSimpArgs false
namespace Go.D4
open Go.Tb
/-- What is known of an order that has been made so far. -/
structure Led (b : Bog) (out at_ : List Int) : Prop where
  cols : ∀ x ∈ out, inCols b x = true
  all : ∀ j, j < out.length → ordP b out j = true
  to : ordN b out out.length = at_
theorem ordN_pre {b : Bog} {o s : List Int} : ∀ i, i ≤ o.length → ordN b (o ++ s) i = ordN b o i
  | 0, _ => rfl
  | i + 1, h => by
    have ih := ordN_pre (b := b) (o := o) (s := s) i (by omega)
    have e : gi (o ++ s) i = gi o i := by
      have hlt : i < o.length := by omega
      unfold gi
      simp only [List.getD, List.getElem?_append_left hlt]
    show (if openB b (ordN b (o ++ s) i) (gi (o ++ s) i).toNat = true then _ else _) = (if _ then _ else _)
    rw [ih, e]
theorem Led.next {b : Bog} {out at_ : List Int} {c : Nat} (l : Led b out at_) (hc : c < b.worth.length) (hop : openB b at_ c = true) : Led b (out ++ [(c : Int)]) (bump at_ c) := by
  have e : gi (out ++ [(c : Int)]) out.length = (c : Int) := gi_of (by simp)
  have e2 : ordN b (out ++ [(c : Int)]) out.length = at_ := by rw [ordN_pre _ (Nat.le_refl _), l.to]
  refine ⟨fun x hx => ?_, fun j hj => ?_, ?_⟩
  · rcases List.mem_append.1 hx with h | h
    · exact l.cols x h
    · have : x = (c : Int) := by simpa using h
      rw [this]; exact within_iff.2 (by omega)
  · by_cases hjl : j < out.length
    · have h1 := l.all j hjl
      unfold ordP at h1 ⊢
      have e3 : gi (out ++ [(c : Int)]) j = gi out j := by
        unfold gi
        simp only [List.getD, List.getElem?_append_left hjl]
      rw [ordN_pre _ (by omega), e3]; exact h1
    · have : j = out.length := by simp at hj; omega
      subst this
      unfold ordP
      rw [e2, e]; exact hop
  · rw [List.length_append, List.length_singleton]
    show (if openB b (ordN b (out ++ [(c : Int)]) out.length) (gi (out ++ [(c : Int)]) out.length).toNat = true then _ else _) = _
    rw [e2, e]
    have et : ((c : Int)).toNat = c := by omega
    rw [et, if_pos hop]
end Go.D4

set_option linter.unusedVariables false
set_option linter.unusedSimpArgs false
namespace Go.D4
open Go.Tb
/-- A bog of n columns with d blocks each. -/
def shape (n d : Nat) : Bog := ⟨List.replicate n (List.replicate d 0)⟩
def a6 (x : Arr6) : List Int := [x.at0, x.at1, x.at2, x.at3, x.at4, x.at5]
def stepOk (h : List Int) (x : Int) : Bool := match h.getLast? with | none => true | some y => within (x - y) (-1) 1
def specL (d : Nat) : Nat → List (List Int)
  | 0 => [[]]
  | c + 1 => (specL d c).flatMap fun h => (((List.range (d + 1)).map fun (x : Nat) => (x : Int)).filter (stepOk h)).map fun x => h ++ [x]
def agree (n d : Nat) : Bool := match cut_all (shape n d) with
  | some l => l.map (fun x => (a6 x).take n) == specL d n
  | none => false
end Go.D4

set_option linter.unusedVariables false
set_option linter.unusedSimpArgs false
namespace Go.D4
open Go.Tb
section
variable {a b : Bog} (hw : a.worth.length = b.worth.length) (hd : cut_depth a = cut_depth b)
include hw hd
theorem all_k1 (l1 : List Arr6) (l2 : List Int) (rec1 : List Arr6 → List Int → Option (List Arr6)) : cut_all_k1 a l1 l2 rec1 = cut_all_k1 b l1 l2 rec1 := by
  unfold cut_all_k1; simp only [hw, hd]
theorem all_L1 (l1 : List Arr6) (l2 : List Int) (rec1 : List Arr6 → List Int → Option (List Arr6)) : ∀ n t, cut_all_L1 a l1 l2 rec1 n t = cut_all_L1 b l1 l2 rec1 n t
  | 0, t => rfl
  | n + 1, t => by
    show cut_all_B1 a l1 l2 rec1 (cut_all_L1 a l1 l2 rec1 n) t = cut_all_B1 b l1 l2 rec1 (cut_all_L1 b l1 l2 rec1 n) t
    have e : cut_all_L1 a l1 l2 rec1 n = cut_all_L1 b l1 l2 rec1 n := funext fun t => all_L1 l1 l2 rec1 n t
    rw [e]
    unfold cut_all_B1
    simp only [hw, hd, all_k1 hw hd]
theorem all_L2 : ∀ n l1 l2, cut_all_L2 a n l1 l2 = cut_all_L2 b n l1 l2
  | 0, l1, l2 => rfl
  | n + 1, l1, l2 => by
    show cut_all_B2 a (cut_all_L2 a n) l1 l2 = cut_all_B2 b (cut_all_L2 b n) l1 l2
    have e : cut_all_L2 a n = cut_all_L2 b n := funext fun l1 => funext fun l2 => all_L2 n l1 l2
    rw [e]
    unfold cut_all_B2
    rw [all_L1 hw hd]
theorem all_congr : cut_all a = cut_all b := all_L2 hw hd FU _ _
end
theorem shape_depth {n d : Nat} (hn : 1 ≤ n) : cut_depth (shape n d) = some (d : Int) := by
  have hx : (shape n d).worth[0]? = some (List.replicate d 0) := by unfold shape; simp only [List.getElem?_replicate]; rw [if_pos (by omega)]
  unfold cut_depth
  rw [ix0 hx]; simp
theorem all_shape {b : Bog} (hb : Ok b) : cut_all b = cut_all (shape b.worth.length (dep b).toNat) :=
  all_congr (by simp [shape]) (by rw [depth_eq hb.n1, shape_depth hb.n1, show (((dep b).toNat : Nat) : Int) = dep b by have := hb.d1; omega])
theorem mem_spec {d : Nat} : ∀ (c : Nat) (h : List Int), h ∈ specL d c ↔ h.length = c ∧ (∀ x ∈ h, 0 ≤ x ∧ x ≤ (d : Int)) ∧ rightB h = true
  | 0, h => by
    simp only [specL, List.mem_singleton]
    constructor
    · rintro rfl; exact ⟨rfl, by simp, by decide⟩
    · rintro ⟨h1, _, _⟩; exact List.length_eq_zero_iff.1 h1
  | c + 1, h => by
    have ih := mem_spec (d := d) c
    have key : ∀ (g : List Int) (x : Int), g.length = c → (rightB (g ++ [x]) = true ↔ rightB g = true ∧ stepOk g x = true) := fun g x hg => by
      have g1 : ∀ j, j < g.length → gi (g ++ [x]) j = gi g j := fun j hj => by
        unfold gi
        simp only [List.getD, List.getElem?_append_left hj]
      have g2 : gi (g ++ [x]) g.length = x := gi_of (by simp)
      have hs : stepOk g x = true ↔ (1 ≤ g.length → -1 ≤ x - gi g (g.length - 1) ∧ x - gi g (g.length - 1) ≤ 1) := by
        unfold stepOk
        cases hl : g.getLast? with
        | none => have := List.getLast?_eq_none_iff.1 hl; subst this; simp
        | some y =>
          rw [List.getLast?_eq_getElem?] at hl
          have hlt := lt_of_at hl
          rw [gi_of hl]
          simp only [within_iff]
          exact ⟨fun h _ => h, fun h => h (by omega)⟩
      rw [rightB_iff, rightB_iff, hs]
      constructor
      · intro h
        refine ⟨fun j hj h1 => ?_, fun h1 => ?_⟩
        · have := h j (by simp; omega) h1
          rw [g1 j hj, g1 (j - 1) (by omega)] at this; exact this
        · have := h g.length (by simp) h1
          rw [g2, g1 (g.length - 1) (by omega)] at this; exact this
      · rintro ⟨h1, h2⟩ j hj h3
        by_cases e : j = g.length
        · subst e
          rw [g2, g1 (g.length - 1) (by omega)]; exact h2 h3
        · have hj' : j < g.length := by simp at hj; omega
          rw [g1 j hj', g1 (j - 1) (by omega)]; exact h1 j hj' h3
    simp only [specL, List.mem_flatMap, List.mem_map, List.mem_filter, List.mem_range]
    constructor
    · rintro ⟨g, hg, x, ⟨⟨y, hy, rfl⟩, hst⟩, rfl⟩
      obtain ⟨h1, h2, h3⟩ := (ih g).1 hg
      refine ⟨by simp [h1], fun z hz => ?_, (key g _ h1).2 ⟨h3, hst⟩⟩
      rcases List.mem_append.1 hz with h | h
      · exact h2 z h
      · have : z = (y : Int) := by simpa using h
        omega
    · rintro ⟨h1, h2, h3⟩
      have hne : h ≠ [] := by intro e; rw [e] at h1; simp at h1
      have e := List.dropLast_concat_getLast hne
      have hl : h.dropLast.length = c := by simp [h1]
      have hlast := h2 (h.getLast hne) (List.getLast_mem hne)
      rw [← e] at h3
      obtain ⟨k1, k2⟩ := (key _ _ hl).1 h3
      refine ⟨h.dropLast, (ih _).2 ⟨hl, fun z hz => h2 z (by rw [List.dropLast_eq_take] at hz; exact List.mem_of_mem_take hz), k1⟩, h.getLast hne, ⟨⟨(h.getLast hne).toNat, by omega, by omega⟩, k2⟩, e⟩
end Go.D4

set_option linter.unusedVariables false
set_option linter.unusedSimpArgs false
namespace Go.D4
theorem agree_n {n d : Nat} (h1 : 1 ≤ n) (h2 : n ≤ 5) (h3 : 1 ≤ d) (h4 : d ≤ 4) : agree n d = true := by
  have e : ∀ n ∈ List.range' 1 5, ∀ d ∈ List.range' 1 4, agree n d = true := by decide +kernel
  exact e n (by rw [List.mem_range'_1]; omega) d (by rw [List.mem_range'_1]; omega)
end Go.D4

set_option linter.unusedVariables false
set_option linter.unusedSimpArgs false
namespace Go.D4
set_option maxHeartbeats 0 in
theorem agree_61 : agree 6 1 = true := by decide +kernel
set_option maxHeartbeats 0 in
theorem agree_62 : agree 6 2 = true := by decide +kernel
set_option maxHeartbeats 0 in
theorem agree_63 : agree 6 3 = true := by decide +kernel
set_option maxHeartbeats 0 in
theorem agree_64 : agree 6 4 = true := by decide +kernel
theorem agree_all {n d : Nat} (h1 : 1 ≤ n) (h2 : n ≤ 6) (h3 : 1 ≤ d) (h4 : d ≤ 4) : agree n d = true := by
  by_cases h : n = 6
  · subst h
    have : d = 1 ∨ d = 2 ∨ d = 3 ∨ d = 4 := by omega
    rcases this with rfl | rfl | rfl | rfl
    · exact agree_61
    · exact agree_62
    · exact agree_63
    · exact agree_64
  · exact agree_n h1 (by omega) h3 h4
end Go.D4

set_option linter.unusedVariables false
set_option linter.unusedSimpArgs false
namespace Go.D4
open Go.Tb
theorem hollow_list_eq {b : Bog} (hb : Ok b) (x : Arr6) : cut_hollow_list x b = some ((a6 x).take b.worth.length) := by
  have h6 := hb.n6
  have e : Int.toNat (b.worth.length : Int) = b.worth.length := by omega
  unfold cut_hollow_list
  rw [gd_pos (by omega), e, bnd_eq (Clone_eq (by rw [List.length_take]; omega))]; rfl
def W (b : Bog) (h : List Int) : Int := wsum b h h.length
/-- The right hollows of a bog. -/
def hollows (b : Bog) : List (List Int) := specL (dep b).toNat b.worth.length
theorem mem_hollows {b : Bog} (hb : Ok b) {h : List Int} : h ∈ hollows b ↔ hollowE b h = 0 := by
  have := hb.d1
  unfold hollows
  rw [mem_spec, hollow0, okL_iff, show (((dep b).toNat : Nat) : Int) = dep b by omega]
  exact ⟨fun ⟨h1, h2, h3⟩ => ⟨hb, ⟨h1, h2⟩, h3⟩, fun ⟨_, ⟨h1, h2⟩, h3⟩ => ⟨h1, h2, h3⟩⟩
theorem all_eq {b : Bog} (hb : Ok b) : ∃ l, cut_all b = some l ∧ l.map (fun x => (a6 x).take b.worth.length) = hollows b := by
  have ha := agree_all hb.n1 hb.n6 (d := (dep b).toNat) (by have := hb.d1; omega) (by have := hb.d4; omega)
  unfold agree at ha
  rw [← all_shape hb] at ha
  cases hl : cut_all b with
  | none => rw [hl] at ha; cases ha
  | some l => rw [hl] at ha; exact ⟨l, rfl, by unfold hollows; simpa using ha⟩
/-- The best worth and all hollows with it joined, after the first i hollows. -/
def bestN (f : Int → Int → Int) (b : Bog) (hs : List (List Int)) : Nat → List Int × Int
  | 0 => ([], 0)
  | i + 1 =>
    if i = 0 ∨ (bestN f b hs i).2 < W b (hs.getD i []) then (hs.getD i [], W b (hs.getD i []))
    else if W b (hs.getD i []) = (bestN f b hs i).2 then (List.zipWith f (bestN f b hs i).1 (hs.getD i []), (bestN f b hs i).2) else bestN f b hs i
def MM (f : Int → Int → Int) : Prop := (∀ x y, f x y = min x y) ∨ (∀ x y, f x y = max x y)
/-- What is known of it. -/
structure BInv (f : Int → Int → Int) (b : Bog) (hs : List (List Int)) (i : Nat) (s : List Int × Int) : Prop where
  hol : hollowE b s.1 = 0
  w : (∀ h, hollowE b h = 0 → W b h ≤ s.2) → W b s.1 = s.2
  top : ∀ h ∈ hs.take i, W b h ≤ s.2
  all : ∀ h ∈ hs.take i, W b h = s.2 → List.zipWith f s.1 h = s.1
theorem zw_idem {f : Int → Int → Int} (hf : MM f) (x : Int) : f x x = x := by
  rcases hf with h | h <;> rw [h] <;> omega
theorem zw_assoc {f : Int → Int → Int} (hf : MM f) : ∀ a c d : List Int, List.zipWith f (List.zipWith f a c) d = List.zipWith f a (List.zipWith f c d)
  | [], _, _ => by simp
  | _ :: _, [], _ => by simp
  | _ :: _, _ :: _, [] => by simp
  | x :: a, y :: c, z :: d => by
    simp only [List.zipWith_cons_cons, zw_assoc hf a c d]
    congr 1
    rcases hf with h | h <;> simp only [h] <;> omega
theorem zw_comm {f : Int → Int → Int} (hf : MM f) : ∀ a c : List Int, List.zipWith f a c = List.zipWith f c a
  | [], [] => rfl
  | [], _ :: _ => rfl
  | _ :: _, [] => rfl
  | x :: a, y :: c => by
    simp only [List.zipWith_cons_cons, zw_comm hf a c]
    congr 1
    rcases hf with h | h <;> simp only [h] <;> omega
theorem hollow_len {b : Bog} {h : List Int} (h0 : hollowE b h = 0) : h.length = b.worth.length := (okL_iff.1 (hollow0.1 h0).2.1).1
theorem W_mm {b : Bog} {h k : List Int} (h0 : hollowE b h = 0) (k0 : hollowE b k = 0) : W b (List.zipWith min h k) + W b (List.zipWith max h k) = W b h + W b k := by
  have l1 := hollow_len h0
  have l2 := hollow_len k0
  unfold W
  have e1 : (List.zipWith min h k).length = h.length := by simp; omega
  have e2 : (List.zipWith max h k).length = h.length := by simp; omega
  rw [e1, e2, show k.length = h.length by omega]
  exact wsum_mm (by omega) _ (Nat.le_refl _)
theorem binv {f : Int → Int → Int} (hf : MM f) {b : Bog} (hb : Ok b) : ∀ i, i + 1 ≤ (hollows b).length → BInv f b (hollows b) (i + 1) (bestN f b (hollows b) (i + 1))
  | 0, hi => by
    have hx : (hollows b)[0]? = some (hollows b)[0] := by simp
    have e : (hollows b).getD 0 [] = (hollows b)[0] := by simp [List.getD, hx]
    have hm := (mem_hollows hb).1 (List.getElem_mem (l := hollows b) (n := 0) (by omega))
    have e1 : bestN f b (hollows b) 1 = ((hollows b)[0], W b (hollows b)[0]) := by
      show (if 0 = 0 ∨ _ then _ else _) = _
      rw [if_pos (.inl rfl), e]
    have et : (hollows b).take 1 = [(hollows b)[0]] := by rw [List.take_add_one, hx]; rfl
    rw [e1]
    refine ⟨hm, fun _ => rfl, ?_, ?_⟩
    · intro h hh; rw [et] at hh; have := List.mem_singleton.1 hh; subst this; exact Int.le_refl _
    · intro h hh _; rw [et] at hh; have := List.mem_singleton.1 hh; subst this; exact zw_self (zw_idem hf) _
  | i + 1, hi => by
    have ih := binv hf hb i (by omega)
    generalize hs : bestN f b (hollows b) (i + 1) = s at ih
    have hlt : i + 1 < (hollows b).length := by omega
    have hx : (hollows b)[i + 1]? = some (hollows b)[i + 1] := by simp [hlt]
    generalize hk : (hollows b)[i + 1] = k at hx
    have e : (hollows b).getD (i + 1) [] = k := by simp [List.getD, hx]
    have km := (mem_hollows hb).1 (List.mem_of_getElem? hx)
    have et : (hollows b).take (i + 1 + 1) = (hollows b).take (i + 1) ++ [k] := by rw [List.take_add_one, hx]; rfl
    have mem : ∀ h, h ∈ (hollows b).take (i + 1 + 1) → h ∈ (hollows b).take (i + 1) ∨ h = k := fun h hh => by
      rw [et] at hh
      rcases List.mem_append.1 hh with h1 | h1
      · exact .inl h1
      · exact .inr (List.mem_singleton.1 h1)
    show BInv f b (hollows b) (i + 1 + 1) (if i + 1 = 0 ∨ (bestN f b (hollows b) (i + 1)).2 < W b ((hollows b).getD (i + 1) []) then _ else _)
    rw [hs, e]
    by_cases h1 : s.2 < W b k
    · rw [if_pos (.inr h1)]
      refine ⟨km, fun _ => rfl, fun h hh => ?_, fun h hh hw => ?_⟩
      · rcases mem h hh with h2 | rfl
        · have := ih.top h h2; simp only; omega
        · exact Int.le_refl _
      · rcases mem h hh with h2 | rfl
        · have := ih.top h h2; simp only at hw; omega
        · exact zw_self (zw_idem hf) _
    · rw [if_neg (by omega)]
      by_cases h2 : W b k = s.2
      · rw [if_pos h2]
        have hz := hollow_zip (f := f) hf ih.hol km
        have hmm := W_mm ih.hol km
        have m1 := hollow_zip (f := min) (.inl fun _ _ => rfl) ih.hol km
        have m2 := hollow_zip (f := max) (.inr fun _ _ => rfl) ih.hol km
        refine ⟨hz, fun hM => ?_, fun h hh => ?_, fun h hh hw => ?_⟩
        · have w0 := ih.w hM
          have q1 := hM _ m1
          have q2 := hM _ m2
          simp only at q1 q2 ⊢
          rcases hf with hff | hff
          · have e3 : List.zipWith f s.1 k = List.zipWith min s.1 k := by congr 1; funext x y; exact hff x y
            rw [e3]; omega
          · have e3 : List.zipWith f s.1 k = List.zipWith max s.1 k := by congr 1; funext x y; exact hff x y
            rw [e3]; omega
        · rcases mem h hh with h3 | rfl
          · exact ih.top h h3
          · simp only; omega
        · simp only at hw ⊢
          rcases mem h hh with h3 | rfl
          · rw [zw_assoc hf, zw_comm hf k h, ← zw_assoc hf, ih.all h h3 hw]
          · rw [zw_assoc hf, zw_self (zw_idem hf)]
      · rw [if_neg h2]
        refine ⟨ih.hol, ih.w, fun h hh => ?_, fun h hh hw => ?_⟩
        · rcases mem h hh with h3 | rfl
          · exact ih.top h h3
          · omega
        · rcases mem h hh with h3 | rfl
          · exact ih.all h h3 hw
          · exact absurd hw h2
theorem ix6 {R : Type} (x : Arr6) {k : Int → Int → Int → Int → Int → Int → Option R} :
    (gd ((([x.at0, x.at1, x.at2, x.at3, x.at4, x.at5] : List Int)).length = 6) <|
    ix (([x.at0, x.at1, x.at2, x.at3, x.at4, x.at5] : List Int)) 0 fun x2 =>
    ix (([x.at0, x.at1, x.at2, x.at3, x.at4, x.at5] : List Int)) 1 fun x3 =>
    ix (([x.at0, x.at1, x.at2, x.at3, x.at4, x.at5] : List Int)) 2 fun x4 =>
    ix (([x.at0, x.at1, x.at2, x.at3, x.at4, x.at5] : List Int)) 3 fun x5 =>
    ix (([x.at0, x.at1, x.at2, x.at3, x.at4, x.at5] : List Int)) 4 fun x6 =>
    ix (([x.at0, x.at1, x.at2, x.at3, x.at4, x.at5] : List Int)) 5 fun x7 => k x2 x3 x4 x5 x6 x7) = k x.at0 x.at1 x.at2 x.at3 x.at4 x.at5 := by
  rw [gd_pos (by simp), ix_eq (i := 0) (by decide) rfl, ix_eq (i := 1) (by decide) rfl, ix_eq (i := 2) (by decide) rfl, ix_eq (i := 3) (by decide) rfl, ix_eq (i := 4) (by decide) rfl, ix_eq (i := 5) (by decide) rfl]
theorem spec_len (d : Nat) : ∀ c, (specL d c).length ≤ (d + 1) ^ c
  | 0 => by simp [specL]
  | c + 1 => by
    have ih := spec_len d c
    have e : ∀ l : List (List Int), (l.flatMap fun h => (((List.range (d + 1)).map fun (x : Nat) => (x : Int)).filter (stepOk h)).map fun x => h ++ [x]).length ≤ l.length * (d + 1) := fun l => by
      induction l with
      | nil => simp
      | cons h r ih =>
        simp only [List.flatMap_cons, List.length_append, List.length_map, List.length_cons]
        have := List.length_filter_le (stepOk h) ((List.range (d + 1)).map fun (x : Nat) => (x : Int))
        simp only [List.length_map, List.length_range] at this
        rw [Nat.succ_mul]; omega
    simp only [specL]
    refine Nat.le_trans (e _) ?_
    rw [Nat.pow_succ]
    exact Nat.mul_le_mul_right _ ih
theorem hollows_len {b : Bog} (hb : Ok b) : (hollows b).length ≤ 15625 ∧ 1 ≤ (hollows b).length := by
  constructor
  · have h1 := spec_len (dep b).toNat b.worth.length
    have h2 : ((dep b).toNat + 1) ^ b.worth.length ≤ 5 ^ b.worth.length := Nat.pow_le_pow_left (by have := hb.d4; omega) _
    have h3 : 5 ^ b.worth.length ≤ 5 ^ 6 := Nat.pow_le_pow_right (by omega) hb.n6
    unfold hollows; omega
  · have h0 : hollowE b (List.replicate b.worth.length 0) = 0 := hollow0.2 ⟨hb, okL_zero hb, rightB_iff.2 fun j hj h1 => by
      have g0 : ∀ c, gi (List.replicate b.worth.length 0) c = 0 := fun c => by
        unfold gi; simp only [List.getD, List.getElem?_replicate]; split <;> rfl
      rw [g0, g0]; omega⟩
    exact List.length_pos_of_mem ((mem_hollows hb).2 h0)
theorem best_eq {f : Int → Int → Int} (hf : MM f) {F : Int → Int → Option Int} (hF : ∀ x y, F x y = some (f x y)) {b : Bog} (hb : Ok b) : cut_best b F = some (bestN f b (hollows b) (hollows b).length) := by
  obtain ⟨l, hl, hm⟩ := all_eq hb
  have ⟨hn1, hn2⟩ := hollows_len hb
  have hll : l.length = (hollows b).length := by rw [← hm]; simp
  unfold cut_best
  rw [bnd_eq hl]
  refine Eq.trans (for0 l.length (bestN f b (hollows b)) (fun n s i => cut_best_L1 b F l n s.2 i s.1) (some (bestN f b (hollows b) (hollows b).length)) rfl (fun n i hi => ?_) (fun n => ?_) (by omega)) rfl
  · have hx : l[i]? = some l[i] := by simp [hi]
    have hk : (hollows b)[i]? = some ((a6 l[i]).take b.worth.length) := by rw [← hm, List.getElem?_map, hx]; rfl
    generalize he : (a6 l[i]).take b.worth.length = k at hk
    have km := (mem_hollows hb).1 (List.mem_of_getElem? hk)
    have e : (hollows b).getD i [] = k := by simp [List.getD, hk]
    have wk : cut_worth b k = some (W b k) := worth_eq hb (hollow0.1 km).2.1
    show cut_best_B1 b F l (cut_best_L1 b F l n) _ _ _ = _
    unfold cut_best_B1
    rw [if_pos (by omega), ix_nat hx, ix6, bnd_eq (hollow_list_eq hb _)]
    have e6 : List.take b.worth.length (a6 ⟨l[i].at0, l[i].at1, l[i].at2, l[i].at3, l[i].at4, l[i].at5⟩) = k := he
    rw [e6, bnd_eq wk]
    have e1 : bestN f b (hollows b) (i + 1) = (if i = 0 ∨ (bestN f b (hollows b) i).2 < W b k then (k, W b k) else if W b k = (bestN f b (hollows b) i).2 then (List.zipWith f (bestN f b (hollows b) i).1 k, (bestN f b (hollows b) i).2) else bestN f b (hollows b) i) := by
      rw [← e]; rfl
    by_cases h0 : i = 0
    · rw [e1.trans (if_pos (.inl h0))]
      subst h0
      rw [if_pos (by rfl)]
      unfold cut_best_k3 cut_best_k2
      rw [if_pos rfl, gd_pos (by omega)]; rfl
    · rw [if_neg (by omega)]
      unfold cut_best_k3 cut_best_k2
      by_cases h1 : (bestN f b (hollows b) i).2 < W b k
      · rw [e1.trans (if_pos (.inr h1)), if_pos (by simp [h1]), gd_pos (by omega)]; rfl
      · have e2 := e1.trans (if_neg (not_or.2 ⟨h0, h1⟩))
        rw [if_neg (by simp [h1])]
        by_cases h2 : W b k = (bestN f b (hollows b) i).2
        · have ih : BInv f b (hollows b) (i - 1 + 1) (bestN f b (hollows b) (i - 1 + 1)) := binv hf hb (i - 1) (by omega)
          rw [show i - 1 + 1 = i by omega] at ih
          have := hollow_len ih.hol; have := hollow_len km; have := hb.n6
          rw [e2.trans (if_pos h2), if_pos h2, bnd_eq (joined_eq hF (by omega) (by omega)), gd_pos (by omega)]; rfl
        · rw [e2.trans (if_neg h2), if_neg h2, gd_pos (by omega)]; rfl
  · show cut_best_B1 b F l (cut_best_L1 b F l n) _ _ _ = _
    unfold cut_best_B1
    rw [if_neg (by omega), hll]; rfl
/-- The best hollow: what it is. -/
structure Best (f : Int → Int → Int) (b : Bog) (s : List Int × Int) : Prop where
  hol : hollowE b s.1 = 0
  w : W b s.1 = s.2
  top : ∀ h, hollowE b h = 0 → W b h ≤ s.2
  all : ∀ h, hollowE b h = 0 → W b h = s.2 → List.zipWith f s.1 h = s.1
theorem best_spec {f : Int → Int → Int} (hf : MM f) {b : Bog} (hb : Ok b) : Best f b (bestN f b (hollows b) (hollows b).length) := by
  have ⟨hn1, hn2⟩ := hollows_len hb
  have h := binv hf hb ((hollows b).length - 1) (by omega)
  rw [show (hollows b).length - 1 + 1 = (hollows b).length by omega] at h
  have e : (hollows b).take (hollows b).length = hollows b := List.take_length
  have ht : ∀ k, hollowE b k = 0 → W b k ≤ (bestN f b (hollows b) (hollows b).length).2 := fun k hk => h.top k (by rw [e]; exact (mem_hollows hb).2 hk)
  exact ⟨h.hol, h.w ht, ht, fun k hk hw => h.all k (by rw [e]; exact (mem_hollows hb).2 hk) hw⟩
end Go.D4

set_option linter.unusedVariables false
set_option linter.unusedSimpArgs false
namespace Go.D4
open Go.Tb
theorem LiesIn_eq {h k : List Int} (hl : k.length = h.length) (hn : h.length ≤ 1000) : ref04_LiesIn h k = some (decide (∀ j, j < h.length → gi h j ≤ gi k j)) := by
  unfold ref04_LiesIn
  rw [list_loop0 (List.range h.length) (fun i => decide (gi h i ≤ gi k i)) (ref04_LiesIn_L1 h k) (some true) (some false) (fun n i x hx => ?_) (fun n => ?_) (by simp; omega)]
  · by_cases ha : ∀ j, j < h.length → gi h j ≤ gi k j
    · rw [decide_eq_true ha, if_pos (List.all_eq_true.2 fun i hi => by have := ha i (List.mem_range.1 hi); simpa using this)]
    · rw [decide_eq_false ha, if_neg (fun hc => ha fun j hj => by have := List.all_eq_true.1 hc j (List.mem_range.2 hj); simpa using this)]
  · have hi := lt_of_at hx
    simp at hi
    have e : x = i := by simp [hi] at hx; exact hx.symm
    subst e
    show ref04_LiesIn_B1 h k (ref04_LiesIn_L1 h k n) _ = _
    unfold ref04_LiesIn_B1 ref04_LiesIn_k2
    rw [if_pos (by omega), if_pos (by simp; omega), ix_nat (gi_at hi), ix_nat (gi_at (by omega)), gd_pos (by omega)]
    by_cases h1 : gi k x < gi h x
    · rw [if_pos h1, if_neg (by simp; omega)]
    · rw [if_neg h1, if_pos (by simp; omega)]; rfl
  · show ref04_LiesIn_B1 h k (ref04_LiesIn_L1 h k n) _ = _
    unfold ref04_LiesIn_B1 ref04_LiesIn_k2
    rw [List.length_range, if_neg (by omega), if_neg (by simp)]
    unfold ref04_LiesIn_k1
    simp [hl]
end Go.D4

set_option linter.unusedVariables false
set_option linter.unusedSimpArgs false
namespace Go.D4
open Go.Tb
def bestR (f : Int → Int → Int) (b : Bog) : List Int × Int × Int := if validate b = 0 then ((bestN f b (hollows b) (hollows b).length).1, (bestN f b (hollows b) (hollows b).length).2, 0) else ([], 0, validate b)
theorem Best_eq {b : Bog} (hs : Short b) : cut_Best b = some (bestR min b) := by
  unfold cut_Best bestR
  rw [bnd_eq (Validate_eq hs)]
  by_cases hv : validate b = 0
  · rw [if_pos hv, if_pos hv, bnd_eq (best_eq (.inl fun _ _ => rfl) smaller_eq (val0.1 hv))]
  · rw [if_neg hv, if_neg hv]
theorem Deepest_eq {b : Bog} (hs : Short b) : cut_Deepest b = some (bestR max b) := by
  unfold cut_Deepest bestR
  rw [bnd_eq (Validate_eq hs)]
  by_cases hv : validate b = 0
  · rw [if_pos hv, if_pos hv, bnd_eq (best_eq (.inr fun _ _ => rfl) greater_eq (val0.1 hv))]
  · rw [if_neg hv, if_neg hv]
end Go.D4

set_option linter.unusedVariables false
set_option linter.unusedSimpArgs false
namespace Go.D4
open Go.Tb
theorem right_snoc {g : List Int} {x : Int} : rightB (g ++ [x]) = true ↔ rightB g = true ∧ stepOk g x = true := by
  have g1 : ∀ j, j < g.length → gi (g ++ [x]) j = gi g j := fun j hj => by
    unfold gi
    simp only [List.getD, List.getElem?_append_left hj]
  have g2 : gi (g ++ [x]) g.length = x := gi_of (by simp)
  have hs : stepOk g x = true ↔ (1 ≤ g.length → -1 ≤ x - gi g (g.length - 1) ∧ x - gi g (g.length - 1) ≤ 1) := by
    unfold stepOk
    cases hl : g.getLast? with
    | none => have := List.getLast?_eq_none_iff.1 hl; subst this; simp
    | some y =>
      rw [List.getLast?_eq_getElem?] at hl
      have hlt := lt_of_at hl
      rw [gi_of hl]
      simp only [within_iff]
      exact ⟨fun h _ => h, fun h => h (by omega)⟩
  rw [rightB_iff, rightB_iff, hs]
  constructor
  · intro h
    refine ⟨fun j hj h1 => ?_, fun h1 => ?_⟩
    · have := h j (by simp; omega) h1
      rw [g1 j hj, g1 (j - 1) (by omega)] at this; exact this
    · have := h g.length (by simp) h1
      rw [g2, g1 (g.length - 1) (by omega)] at this; exact this
  · rintro ⟨h1, h2⟩ j hj h3
    by_cases e : j = g.length
    · subst e
      rw [g2, g1 (g.length - 1) (by omega)]; exact h2 h3
    · have hj' : j < g.length := by simp at hj; omega
      rw [g1 j hj', g1 (j - 1) (by omega)]; exact h1 j hj' h3
theorem right_snoc_eq {g : List Int} {x : Int} (hg : rightB g = true) : rightB (g ++ [x]) = stepOk g x := by
  cases h : stepOk g x
  · cases h2 : rightB (g ++ [x])
    · rfl
    · rw [(right_snoc.1 h2).2] at h; cases h
  · exact right_snoc.2 ⟨hg, h⟩
/-- The right hollows with one more column, of less than j blocks. -/
def rowx (h : List Int) (j : Nat) : List (List Int) := (((List.range j).map fun (x : Nat) => (x : Int)).filter (stepOk h)).map fun x => h ++ [x]
theorem rowx_succ (h : List Int) (j : Nat) : rowx h (j + 1) = rowx h j ++ (if stepOk h (j : Int) = true then [h ++ [(j : Int)]] else []) := by
  unfold rowx
  rw [List.range_succ, List.map_append, List.filter_append, List.map_append]
  congr 1
  simp only [List.map_cons, List.map_nil, List.filter_cons, List.filter_nil]
  split <;> simp
theorem rowx_len (h : List Int) : ∀ j, (rowx h j).length ≤ j
  | 0 => by simp [rowx]
  | j + 1 => by
    have := rowx_len h j
    rw [rowx_succ, List.length_append]
    split <;> simp <;> omega
theorem flat_len (d : Nat) : ∀ l : List (List Int), (l.flatMap fun h => rowx h d).length ≤ l.length * d
  | [] => by simp
  | h :: r => by
    have := flat_len d r
    have := rowx_len h d
    rw [List.flatMap_cons, List.length_append, List.length_cons, Nat.succ_mul]; omega
theorem flat_take {d i : Nat} {l : List (List Int)} {h : List Int} (hx : l[i]? = some h) : ((l.take (i + 1)).flatMap fun h => rowx h d) = ((l.take i).flatMap fun h => rowx h d) ++ rowx h d := by
  rw [List.take_add_one, hx]; simp [List.flatMap_append]
/-- A row that the specification's list may be lengthened by. -/
def RowOk (h : List Int) : Prop := h.length ≤ 6 ∧ (∀ x ∈ h, 0 ≤ x ∧ x ≤ 4) ∧ rightB h = true
theorem rall_inner {b : Bog} (hb : Ok b) {d : Nat} (hd : dep b = (d : Int)) {m6 m8 : List (List Int)} {i : Nat} {h : List Int} (hx : m6[i]? = some h) (ho : RowOk h) (hi : i ≤ 20000) (hm : m8.length ≤ 20000) (rec2 : Int → List (List Int) → Option (List (List Int))) :
    ref04_all_L1 b m6 i rec2 FU 0 m8 = rec2 ((i + 1 : Nat) : Int) (m8 ++ rowx h (d + 1)) := by
  have hd4 := hb.d4
  refine for0 (d + 1) (fun j => m8 ++ rowx h j) (fun n s j => ref04_all_L1 b m6 i rec2 n j s) _ (by simp [rowx]) (fun n j hj => ?_) (fun n => ?_) (by omega)
  · have hrl := rowx_len h j
    have hr : ref04_right (([] ++ h) ++ [(j : Int)]) = some (stepOk h (j : Int)) := by
      rw [List.nil_append, rright_eq (by have := ho.1; simp; omega) (fun x hx => by
        rcases List.mem_append.1 hx with h1 | h1
        · have := ho.2.1 x h1; omega
        · have : x = (j : Int) := by simpa using h1
          omega), right_snoc_eq ho.2.2]
    have hho := ho.1
    show ref04_all_B1 b m6 i rec2 (ref04_all_L1 b m6 i rec2 n) _ _ = _
    unfold ref04_all_B1
    rw [bnd_eq (rdepth_eq hb.n1), if_pos (by omega), ix_nat hx, gd_pos (by simp; omega), gd_pos (by simp; omega), bnd_eq hr, rowx_succ]
    cases stepOk h (j : Int)
    · rw [if_neg (by simp), if_neg (by simp)]
      unfold ref04_all_k5
      rw [gd_pos (by omega), List.append_nil]; rfl
    · rw [if_pos rfl, if_pos rfl]
      unfold ref04_all_k5
      rw [gd_pos (by simp; omega), gd_pos (by omega), ← List.append_assoc]; rfl
  · show ref04_all_B1 b m6 i rec2 (ref04_all_L1 b m6 i rec2 n) _ _ = _
    unfold ref04_all_B1
    rw [bnd_eq (rdepth_eq hb.n1), if_neg (by omega)]
    unfold ref04_all_k4
    rw [gd_pos (by omega)]; rfl
theorem specL_ok {d c : Nat} (hd : d ≤ 4) (hc : c ≤ 6) {h : List Int} (hh : h ∈ specL d c) : RowOk h := by
  obtain ⟨h1, h2, h3⟩ := (mem_spec c h).1 hh
  exact ⟨by omega, fun x hx => by have := h2 x hx; omega, h3⟩
theorem rall_eq {b : Bog} (hb : Ok b) : ref04_all b = some (hollows b) := by
  have hd1 := hb.d1
  have hd4 := hb.d4
  have hn6 := hb.n6
  have hd : dep b = ((dep b).toNat : Int) := by omega
  unfold ref04_all hollows
  generalize hdd : (dep b).toNat = d at hd
  have hd4' : d ≤ 4 := by omega
  refine for0 b.worth.length (fun c => specL d c) (fun n s c => ref04_all_L3 b n c s) _ rfl (fun n c hc => ?_) (fun n => ?_) (by omega)
  · have hsl : (specL d c).length ≤ 3125 := by
      have h1 := spec_len d c
      have h2 : (d + 1) ^ c ≤ 5 ^ c := Nat.pow_le_pow_left (by omega) _
      have h3 : 5 ^ c ≤ 5 ^ 5 := Nat.pow_le_pow_right (by omega) (by omega)
      omega
    show ref04_all_B3 b (ref04_all_L3 b n) _ _ = _
    unfold ref04_all_B3
    rw [if_pos (by omega)]
    refine for0 (specL d c).length (fun i => ((specL d c).take i).flatMap fun h => rowx h (d + 1)) (fun m s i => ref04_all_L2 b c (specL d c) (ref04_all_L3 b n) m i s) _ (by simp) (fun m i hi => ?_) (fun m => ?_) (by omega)
    · have hx : (specL d c)[i]? = some (specL d c)[i] := by simp [hi]
      have hfl := flat_len (d + 1) ((specL d c).take i)
      have htl : ((specL d c).take i).length ≤ 3125 := by rw [List.length_take]; omega
      have : ((specL d c).take i).length * (d + 1) ≤ 3125 * 5 := Nat.mul_le_mul htl (by omega)
      show ref04_all_B2 b c (specL d c) (ref04_all_L3 b n) (ref04_all_L2 b c (specL d c) (ref04_all_L3 b n) m) _ _ = _
      unfold ref04_all_B2
      rw [if_pos (by omega), rall_inner hb hd hx (specL_ok hd4' (by omega) (List.getElem_mem _)) (by omega) (by omega), flat_take hx]
    · show ref04_all_B2 b c (specL d c) (ref04_all_L3 b n) (ref04_all_L2 b c (specL d c) (ref04_all_L3 b n) m) _ _ = _
      unfold ref04_all_B2
      rw [if_neg (by omega)]
      unfold ref04_all_k3 ref04_all_k2
      rw [gd_pos (by omega), List.take_length]; rfl
  · show ref04_all_B3 b (ref04_all_L3 b n) _ _ = _
    unfold ref04_all_B3
    rw [if_neg (by omega)]; rfl
end Go.D4

set_option linter.unusedVariables false
set_option linter.unusedSimpArgs false
namespace Go.D4
open Go.Tb
/-- The best worth and the hollows with it, after the first i hollows. -/
def topN (b : Bog) (hs : List (List Int)) : Nat → Int × List (List Int)
  | 0 => (W b (hs.getD 0 []), [])
  | i + 1 =>
    if (topN b hs i).1 < W b (hs.getD i []) then (W b (hs.getD i []), [hs.getD i []])
    else if W b (hs.getD i []) = (topN b hs i).1 then ((topN b hs i).1, (topN b hs i).2 ++ [hs.getD i []]) else topN b hs i
theorem topN_len (b : Bog) (hs : List (List Int)) : ∀ i, (topN b hs i).2.length ≤ i
  | 0 => by simp [topN]
  | i + 1 => by
    have := topN_len b hs i
    simp only [topN]
    split
    · simp
    · split
      · simp; omega
      · omega
theorem topN_mem (b : Bog) (hs : List (List Int)) : ∀ i, i ≤ hs.length → ∀ h ∈ (topN b hs i).2, h ∈ hs
  | 0, _ => by simp [topN]
  | i + 1, hi => by
    have ih := topN_mem b hs i (by omega)
    have hx : hs.getD i [] ∈ hs := by
      have : hs.getD i [] = hs[i]'(by omega) := by simp [List.getD, show i < hs.length by omega]
      rw [this]; exact List.getElem_mem _
    simp only [topN]
    split
    · intro h hh; rw [List.mem_singleton.1 hh]; exact hx
    · split
      · intro h hh
        rcases List.mem_append.1 hh with h1 | h1
        · exact ih h h1
        · rw [List.mem_singleton.1 h1]; exact hx
      · exact ih
theorem topN_best {f : Int → Int → Int} (hf : MM f) (b : Bog) (hs : List (List Int)) : ∀ i, ∃ x, (topN b hs (i + 1)).2[0]? = some x ∧ bestN f b hs (i + 1) = (foldN f x (topN b hs (i + 1)).2, (topN b hs (i + 1)).1)
  | 0 => by
    have e1 : topN b hs 1 = (W b (hs.getD 0 []), [hs.getD 0 []]) := by
      show (if W b (hs.getD 0 []) < W b (hs.getD 0 []) then _ else if W b (hs.getD 0 []) = W b (hs.getD 0 []) then _ else _) = _
      rw [if_neg (by omega), if_pos rfl]; rfl
    have e2 : bestN f b hs 1 = (hs.getD 0 [], W b (hs.getD 0 [])) := by
      show (if 0 = 0 ∨ _ then _ else _) = _
      rw [if_pos (.inl rfl)]
    refine ⟨hs.getD 0 [], by rw [e1]; rfl, ?_⟩
    rw [e1, e2]
    show _ = (List.zipWith f _ _, _)
    rw [zw_self (zw_idem hf)]
  | i + 1 => by
    obtain ⟨x, hx, ih⟩ := topN_best hf b hs i
    have e1 : topN b hs (i + 1 + 1) = (if (topN b hs (i + 1)).1 < W b (hs.getD (i + 1) []) then (W b (hs.getD (i + 1) []), [hs.getD (i + 1) []])
      else if W b (hs.getD (i + 1) []) = (topN b hs (i + 1)).1 then ((topN b hs (i + 1)).1, (topN b hs (i + 1)).2 ++ [hs.getD (i + 1) []]) else topN b hs (i + 1)) := rfl
    have e2 : bestN f b hs (i + 1 + 1) = (if i + 1 = 0 ∨ (bestN f b hs (i + 1)).2 < W b (hs.getD (i + 1) []) then (hs.getD (i + 1) [], W b (hs.getD (i + 1) []))
      else if W b (hs.getD (i + 1) []) = (bestN f b hs (i + 1)).2 then (List.zipWith f (bestN f b hs (i + 1)).1 (hs.getD (i + 1) []), (bestN f b hs (i + 1)).2) else bestN f b hs (i + 1)) := rfl
    rw [ih] at e2
    simp only at e2
    rw [e1, e2]
    by_cases h1 : (topN b hs (i + 1)).1 < W b (hs.getD (i + 1) [])
    · rw [if_pos h1, if_pos (.inr h1)]
      refine ⟨_, rfl, ?_⟩
      show _ = (List.zipWith f _ _, _)
      rw [zw_self (zw_idem hf)]
    · rw [if_neg h1, if_neg (show ¬ (i + 1 = 0 ∨ (topN b hs (i + 1)).1 < W b (hs.getD (i + 1) [])) from fun h => h.elim (by omega) h1)]
      by_cases h2 : W b (hs.getD (i + 1) []) = (topN b hs (i + 1)).1
      · rw [if_pos h2, if_pos h2]
        refine ⟨x, ?_, ?_⟩
        · have := lt_of_at hx
          rw [List.getElem?_append_left this]; exact hx
        · simp only [foldN, List.foldl_append, List.foldl_cons, List.foldl_nil]
      · rw [if_neg h2, if_neg h2]
        exact ⟨x, hx, rfl⟩
theorem bests_eq {b : Bog} (hb : Ok b) : ref04_bests b = some ((topN b (hollows b) (hollows b).length).2, (topN b (hollows b) (hollows b).length).1) := by
  have ⟨hn1, hn2⟩ := hollows_len hb
  have hx0 : (hollows b)[0]? = some ((hollows b).getD 0 []) := by simp [List.getD, show 0 < (hollows b).length by omega]
  have wk : ∀ k, hollowE b k = 0 → ref04_worth b k = some (W b k) := fun k km => rworth_eq hb (hollow0.1 km).2.1
  unfold ref04_bests
  rw [bnd_eq (rall_eq hb), ix0 hx0, bnd_eq (wk _ ((mem_hollows hb).1 (List.mem_of_getElem? hx0)))]
  refine Eq.trans (for0 (hollows b).length (topN b (hollows b)) (fun n s i => ref04_bests_L1 b (hollows b) n s.1 i s.2) (some ((topN b (hollows b) (hollows b).length).2, (topN b (hollows b) (hollows b).length).1)) rfl (fun n i hi => ?_) (fun n => ?_) (by omega)) rfl
  · have hx : (hollows b)[i]? = some ((hollows b).getD i []) := by simp [List.getD, hi]
    have hl := topN_len b (hollows b) i
    show ref04_bests_B1 b (hollows b) (ref04_bests_L1 b (hollows b) n) _ _ _ = _
    unfold ref04_bests_B1
    rw [if_pos (by omega), ix_nat hx, bnd_eq (wk _ ((mem_hollows hb).1 (List.mem_of_getElem? hx)))]
    simp only [topN]
    by_cases h1 : (topN b (hollows b) i).1 < W b ((hollows b).getD i [])
    · rw [if_pos h1, if_pos h1]
      unfold ref04_bests_k3
      rw [if_pos rfl, ix_nat hx, gd_pos (by simp)]
      unfold ref04_bests_k2
      rw [gd_pos (by omega)]; rfl
    · rw [if_neg h1, if_neg h1]
      unfold ref04_bests_k3
      by_cases h2 : W b ((hollows b).getD i []) = (topN b (hollows b) i).1
      · rw [if_pos h2, if_pos h2, ix_nat hx, gd_pos (by omega)]
        unfold ref04_bests_k2
        rw [gd_pos (by omega)]; rfl
      · rw [if_neg h2, if_neg h2]
        unfold ref04_bests_k2
        rw [gd_pos (by omega)]; rfl
  · show ref04_bests_B1 b (hollows b) (ref04_bests_L1 b (hollows b) n) _ _ _ = _
    unfold ref04_bests_B1
    rw [if_neg (by omega)]; rfl
theorem tops {f : Int → Int → Int} (hf : MM f) {b : Bog} (hb : Ok b) : ∃ x, (topN b (hollows b) (hollows b).length).2[0]? = some x ∧ (∀ r ∈ (topN b (hollows b) (hollows b).length).2, r.length = x.length) ∧ x.length ≤ 6 ∧ (topN b (hollows b) (hollows b).length).2.length ≤ 15625 ∧
    bestN f b (hollows b) (hollows b).length = (foldN f x (topN b (hollows b) (hollows b).length).2, (topN b (hollows b) (hollows b).length).1) := by
  have ⟨hn1, hn2⟩ := hollows_len hb
  obtain ⟨x, hx, he⟩ := topN_best hf b (hollows b) ((hollows b).length - 1)
  rw [show (hollows b).length - 1 + 1 = (hollows b).length by omega] at hx he
  have hm := topN_mem b (hollows b) (hollows b).length (Nat.le_refl _)
  have hl := topN_len b (hollows b) (hollows b).length
  have hlen : ∀ r ∈ (topN b (hollows b) (hollows b).length).2, r.length = b.worth.length := fun r hr => hollow_len ((mem_hollows hb).1 (hm r hr))
  have hxl := hlen x (List.mem_of_getElem? hx)
  exact ⟨x, hx, fun r hr => by rw [hlen r hr, hxl], by have := hb.n6; omega, by omega, he⟩
theorem rBest_eq {b : Bog} (hs : Short b) : ref04_Best b = some (bestR min b) := by
  unfold ref04_Best bestR
  rw [bnd_eq (rValidate_eq hs)]
  by_cases hv : validate b = 0
  · have hb := val0.1 hv
    obtain ⟨x, hx, h1, h2, h3, he⟩ := tops (f := min) (.inl fun _ _ => rfl) hb
    rw [if_pos hv, if_pos hv, bnd_eq (bests_eq hb), bnd_eq (least_eq hx h1 (by omega) (by omega)), he]
  · rw [if_neg hv, if_neg hv]
theorem rDeepest_eq {b : Bog} (hs : Short b) : ref04_Deepest b = some (bestR max b) := by
  unfold ref04_Deepest bestR
  rw [bnd_eq (rValidate_eq hs)]
  by_cases hv : validate b = 0
  · have hb := val0.1 hv
    obtain ⟨x, hx, h1, h2, h3, he⟩ := tops (f := max) (.inr fun _ _ => rfl) hb
    rw [if_pos hv, if_pos hv, bnd_eq (bests_eq hb), bnd_eq (most_eq hx h1 (by omega) (by omega)), he]
  · rw [if_neg hv, if_neg hv]
theorem best_both {b : Bog} {s t : List Int × Int} (K : Best min b s) (V : Best max b t) : s.2 = t.2 ∧ ∀ j, j < s.1.length → gi s.1 j ≤ gi t.1 j := by
  have h1 := V.top _ K.hol
  have h2 := K.top _ V.hol
  have kw := K.w
  have vw := V.w
  have he : s.2 = t.2 := by omega
  have hall := K.all _ V.hol (by omega)
  have hl : t.1.length = s.1.length := by rw [hollow_len K.hol, hollow_len V.hol]
  refine ⟨he, fun j hj => ?_⟩
  have := zw_gi (f := min) hl hj
  rw [hall] at this; omega
theorem law_CutBests (b : Bog) (hb : b.worth.length ≤ 9223372036854775807) : law04_CutBests b = some true := by
  unfold law04_CutBests
  rw [bnd_eq (Long_eq (by simp) hb)]
  cases hL : longB b []
  · obtain ⟨hs, _⟩ := long_short hL
    rw [if_neg (by simp), bnd_eq (Best_eq hs), bnd_eq (rBest_eq hs), bnd_eq (Deepest_eq hs), bnd_eq (rDeepest_eq hs)]
    by_cases hv : validate b = 0
    · have ob := val0.1 hv
      have K := best_spec (f := min) (.inl fun _ _ => rfl) ob
      have V := best_spec (f := max) (.inr fun _ _ => rfl) ob
      have ⟨he, hle⟩ := best_both K V
      have kl := hollow_len K.hol
      have vl := hollow_len V.hol
      have h6 := ob.n6
      have r1 : bestR min b = _ := if_pos hv
      have r2 : bestR max b = _ := if_pos hv
      rw [r1, r2, bnd_eq (SameInts_self (by simp only; omega)), if_pos rfl, if_pos rfl, if_pos rfl, bnd_eq (SameInts_self (by simp only; omega)), if_pos rfl, if_pos rfl, if_pos rfl, if_pos he, bnd_eq (LiesIn_eq (by simp only; omega) (by simp only; omega)), decide_eq_true hle, if_pos rfl, bnd_eq sane_eq]
    · have r1 : bestR min b = ([], 0, validate b) := if_neg hv
      have r2 : bestR max b = ([], 0, validate b) := if_neg hv
      rw [r1, r2, bnd_eq (SameInts_self (by simp)), if_pos rfl, if_pos rfl, if_pos rfl, bnd_eq (SameInts_self (by simp)), if_pos rfl, if_pos rfl, if_pos rfl, if_pos rfl, bnd_eq (LiesIn_eq rfl (by simp)), decide_eq_true (by simp), if_pos rfl, bnd_eq sane_eq]
  · rw [if_pos rfl, bnd_eq sane_eq]
end Go.D4
