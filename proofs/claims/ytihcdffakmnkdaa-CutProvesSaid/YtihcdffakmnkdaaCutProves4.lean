/- Lemmas and walks that the proof of this claim uses: D4m12, D4m13, D4m15, D4w1, D4w2, D4w3, D4x0, D4x1. -/
import Derived.Test.YtihcdffakmnkdaaCutProves3
set_option linter.unusedVariables false
set_option linter.unusedSimpArgs false
namespace Go.D4
open Go.Tb Go.Proofs Go.RowKit
theorem Tc75 : callable Try.prog 75 = true := by kernel_rfl
theorem Tc82 : callable Try.prog 82 = true := by kernel_rfl
set_option maxRecDepth 20000 in
set_option maxHeartbeats 1000000 in
theorem ref04_all_ok {a0 : Bog} {A_a0_worth : Option Addr} {c_a0_worth : Nat} {w : World} {res : (List (List Int))} (h_a0_worth : Sl2 w A_a0_worth c_a0_worth 1 encN a0.worth) (F : ref04_all a0 = some res) : Calls Try.prog 82 #[.agg #[.slice A_a0_worth a0.worth.length c_a0_worth]] w (fun e w' => ∃ (A1 : Option Addr) (c1 : Nat) (hs0 : List (Option Addr × Nat)), e = .returned (.slice A1 res.length c1) ∧ Hp w w' [.tab A1 c1 25 hs0 3 1 (encM encN res)]) := by
  refine calls_of_cw (args := [.agg #[.slice A_a0_worth a0.worth.length c_a0_worth]]) Try.func82 rfl rfl rfl rfl ?_
  have H := Hp.start w
  have R0 := H.ext
  unfold ref04_all at F
  refine CW.seq fun K1 hK1 => ?_
  refine CW.region ?_
  refine LW.go rfl rfl (OW.box rfl fun b1 w1 N1 => ?_)
  replace H := H.new N1 N1.blk
  replace R0 := H.ext
  refine LW.pure rfl rfl (RV.assign rfl) ?_
  refine LW.nil (hK1 _ _ ?_)
  refine CW.seq fun K2 hK2 => ?_
  refine CW.region ?_
  refine LW.go rfl rfl (OW.buildSlice (e := 25) (vs := [.slice none 0 0]) (cs := [.slice none 0 0]) rfl (fun _ => by kernel_rfl) fun b2 w2 N2 => ?_)
  replace H := H.made' (k := 1) (t := 25) (enc := (fun (_ : Unit) => [Value.slice none 0 0])) (l := (List.replicate 1 ())) N2 N2.blk (fun _ => rfl) rfl (by first | decide | omega | (simp; done) | (simp; omega))
  replace R0 := H.ext
  replace H : Hp w w2 [.tab (some ⟨b2, 0, none⟩) (((List.replicate 1 ())).length) 25 (List.replicate 1 (none, 0)) 3 1 (encM encN ((List.replicate 1 ([] : List Int)))), .blk b1 24 [.slice A_a0_worth a0.worth.length c_a0_worth]] := H.asTab encN 0 3 1 rfl
  replace R0 := H.ext
  refine LW.pure rfl rfl (RV.assign rfl) ?_
  refine LW.nil (hK2 _ _ ?_)
  refine CW.seqJ (fun ρ wl1 => (∃ (m1 : List (List Int)) (hsm1 : List (Option Addr × Nat)) (Am1 : Option Addr) (cm1 : Nat), ref04_all_k1 m1 = some res ∧ ρ = [(2, .slice none 0 0), (3, .slice Am1 m1.length cm1)] ∧ Hp w wl1 [.tab Am1 cm1 25 hsm1 3 1 (encM encN m1)])) ?_ ?_
  ·
    rintro _ wl1 ⟨m1, hsm1, Am1, cm1, F, rfl, H⟩
    have R0 := H.ext
    unfold ref04_all_k1 at F
    refine CW.seq fun K3 hK3 => ?_
    refine CW.region ?_
    refine LW.pure rfl rfl (RV.move rfl) ?_
    refine LW.pure rfl rfl (RV.assign rfl) ?_
    refine LW.nil (hK3 _ _ ?_)
    refine CW.ret ?_
    obtain rfl := Option.some.inj F
    refine ⟨_, (ResOK.one rfl), ?_⟩
    exact ⟨Am1, cm1, hsm1, (by first | rfl | (simp; done) | (simp; omega)), H⟩
  ·
    intro K4 hK4 jK5186
    refine CW.seq fun K5 hK5 => ?_
    refine CW.region ?_
    refine LW.pure rfl rfl (RV.assign rfl) ?_
    refine LW.nil (hK5 _ _ ?_)
    refine CW.block ?_
    refine CW.loop (fun meas ρ wl2 => ∃ (t4_1 : Int) (m6 : List (List Int)) (hsm6 : List (Option Addr × Nat)) (Am6 : Option Addr) (cm6 : Nat), ref04_all_L3 a0 meas t4_1 m6 = some res ∧ ρ = [(1, .pointer (some (⟨b1, 0, none⟩))), (2, .slice none 0 0), (3, .slice Am6 m6.length cm6), (4, .int .i64 t4_1)] ∧ Hp w wl2 [.tab Am6 cm6 25 hsm6 3 1 (encM encN m6), .blk b1 24 [.slice A_a0_worth a0.worth.length c_a0_worth]]) FU ⟨_, ?_, ((0 : Int)), ((List.replicate 1 ([] : List Int))), (List.replicate 1 (none, 0)), (some ⟨b2, 0, none⟩), (((List.replicate 1 ())).length), F, rfl, H⟩ ?_
    · exact ⟨rfl, rfl, (look_slice rfl (by first | rfl | (simp; done) | (simp; omega))), rfl, trivial⟩
    rintro mk1 _ wl2 ⟨t4_1, m6, hsm6, Am6, cm6, F, rfl, H⟩
    have R0 := H.ext
    replace F := ref04_all_L3_s F
    obtain ⟨mk1, rfl, F⟩ := F
    generalize hrec1 : ref04_all_L3 a0 mk1 = rec1 at F
    unfold ref04_all_B3 at F
    refine CW.seq fun K6 hK6 => ?_
    refine CW.seq fun K7 hK7 => ?_
    refine CW.region ?_
    refine LW.pure rfl rfl (RV.move rfl) ?_
    refine LW.pure rfl rfl (RV.fieldAddr Tf24_0 rfl) ?_
    refine LW.pure rfl rfl (RV.load1 Tk22 rfl ((H.blk 1 rfl).cells.off 0) rfl) ?_
    refine LW.pure rfl rfl (RV.len Ts22 rfl) ?_
    refine LW.pure rfl rfl (RV.lss rfl rfl) ?_
    refine LW.nil (hK7 _ _ ?_)
    by_cases hp1 : t4_1 < ((a0.worth.length : Int))
    ·
      replace F := ite_y hp1 F
      have hq1 := dec_t hp1
      refine CW.condT rfl hq1 ?_
      refine CW.skip (hK6 _ _ ?_)
      refine CW.seqJ (fun ρ wl3 => (∃ (m2 : List (List Int)) (hsm2 : List (Option Addr × Nat)) (Am2 : Option Addr) (cm2 : Nat), ref04_all_k2 t4_1 rec1 m2 = some res ∧ ρ = [(1, .pointer (some (⟨b1, 0, none⟩))), (2, .slice none 0 0), (3, .slice Am2 m2.length cm2), (4, .int .i64 t4_1)] ∧ Hp w wl3 [.tab Am2 cm2 25 hsm2 3 1 (encM encN m2), .blk b1 24 [.slice A_a0_worth a0.worth.length c_a0_worth]])) ?_ ?_
      ·
        rintro _ wl3 ⟨m2, hsm2, Am2, cm2, F, rfl, H⟩
        have R0 := H.ext
        unfold ref04_all_k2 at F
        obtain ⟨hg1, F⟩ := gd_some F
        refine CW.region ?_
        refine LW.pure rfl rfl (RV.move rfl) ?_
        refine LW.pure rfl rfl (RV.add rfl rfl hg1) ?_
        refine LW.pure rfl rfl (RV.assign rfl) ?_
        refine LW.nil ?_
        subst hrec1
        refine ⟨mk1, Nat.lt_succ_self _, _, ?_, (t4_1 + 1), m2, hsm2, Am2, cm2, F, rfl, H⟩
        exact ⟨rfl, rfl, (look_slice rfl (by first | rfl | (simp; done) | (simp; omega))), rfl, trivial⟩
      ·
        intro K8 hK8 jK6626
        refine CW.block ?_
        refine CW.seq fun K9 hK9 => ?_
        refine CW.region ?_
        refine LW.pure rfl rfl (RV.assign rfl) ?_
        refine LW.nil (hK9 _ _ ?_)
        refine CW.seqJ (fun ρ wl4 => (∃ (m3 : List (List Int)) (hsm3 : List (Option Addr × Nat)) (Am3 : Option Addr) (cm3 : Nat), ref04_all_k3 t4_1 rec1 m3 = some res ∧ ρ = [(1, .pointer (some (⟨b1, 0, none⟩))), (2, .slice none 0 0), (3, .slice Am6 m6.length cm6), (4, .int .i64 t4_1), (5, .slice Am3 m3.length cm3)] ∧ Hp w wl4 [.tab Am6 cm6 25 hsm6 3 1 (encM encN m6), .tab Am3 cm3 25 hsm3 3 1 (encM encN m3), .blk b1 24 [.slice A_a0_worth a0.worth.length c_a0_worth]])) ?_ ?_
        ·
          rintro _ wl4 ⟨m3, hsm3, Am3, cm3, F, rfl, H⟩
          have R0 := H.ext
          unfold ref04_all_k3 at F
          refine CW.region ?_
          refine LW.pure rfl rfl (RV.move rfl) ?_
          refine LW.pure rfl rfl (RV.assign rfl) ?_
          replace H := H.pick (L' := [.tab Am3 cm3 25 hsm3 3 1 (encM encN m3), .blk b1 24 [.slice A_a0_worth a0.worth.length c_a0_worth]]) [1, 2] (by decide) rfl
          replace R0 := H.ext
          refine LW.nil (jK6626 _ _ ⟨_, ?_, ⟨m3, hsm3, Am3, cm3, F, rfl, H⟩⟩)
          exact ⟨rfl, rfl, (look_slice rfl (by first | rfl | (simp; done) | (simp; omega))), rfl, trivial⟩
        ·
          intro K10 hK10 jK6770
          refine CW.seq fun K11 hK11 => ?_
          refine CW.region ?_
          refine LW.pure rfl rfl (RV.assign rfl) ?_
          refine LW.nil (hK11 _ _ ?_)
          refine CW.block ?_
          replace H := H.nilTab encN 25 3 1
          replace R0 := H.ext
          replace H := H.pick (L' := [.tab Am6 cm6 25 hsm6 3 1 (encM encN m6), .tab none 0 25 ([]) 3 1 (encM encN (([] : List (List Int)))), .blk b1 24 [.slice A_a0_worth a0.worth.length c_a0_worth]]) [1, 0, 2] (by decide) rfl
          replace R0 := H.ext
          refine CW.loop (fun meas ρ wl5 => ∃ (t6_1 : Int) (m8 : List (List Int)) (hsm8 : List (Option Addr × Nat)) (Am8 : Option Addr) (cm8 : Nat), ref04_all_L2 a0 t4_1 m6 rec1 meas t6_1 m8 = some res ∧ ρ = [(1, .pointer (some (⟨b1, 0, none⟩))), (2, .slice none 0 0), (3, .slice Am6 m6.length cm6), (4, .int .i64 t4_1), (5, .slice Am8 m8.length cm8), (6, .int .i64 t6_1)] ∧ Hp w wl5 [.tab Am6 cm6 25 hsm6 3 1 (encM encN m6), .tab Am8 cm8 25 hsm8 3 1 (encM encN m8), .blk b1 24 [.slice A_a0_worth a0.worth.length c_a0_worth]]) FU ⟨_, ?_, ((0 : Int)), (([] : List (List Int))), ([]), none, 0, F, rfl, H⟩ ?_
          · exact ⟨rfl, rfl, (look_slice rfl (by first | rfl | (simp; done) | (simp; omega))), rfl, (look_slice rfl (by first | rfl | (simp; done) | (simp; omega))), rfl, trivial⟩
          rintro mk2 _ wl5 ⟨t6_1, m8, hsm8, Am8, cm8, F, rfl, H⟩
          have R0 := H.ext
          replace F := ref04_all_L2_s F
          obtain ⟨mk2, rfl, F⟩ := F
          generalize hrec2 : ref04_all_L2 a0 t4_1 m6 rec1 mk2 = rec2 at F
          unfold ref04_all_B2 at F
          refine CW.seq fun K12 hK12 => ?_
          refine CW.seq fun K13 hK13 => ?_
          refine CW.region ?_
          refine LW.pure rfl rfl (RV.move rfl) ?_
          refine LW.pure rfl rfl (RV.move rfl) ?_
          refine LW.pure rfl rfl (RV.len Ts22 rfl) ?_
          refine LW.pure rfl rfl (RV.lss rfl rfl) ?_
          refine LW.nil (hK13 _ _ ?_)
          by_cases hp2 : t6_1 < ((m6.length : Int))
          ·
            replace F := ite_y hp2 F
            have hq2 := dec_t hp2
            refine CW.condT rfl hq2 ?_
            refine CW.skip (hK12 _ _ ?_)
            refine CW.seqJ (fun ρ wl6 => (∃ (m4 : List (List Int)) (hsm4 : List (Option Addr × Nat)) (Am4 : Option Addr) (cm4 : Nat), ref04_all_k4 t6_1 rec2 m4 = some res ∧ ρ = [(1, .pointer (some (⟨b1, 0, none⟩))), (2, .slice none 0 0), (3, .slice Am6 m6.length cm6), (4, .int .i64 t4_1), (5, .slice Am4 m4.length cm4), (6, .int .i64 t6_1)] ∧ Hp w wl6 [.tab Am6 cm6 25 hsm6 3 1 (encM encN m6), .tab Am4 cm4 25 hsm4 3 1 (encM encN m4), .blk b1 24 [.slice A_a0_worth a0.worth.length c_a0_worth]])) ?_ ?_
            ·
              rintro _ wl6 ⟨m4, hsm4, Am4, cm4, F, rfl, H⟩
              have R0 := H.ext
              unfold ref04_all_k4 at F
              obtain ⟨hg2, F⟩ := gd_some F
              refine CW.region ?_
              refine LW.pure rfl rfl (RV.move rfl) ?_
              refine LW.pure rfl rfl (RV.add rfl rfl hg2) ?_
              refine LW.pure rfl rfl (RV.assign rfl) ?_
              refine LW.nil ?_
              subst hrec2
              refine ⟨mk2, Nat.lt_succ_self _, _, ?_, (t6_1 + 1), m4, hsm4, Am4, cm4, F, rfl, H⟩
              exact ⟨rfl, rfl, (look_slice rfl (by first | rfl | (simp; done) | (simp; omega))), rfl, (look_slice rfl (by first | rfl | (simp; done) | (simp; omega))), rfl, trivial⟩
            ·
              intro K14 hK14 jK6890
              refine CW.block ?_
              refine CW.seq fun K15 hK15 => ?_
              refine CW.region ?_
              refine LW.pure rfl rfl (RV.assign rfl) ?_
              refine LW.nil (hK15 _ _ ?_)
              refine CW.block ?_
              refine CW.loop (fun meas ρ wl7 => ∃ (t7_1 : Int) (m7 : List (List Int)) (hsm7 : List (Option Addr × Nat)) (Am7 : Option Addr) (cm7 : Nat), ref04_all_L1 a0 m6 t6_1 rec2 meas t7_1 m7 = some res ∧ ρ = [(1, .pointer (some (⟨b1, 0, none⟩))), (2, .slice none 0 0), (3, .slice Am6 m6.length cm6), (4, .int .i64 t4_1), (5, .slice Am7 m7.length cm7), (6, .int .i64 t6_1), (7, .int .i64 t7_1)] ∧ Hp w wl7 [.tab Am6 cm6 25 hsm6 3 1 (encM encN m6), .tab Am7 cm7 25 hsm7 3 1 (encM encN m7), .blk b1 24 [.slice A_a0_worth a0.worth.length c_a0_worth]]) FU ⟨_, ?_, ((0 : Int)), m8, hsm8, Am8, cm8, F, rfl, H⟩ ?_
              · exact ⟨rfl, rfl, (look_slice rfl (by first | rfl | (simp; done) | (simp; omega))), rfl, (look_slice rfl (by first | rfl | (simp; done) | (simp; omega))), rfl, rfl, trivial⟩
              rintro mk3 _ wl7 ⟨t7_1, m7, hsm7, Am7, cm7, F, rfl, H⟩
              have R0 := H.ext
              replace F := ref04_all_L1_s F
              obtain ⟨mk3, rfl, F⟩ := F
              generalize hrec3 : ref04_all_L1 a0 m6 t6_1 rec2 mk3 = rec3 at F
              unfold ref04_all_B1 at F
              refine CW.seq fun K16 hK16 => ?_
              refine CW.seq fun K17 hK17 => ?_
              obtain ⟨r1, hr1, F⟩ := bnd_some F
              refine CW.region ?_
              refine LW.pure rfl rfl (RV.move rfl) ?_
              refine LW.pure rfl rfl (RV.loadA [.slice A_a0_worth a0.worth.length c_a0_worth] Tk24 rfl (H.blk 2 rfl).cells rfl rfl) ?_
              refine LW.go rfl rfl (OW.call Tc93 rfl (ref04_depth_ok (a0 := a0) (h_a0_worth.ext R0) hr1) ?_)
              rintro _ w3 ⟨rfl, E1⟩
              refine ⟨_, rfl, ?_⟩
              replace H := H.grow E1
              replace R0 := H.ext
              refine LW.pure rfl rfl (RV.leq rfl rfl) ?_
              refine LW.nil (hK17 _ _ ?_)
              by_cases hp3 : t7_1 ≤ r1
              ·
                replace F := ite_y hp3 F
                have hq3 := dec_t hp3
                refine CW.condT rfl hq3 ?_
                refine CW.skip (hK16 _ _ ?_)
                refine CW.seqJ (fun ρ wl8 => (∃ (m5 : List (List Int)) (hsm5 : List (Option Addr × Nat)) (Am5 : Option Addr) (cm5 : Nat), ref04_all_k5 t7_1 rec3 m5 = some res ∧ ρ = [(1, .pointer (some (⟨b1, 0, none⟩))), (2, .slice none 0 0), (3, .slice Am6 m6.length cm6), (4, .int .i64 t4_1), (5, .slice Am5 m5.length cm5), (6, .int .i64 t6_1), (7, .int .i64 t7_1)] ∧ Hp w wl8 [.tab Am6 cm6 25 hsm6 3 1 (encM encN m6), .tab Am5 cm5 25 hsm5 3 1 (encM encN m5), .blk b1 24 [.slice A_a0_worth a0.worth.length c_a0_worth]])) ?_ ?_
                ·
                  rintro _ wl8 ⟨m5, hsm5, Am5, cm5, F, rfl, H⟩
                  have R0 := H.ext
                  unfold ref04_all_k5 at F
                  obtain ⟨hg3, F⟩ := gd_some F
                  refine CW.region ?_
                  refine LW.pure rfl rfl (RV.move rfl) ?_
                  refine LW.pure rfl rfl (RV.add rfl rfl hg3) ?_
                  refine LW.pure rfl rfl (RV.assign rfl) ?_
                  refine LW.nil ?_
                  subst hrec3
                  refine ⟨mk3, Nat.lt_succ_self _, _, ?_, (t7_1 + 1), m5, hsm5, Am5, cm5, F, rfl, H⟩
                  exact ⟨rfl, rfl, (look_slice rfl (by first | rfl | (simp; done) | (simp; omega))), rfl, (look_slice rfl (by first | rfl | (simp; done) | (simp; omega))), rfl, rfl, trivial⟩
                ·
                  intro K18 hK18 jK6910
                  refine CW.block ?_
                  refine CW.seq fun K19 hK19 => ?_
                  obtain ⟨x1, hbx1, hx1, F⟩ := ix_some F
                  obtain ⟨hg4, F⟩ := gd_some F
                  obtain ⟨hg5, F⟩ := gd_some F
                  refine CW.region ?_
                  refine LW.go rfl rfl (OW.buildSlice (e := 3) (vs := []) (cs := []) rfl (fun _ => by kernel_rfl) fun b3 w4 N3 => ?_)
                  replace H := H.made' (k := 1) (t := 3) (enc := encN) (l := ([] : List Int)) N3 N3.blk (fun _ => rfl) rfl (by first | decide | omega | (simp; done) | (simp; omega))
                  replace R0 := H.ext
                  refine LW.pure rfl rfl (RV.move rfl) ?_
                  refine LW.pure rfl rfl (RV.move rfl) ?_
                  obtain ⟨B1, e1, hh1⟩ := (H.tab 1 rfl).hd hx1
                  refine LW.pure rfl rfl (RV.indexAddr Ts22 rfl rfl hbx1 ((H.tab 1 rfl).addr_ hx1)) ?_
                  refine LW.pure rfl rfl (RV.load1 Tk25 rfl ((H.tab 1 rfl).cell hx1 hh1) rfl) ?_
                  refine LW.go rfl rfl (OW.appendG (enc := encN) (l := ([] : List Int)) (xs := x1) Ts25 (look_slice rfl (by first | rfl | (simp; done) | (simp; omega))) rfl (H.own 0 rfl) ((H.tab 1 rfl).rowO hx1 hh1).sl (fun _ => rfl) rfl rfl hg4 (by decide) fun A2 c2 w5 O1 M1 D1 => ?_)
                  replace H : Hp w w5 [.own A2 c2 3 1 (List.map encN ((([] : List Int) ++ x1))), .tab Am6 cm6 25 hsm6 3 1 (encM encN m6), .tab Am7 cm7 25 hsm7 3 1 (encM encN m7), .blk b1 24 [.slice A_a0_worth a0.worth.length c_a0_worth]] := H.mod 0 rfl M1 O1 D1
                  replace R0 := H.ext
                  refine LW.pure rfl rfl (RV.move rfl) ?_
                  refine LW.go rfl rfl (OW.buildSlice (e := 3) (vs := [.int .i64 t7_1]) (cs := [.int .i64 t7_1]) rfl (fun _ => by kernel_rfl) fun b4 w6 N4 => ?_)
                  replace H := H.made' (k := 1) (t := 3) (enc := encN) (l := ([t7_1] : List Int)) N4 N4.blk (fun _ => rfl) rfl (by first | decide | omega | (simp; done) | (simp; omega))
                  replace R0 := H.ext
                  refine LW.go rfl rfl (OW.appendG (enc := encN) (l := (([] : List Int) ++ x1)) (xs := ([t7_1] : List Int)) Ts25 rfl (look_slice rfl (by first | rfl | (simp; done) | (simp; omega))) (H.own 1 rfl) (H.own 0 rfl).sl (fun _ => rfl) rfl rfl hg5 (by decide) fun A3 c3 w7 O2 M2 D2 => ?_)
                  replace H : Hp w w7 [.own (some ⟨b4, 0, none⟩) ((([t7_1] : List Int)).length) 3 1 (List.map encN (([t7_1] : List Int))), .own A3 c3 3 1 (List.map encN (((([] : List Int) ++ x1) ++ ([t7_1] : List Int)))), .tab Am6 cm6 25 hsm6 3 1 (encM encN m6), .tab Am7 cm7 25 hsm7 3 1 (encM encN m7), .blk b1 24 [.slice A_a0_worth a0.worth.length c_a0_worth]] := H.mod 1 rfl M2 O2 D2
                  replace R0 := H.ext
                  refine LW.pure rfl rfl (RV.assign rfl) ?_
                  refine LW.nil (hK19 _ _ ?_)
                  refine CW.seq fun K20 hK20 => ?_
                  obtain ⟨r2, hr2, F⟩ := bnd_some F
                  refine CW.region ?_
                  refine LW.pure rfl rfl (RV.move rfl) ?_
                  refine LW.go rfl rfl (OW.call Tc72 rfl (ref04_right_ok (a0 := ((([] : List Int) ++ x1) ++ ([t7_1] : List Int))) (H.own 1 rfl).sl hr2) ?_)
                  rintro _ w8 ⟨rfl, E2⟩
                  refine ⟨_, rfl, ?_⟩
                  replace H := H.grow E2
                  replace R0 := H.ext
                  refine LW.nil (hK20 _ _ ?_)
                  by_cases hp4 : r2 = true
                  ·
                    replace F := ite_y hp4 F
                    have hq4 : r2 = true := hp4
                    refine CW.condT rfl hq4 ?_
                    obtain ⟨hg6, F⟩ := gd_some F
                    refine CW.region ?_
                    refine LW.pure rfl rfl (RV.move rfl) ?_
                    refine LW.pure rfl rfl (RV.move rfl) ?_
                    refine LW.go rfl rfl (OW.buildSlice (e := 25) (vs := [.slice A3 ((((([] : List Int) ++ x1) ++ ([t7_1] : List Int))).length) c3]) (cs := [.slice A3 ((((([] : List Int) ++ x1) ++ ([t7_1] : List Int))).length) c3]) rfl (fun _ => by kernel_rfl) fun b5 w9 N5 => ?_)
                    replace H := H.made' (k := 1) (t := 25) (enc := encH) (l := [((A3, c3), List.map encN (((([] : List Int) ++ x1) ++ ([t7_1] : List Int))))]) N5 (by have q := N5.blk; simp only [List.flatMap_cons, List.flatMap_nil, encH, List.length_map, List.append_nil, List.cons_append, List.nil_append]; first | done | exact q) (fun _ => rfl) rfl (by first | decide | omega | (simp; done) | (simp; omega))
                    replace R0 := H.ext
                    refine LW.go rfl rfl (OW.appendT (enc := encN) (m := m7) (l := ((([] : List Int) ++ x1) ++ ([t7_1] : List Int))) Ts22 rfl rfl (H.tab 4 rfl) (H.own 0 rfl).sl rfl hg6 (by decide) fun A4 c4 w10 O3 M3 D3 => ?_)
                    replace H : Hp w w10 [.own (some ⟨b5, 0, none⟩) (([((A3, c3), List.map encN (((([] : List Int) ++ x1) ++ ([t7_1] : List Int))))]).length) 25 1 (List.map encH ([((A3, c3), List.map encN (((([] : List Int) ++ x1) ++ ([t7_1] : List Int))))])), .own (some ⟨b4, 0, none⟩) ((([t7_1] : List Int)).length) 3 1 (List.map encN (([t7_1] : List Int))), .tab Am6 cm6 25 hsm6 3 1 (encM encN m6), .tab A4 c4 25 ((hsm7 ++ [(A3, c3)])) 3 1 (encM encN ((m7 ++ [((([] : List Int) ++ x1) ++ ([t7_1] : List Int))]))), .blk b1 24 [.slice A_a0_worth a0.worth.length c_a0_worth]] := H.tabPush 4 2 (by decide) rfl rfl M3 D3 O3
                    replace R0 := H.ext
                    refine LW.pure rfl rfl (RV.assign rfl) ?_
                    replace H := H.pick (L' := [.tab Am6 cm6 25 hsm6 3 1 (encM encN m6), .tab A4 c4 25 ((hsm7 ++ [(A3, c3)])) 3 1 (encM encN ((m7 ++ [((([] : List Int) ++ x1) ++ ([t7_1] : List Int))]))), .blk b1 24 [.slice A_a0_worth a0.worth.length c_a0_worth]]) [2, 3, 4] (by decide) rfl
                    replace R0 := H.ext
                    refine LW.nil (jK6910 _ _ ⟨_, ?_, ⟨((m7 ++ [((([] : List Int) ++ x1) ++ ([t7_1] : List Int))])), ((hsm7 ++ [(A3, c3)])), A4, c4, F, rfl, H⟩⟩)
                    exact ⟨rfl, rfl, (look_slice rfl (by first | rfl | (simp; done) | (simp; omega))), rfl, (look_slice rfl (by first | rfl | (simp; done) | (simp; omega))), rfl, rfl, trivial⟩
                  ·
                    replace F := ite_n hp4 F
                    have hq4 : r2 = false := raw_f hp4
                    refine CW.condF rfl hq4 ?_
                    replace H := H.pick (L' := [.tab Am6 cm6 25 hsm6 3 1 (encM encN m6), .tab Am7 cm7 25 hsm7 3 1 (encM encN m7), .blk b1 24 [.slice A_a0_worth a0.worth.length c_a0_worth]]) [2, 3, 4] (by decide) rfl
                    replace R0 := H.ext
                    refine CW.skip (jK6910 _ _ ⟨_, ?_, ⟨m7, hsm7, Am7, cm7, F, rfl, H⟩⟩)
                    exact ⟨rfl, rfl, (look_slice rfl (by first | rfl | (simp; done) | (simp; omega))), rfl, (look_slice rfl (by first | rfl | (simp; done) | (simp; omega))), rfl, rfl, trivial⟩
              ·
                replace F := ite_n hp3 F
                have hq3 := dec_f hp3
                refine CW.condF rfl hq3 ?_
                refine CW.exit (jK6890 _ _ ⟨_, ?_, ⟨m7, hsm7, Am7, cm7, F, rfl, H⟩⟩)
                exact ⟨rfl, rfl, (look_slice rfl (by first | rfl | (simp; done) | (simp; omega))), rfl, (look_slice rfl (by first | rfl | (simp; done) | (simp; omega))), rfl, trivial⟩
          ·
            replace F := ite_n hp2 F
            have hq2 := dec_f hp2
            refine CW.condF rfl hq2 ?_
            refine CW.exit (jK6770 _ _ ⟨_, ?_, ⟨m8, hsm8, Am8, cm8, F, rfl, H⟩⟩)
            exact ⟨rfl, rfl, (look_slice rfl (by first | rfl | (simp; done) | (simp; omega))), rfl, (look_slice rfl (by first | rfl | (simp; done) | (simp; omega))), trivial⟩
    ·
      replace F := ite_n hp1 F
      have hq1 := dec_f hp1
      refine CW.condF rfl hq1 ?_
      replace H := H.pick (L' := [.tab Am6 cm6 25 hsm6 3 1 (encM encN m6)]) [0] (by decide) rfl
      replace R0 := H.ext
      refine CW.exit (jK5186 _ _ ⟨_, ?_, ⟨m6, hsm6, Am6, cm6, F, rfl, H⟩⟩)
      exact ⟨rfl, (look_slice rfl (by first | rfl | (simp; done) | (simp; omega))), trivial⟩
set_option maxRecDepth 20000 in
set_option maxHeartbeats 1000000 in
theorem ref04_bests_ok {a0 : Bog} {A_a0_worth : Option Addr} {c_a0_worth : Nat} {w : World} {res : (List (List Int)) × Int} (h_a0_worth : Sl2 w A_a0_worth c_a0_worth 1 encN a0.worth) (F : ref04_bests a0 = some res) : Calls Try.prog 75 #[.agg #[.slice A_a0_worth a0.worth.length c_a0_worth]] w (fun e w' => ∃ (A1 : Option Addr) (c1 : Nat), e = .returned (.tuple #[.slice A1 res.1.length c1, .int .i64 res.2]) ∧ Sl2 w' A1 c1 1 encN res.1 ∧ Ext w w') := by
  refine calls_of_cw (args := [.agg #[.slice A_a0_worth a0.worth.length c_a0_worth]]) Try.func75 rfl rfl rfl rfl ?_
  have H := Hp.start w
  have R0 := H.ext
  unfold ref04_bests at F
  refine CW.seq fun K1 hK1 => ?_
  refine CW.region ?_
  refine LW.go rfl rfl (OW.box rfl fun b1 w1 N1 => ?_)
  replace H := H.new N1 N1.blk
  replace R0 := H.ext
  refine LW.pure rfl rfl (RV.assign rfl) ?_
  refine LW.pure rfl rfl (RV.assign rfl) ?_
  refine LW.nil (hK1 _ _ ?_)
  refine CW.seq fun K2 hK2 => ?_
  obtain ⟨r1, hr1, F⟩ := bnd_some F
  refine CW.region ?_
  refine LW.pure rfl rfl (RV.loadA [.slice A_a0_worth a0.worth.length c_a0_worth] Tk24 rfl (H.blk 0 rfl).cells rfl rfl) ?_
  refine LW.go rfl rfl (OW.call Tc82 rfl (ref04_all_ok (a0 := a0) (h_a0_worth.ext R0) hr1) ?_)
  rintro _ w2 ⟨A16_0, c16_0, hs16_0, rfl, E1⟩
  refine ⟨_, rfl, ?_⟩
  replace H : Hp w w2 [.tab A16_0 c16_0 25 hs16_0 3 1 (encM encN r1), .blk b1 24 [.slice A_a0_worth a0.worth.length c_a0_worth]] := H.append E1
  replace R0 := H.ext
  refine LW.pure rfl rfl (RV.assign rfl) ?_
  refine LW.nil (hK2 _ _ ?_)
  refine CW.seq fun K3 hK3 => ?_
  refine CW.region ?_
  refine LW.pure rfl rfl (RV.assign rfl) ?_
  refine LW.nil (hK3 _ _ ?_)
  refine CW.seq fun K4 hK4 => ?_
  obtain ⟨x3, hbx3, hx3, F⟩ := ix_some F
  obtain ⟨r3, hr3, F⟩ := bnd_some F
  refine CW.draw [] (fun _ => True) (.cons 0 1 (.cons 1 1 (.cons 2 1 (.cons 3 1 (.cons 4 0 (.cons 5 1 .nil)))))) mixed (by kernel_rfl) fun w3 E2 => ?_
  replace H := H.grow E2
  replace R0 := H.ext
  refine DW.fix rfl rfl rfl (fun _ EQ => RV.loadA [.slice A_a0_worth a0.worth.length c_a0_worth] Tk24 rfl ((H.grow EQ).blk 1 rfl).cells rfl rfl) ?_
  refine DW.fix rfl rfl rfl (fun _ EQ => RV.move rfl) ?_
  obtain ⟨B1, e1, hh1⟩ := (H.tab 0 rfl).hd hx3
  refine DW.fix rfl rfl rfl (fun _ EQ => RV.indexAddr Ts22 rfl rfl hbx3 ((H.tab 0 rfl).addr_ hx3)) ?_
  refine DW.fix rfl rfl rfl (fun _ EQ => RV.load1 Tk25 rfl (((H.grow EQ).tab 0 rfl).cell hx3 hh1) rfl) ?_
  refine DW.sole rfl rfl rfl (OW.call Tc66 rfl (ref04_worth_ok (a0 := a0) (a1 := x3) (h_a0_worth.ext R0) ((H.tab 0 rfl).rowO hx3 hh1).sl hr3) ?_)
  rintro _ w4 ⟨rfl, E3⟩
  refine ⟨_, rfl, fun _ => E3, ModX.ext E3, ?_⟩
  replace H := H.grow E3
  replace R0 := H.ext
  refine DW.fix rfl rfl rfl (fun _ EQ => RV.assign rfl) ?_
  refine DW.nil (hK4 _ _ ?_)
  refine CW.seqJ (fun ρ wl1 => (∃ (t6_1 : Int) (m1 : List (List Int)) (hsm1 : List (Option Addr × Nat)) (Am1 : Option Addr) (cm1 : Nat), ref04_bests_k1 t6_1 m1 = some res ∧ ρ = [(2, .slice none 0 0), (3, .int .i64 0), (5, .slice Am1 m1.length cm1), (6, .int .i64 t6_1)] ∧ Hp w wl1 [.own Am1 cm1 25 1 (List.map encH (List.zip hsm1 m1)), .tab A16_0 c16_0 25 hs16_0 3 1 (encM encN r1)] ∧ SubT hsm1 m1 hs16_0 r1)) ?_ ?_
  ·
    rintro _ wl1 ⟨t6_1, m1, hsm1, Am1, cm1, F, rfl, H, hsub1⟩
    have R0 := H.ext
    unfold ref04_bests_k1 at F
    refine CW.seq fun K5 hK5 => ?_
    refine CW.region ?_
    refine LW.pure rfl rfl (RV.move rfl) ?_
    refine LW.pure rfl rfl (RV.move rfl) ?_
    refine LW.pure rfl rfl (RV.assign rfl) ?_
    refine LW.pure rfl rfl (RV.assign rfl) ?_
    refine LW.nil (hK5 _ _ ?_)
    refine CW.ret ?_
    obtain rfl := Option.some.inj F
    refine ⟨_, (ResOK.two rfl rfl), ?_⟩
    exact ⟨Am1, cm1, (by first | rfl | (simp; done) | (simp; omega)), (SubT.sl2 hsub1 (H.own 0 rfl) (H.tab 1 rfl)), R0⟩
  ·
    intro K6 hK6 jK168
    refine CW.seq fun K7 hK7 => ?_
    refine CW.region ?_
    refine LW.pure rfl rfl (RV.assign rfl) ?_
    refine LW.nil (hK7 _ _ ?_)
    refine CW.block ?_
    replace H : Hp w w4 [.own none 0 25 1 (List.map encH (List.zip (([] : List (Option Addr × Nat))) (([] : List (List Int))))), .tab A16_0 c16_0 25 hs16_0 3 1 (encM encN r1), .blk b1 24 [.slice A_a0_worth a0.worth.length c_a0_worth]] := H.nilOwn 25 1
    replace R0 := H.ext
    replace H := H.pick (L' := [.tab A16_0 c16_0 25 hs16_0 3 1 (encM encN r1), .own none 0 25 1 (List.map encH (List.zip (([] : List (Option Addr × Nat))) (([] : List (List Int))))), .blk b1 24 [.slice A_a0_worth a0.worth.length c_a0_worth]]) [1, 0, 2] (by decide) rfl
    replace R0 := H.ext
    refine CW.loop (fun meas ρ wl2 => ∃ (t6_4 : Int) (t7_1 : Int) (m4 : List (List Int)) (hsm4 : List (Option Addr × Nat)) (Am4 : Option Addr) (cm4 : Nat), ref04_bests_L1 a0 r1 meas t6_4 t7_1 m4 = some res ∧ ρ = [(1, .pointer (some (⟨b1, 0, none⟩))), (2, .slice none 0 0), (3, .int .i64 0), (4, .slice A16_0 r1.length c16_0), (5, .slice Am4 m4.length cm4), (6, .int .i64 t6_4), (7, .int .i64 t7_1)] ∧ Hp w wl2 [.tab A16_0 c16_0 25 hs16_0 3 1 (encM encN r1), .own Am4 cm4 25 1 (List.map encH (List.zip hsm4 m4)), .blk b1 24 [.slice A_a0_worth a0.worth.length c_a0_worth]] ∧ SubT hsm4 m4 hs16_0 r1) FU ⟨_, ?_, r3, ((0 : Int)), (([] : List (List Int))), (([] : List (Option Addr × Nat))), none, 0, F, rfl, H, SubT.nil⟩ ?_
    · exact ⟨rfl, rfl, rfl, (look_slice rfl (by first | rfl | (simp; done) | (simp; omega))), (look_slice rfl (by first | rfl | (simp; done) | (simp; omega))), rfl, rfl, trivial⟩
    rintro mk1 _ wl2 ⟨t6_4, t7_1, m4, hsm4, Am4, cm4, F, rfl, H, hsub2⟩
    have R0 := H.ext
    replace F := ref04_bests_L1_s F
    obtain ⟨mk1, rfl, F⟩ := F
    generalize hrec1 : ref04_bests_L1 a0 r1 mk1 = rec1 at F
    unfold ref04_bests_B1 at F
    refine CW.seq fun K8 hK8 => ?_
    refine CW.seq fun K9 hK9 => ?_
    refine CW.region ?_
    refine LW.pure rfl rfl (RV.move rfl) ?_
    refine LW.pure rfl rfl (RV.move rfl) ?_
    refine LW.pure rfl rfl (RV.len Ts22 rfl) ?_
    refine LW.pure rfl rfl (RV.lss rfl rfl) ?_
    refine LW.nil (hK9 _ _ ?_)
    by_cases hp1 : t7_1 < ((r1.length : Int))
    ·
      replace F := ite_y hp1 F
      have hq1 := dec_t hp1
      refine CW.condT rfl hq1 ?_
      refine CW.skip (hK8 _ _ ?_)
      refine CW.seqJ (fun ρ wl3 => (∃ (t6_2 : Int) (m2 : List (List Int)) (hsm2 : List (Option Addr × Nat)) (Am2 : Option Addr) (cm2 : Nat), ref04_bests_k2 t7_1 rec1 t6_2 m2 = some res ∧ ρ = [(1, .pointer (some (⟨b1, 0, none⟩))), (2, .slice none 0 0), (3, .int .i64 0), (4, .slice A16_0 r1.length c16_0), (5, .slice Am2 m2.length cm2), (6, .int .i64 t6_2), (7, .int .i64 t7_1)] ∧ Hp w wl3 [.tab A16_0 c16_0 25 hs16_0 3 1 (encM encN r1), .own Am2 cm2 25 1 (List.map encH (List.zip hsm2 m2)), .blk b1 24 [.slice A_a0_worth a0.worth.length c_a0_worth]] ∧ SubT hsm2 m2 hs16_0 r1)) ?_ ?_
      ·
        rintro _ wl3 ⟨t6_2, m2, hsm2, Am2, cm2, F, rfl, H, hsub3⟩
        have R0 := H.ext
        unfold ref04_bests_k2 at F
        obtain ⟨hg1, F⟩ := gd_some F
        refine CW.region ?_
        refine LW.pure rfl rfl (RV.move rfl) ?_
        refine LW.pure rfl rfl (RV.add rfl rfl hg1) ?_
        refine LW.pure rfl rfl (RV.assign rfl) ?_
        refine LW.nil ?_
        subst hrec1
        refine ⟨mk1, Nat.lt_succ_self _, _, ?_, t6_2, (t7_1 + 1), m2, hsm2, Am2, cm2, F, rfl, H, hsub3⟩
        exact ⟨rfl, rfl, rfl, (look_slice rfl (by first | rfl | (simp; done) | (simp; omega))), (look_slice rfl (by first | rfl | (simp; done) | (simp; omega))), rfl, rfl, trivial⟩
      ·
        intro K10 hK10 jK213
        refine CW.block ?_
        refine CW.seq fun K11 hK11 => ?_
        obtain ⟨x2, hbx2, hx2, F⟩ := ix_some F
        obtain ⟨r2, hr2, F⟩ := bnd_some F
        refine CW.draw [] (fun _ => True) (.cons 0 1 (.cons 1 1 (.cons 2 1 (.cons 3 1 (.cons 4 1 (.cons 5 0 (.cons 6 1 .nil))))))) mixed (by kernel_rfl) fun w5 E4 => ?_
        replace H := H.grow E4
        replace R0 := H.ext
        refine DW.fix rfl rfl rfl (fun _ EQ => RV.loadA [.slice A_a0_worth a0.worth.length c_a0_worth] Tk24 rfl ((H.grow EQ).blk 2 rfl).cells rfl rfl) ?_
        refine DW.fix rfl rfl rfl (fun _ EQ => RV.move rfl) ?_
        refine DW.fix rfl rfl rfl (fun _ EQ => RV.move rfl) ?_
        obtain ⟨B2, e2, hh2⟩ := (H.tab 0 rfl).hd hx2
        refine DW.fix rfl rfl rfl (fun _ EQ => RV.indexAddr Ts22 rfl rfl hbx2 ((H.tab 0 rfl).addr_ hx2)) ?_
        refine DW.fix rfl rfl rfl (fun _ EQ => RV.load1 Tk25 rfl (((H.grow EQ).tab 0 rfl).cell hx2 hh2) rfl) ?_
        refine DW.sole rfl rfl rfl (OW.call Tc66 rfl (ref04_worth_ok (a0 := a0) (a1 := x2) (h_a0_worth.ext R0) ((H.tab 0 rfl).rowO hx2 hh2).sl hr2) ?_)
        rintro _ w6 ⟨rfl, E5⟩
        refine ⟨_, rfl, fun _ => E5, ModX.ext E5, ?_⟩
        replace H := H.grow E5
        replace R0 := H.ext
        refine DW.fix rfl rfl rfl (fun _ EQ => RV.assign rfl) ?_
        refine DW.nil (hK11 _ _ ?_)
        refine CW.seqJ (fun ρ wl4 => (∃ (t6_3 : Int) (m3 : List (List Int)) (hsm3 : List (Option Addr × Nat)) (Am3 : Option Addr) (cm3 : Nat), ref04_bests_k3 r1 t7_1 rec1 r2 t6_3 m3 = some res ∧ ρ = [(1, .pointer (some (⟨b1, 0, none⟩))), (2, .slice none 0 0), (3, .int .i64 0), (4, .slice A16_0 r1.length c16_0), (5, .slice Am3 m3.length cm3), (6, .int .i64 t6_3), (7, .int .i64 t7_1), (8, .int .i64 r2)] ∧ Hp w wl4 [.tab A16_0 c16_0 25 hs16_0 3 1 (encM encN r1), .own Am3 cm3 25 1 (List.map encH (List.zip hsm3 m3)), .blk b1 24 [.slice A_a0_worth a0.worth.length c_a0_worth]] ∧ SubT hsm3 m3 hs16_0 r1)) ?_ ?_
        ·
          rintro _ wl4 ⟨t6_3, m3, hsm3, Am3, cm3, F, rfl, H, hsub4⟩
          have R0 := H.ext
          unfold ref04_bests_k3 at F
          refine CW.seq fun K12 hK12 => ?_
          refine CW.region ?_
          refine LW.pure rfl rfl (RV.move rfl) ?_
          refine LW.pure rfl rfl (RV.move rfl) ?_
          refine LW.pure rfl rfl (RV.eqi rfl rfl) ?_
          refine LW.nil (hK12 _ _ ?_)
          by_cases hp2 : r2 = t6_3
          ·
            replace F := ite_y hp2 F
            have hq2 := dec_t hp2
            refine CW.condT rfl hq2 ?_
            obtain ⟨x1, hbx1, hx1, F⟩ := ix_some F
            obtain ⟨hg2, F⟩ := gd_some F
            refine CW.region ?_
            refine LW.pure rfl rfl (RV.move rfl) ?_
            refine LW.pure rfl rfl (RV.move rfl) ?_
            refine LW.pure rfl rfl (RV.move rfl) ?_
            obtain ⟨B3, e3, hh3⟩ := (H.tab 0 rfl).hd hx1
            refine LW.pure rfl rfl (RV.indexAddr Ts22 rfl rfl hbx1 ((H.tab 0 rfl).addr_ hx1)) ?_
            refine LW.pure rfl rfl (RV.load1 Tk25 rfl ((H.tab 0 rfl).cell hx1 hh3) rfl) ?_
            refine LW.go rfl rfl (OW.buildSlice (e := 25) (vs := [.slice B3 x1.length e3]) (cs := [.slice B3 x1.length e3]) rfl (fun _ => by kernel_rfl) fun b2 w7 N2 => ?_)
            replace H := H.made' (k := 1) (t := 25) (enc := encH) (l := ([((B3, e3), x1)] : List ((Option Addr × Nat) × List Int))) N2 (by have q := N2.blk; simp only [List.flatMap_cons, List.flatMap_nil, encH, List.length_nil, List.append_nil, List.cons_append, List.nil_append]; first | done | exact q) (fun _ => rfl) rfl (by first | decide | omega | (simp; done) | (simp; omega))
            replace R0 := H.ext
            refine LW.go rfl rfl (OW.appendS (m := m3) (mT := r1) (hs := hsm3) (hT := hs16_0) (h := (B3, e3)) (l := x1) Ts22 rfl rfl hsub4 (H.own 2 rfl) (H.own 0 rfl).sl rfl hg2 (by decide) fun A2 c2 w8 O1 M1 D1 => ?_)
            have hsub5 : SubT (hsm3 ++ [(B3, e3)]) (m3 ++ [x1]) hs16_0 r1 := SubT.push hsub4 hh3 hx1
            replace H : Hp w w8 [.own (some ⟨b2, 0, none⟩) ((([((B3, e3), x1)] : List ((Option Addr × Nat) × List Int))).length) 25 1 (List.map encH (([((B3, e3), x1)] : List ((Option Addr × Nat) × List Int)))), .tab A16_0 c16_0 25 hs16_0 3 1 (encM encN r1), .own A2 c2 25 1 (List.map encH (List.zip ((hsm3 ++ [(B3, e3)])) ((m3 ++ [x1])))), .blk b1 24 [.slice A_a0_worth a0.worth.length c_a0_worth]] := H.mod 2 rfl M1 O1 D1
            replace R0 := H.ext
            refine LW.pure rfl rfl (RV.assign rfl) ?_
            replace H := H.pick (L' := [.tab A16_0 c16_0 25 hs16_0 3 1 (encM encN r1), .own A2 c2 25 1 (List.map encH (List.zip ((hsm3 ++ [(B3, e3)])) ((m3 ++ [x1])))), .blk b1 24 [.slice A_a0_worth a0.worth.length c_a0_worth]]) [1, 2, 3] (by decide) rfl
            replace R0 := H.ext
            refine LW.nil (jK213 _ _ ⟨_, ?_, ⟨t6_3, ((m3 ++ [x1])), ((hsm3 ++ [(B3, e3)])), A2, c2, F, rfl, H, hsub5⟩⟩)
            exact ⟨rfl, rfl, rfl, (look_slice rfl (by first | rfl | (simp; done) | (simp; omega))), (look_slice rfl (by first | rfl | (simp; done) | (simp; omega))), rfl, rfl, trivial⟩
          ·
            replace F := ite_n hp2 F
            have hq2 := dec_f hp2
            refine CW.condF rfl hq2 ?_
            refine CW.skip (jK213 _ _ ⟨_, ?_, ⟨t6_3, m3, hsm3, Am3, cm3, F, rfl, H, hsub4⟩⟩)
            exact ⟨rfl, rfl, rfl, (look_slice rfl (by first | rfl | (simp; done) | (simp; omega))), (look_slice rfl (by first | rfl | (simp; done) | (simp; omega))), rfl, rfl, trivial⟩
        ·
          intro K13 hK13 jK218
          refine CW.seq fun K14 hK14 => ?_
          refine CW.region ?_
          refine LW.pure rfl rfl (RV.move rfl) ?_
          refine LW.pure rfl rfl (RV.move rfl) ?_
          refine LW.pure rfl rfl (RV.gtr rfl rfl) ?_
          refine LW.nil (hK14 _ _ ?_)
          by_cases hp3 : t6_4 < r2
          ·
            replace F := ite_y hp3 F
            have hq3 := dec_t hp3
            refine CW.condT rfl hq3 ?_
            refine CW.seq fun K15 hK15 => ?_
            refine CW.region ?_
            refine LW.pure rfl rfl (RV.assign rfl) ?_
            refine LW.nil (hK15 _ _ ?_)
            refine CW.region ?_
            refine LW.pure rfl rfl (RV.move rfl) ?_
            refine LW.pure rfl rfl (RV.assign rfl) ?_
            replace H : Hp w w6 [.own none 0 25 1 (List.map encH (List.zip (([] : List (Option Addr × Nat))) (([] : List (List Int))))), .tab A16_0 c16_0 25 hs16_0 3 1 (encM encN r1), .own Am4 cm4 25 1 (List.map encH (List.zip hsm4 m4)), .blk b1 24 [.slice A_a0_worth a0.worth.length c_a0_worth]] := H.nilOwn 25 1
            replace R0 := H.ext
            replace H := H.pick (L' := [.tab A16_0 c16_0 25 hs16_0 3 1 (encM encN r1), .own none 0 25 1 (List.map encH (List.zip (([] : List (Option Addr × Nat))) (([] : List (List Int))))), .blk b1 24 [.slice A_a0_worth a0.worth.length c_a0_worth]]) [1, 0, 3] (by decide) rfl
            replace R0 := H.ext
            refine LW.nil (jK218 _ _ ⟨_, ?_, ⟨r2, (([] : List (List Int))), (([] : List (Option Addr × Nat))), none, 0, F, rfl, H, SubT.nil⟩⟩)
            exact ⟨rfl, rfl, rfl, (look_slice rfl (by first | rfl | (simp; done) | (simp; omega))), (look_slice rfl (by first | rfl | (simp; done) | (simp; omega))), rfl, rfl, rfl, trivial⟩
          ·
            replace F := ite_n hp3 F
            have hq3 := dec_f hp3
            refine CW.condF rfl hq3 ?_
            refine CW.skip (jK218 _ _ ⟨_, ?_, ⟨t6_4, m4, hsm4, Am4, cm4, F, rfl, H, hsub2⟩⟩)
            exact ⟨rfl, rfl, rfl, (look_slice rfl (by first | rfl | (simp; done) | (simp; omega))), (look_slice rfl (by first | rfl | (simp; done) | (simp; omega))), rfl, rfl, rfl, trivial⟩
    ·
      replace F := ite_n hp1 F
      have hq1 := dec_f hp1
      refine CW.condF rfl hq1 ?_
      replace H := H.pick (L' := [.own Am4 cm4 25 1 (List.map encH (List.zip hsm4 m4)), .tab A16_0 c16_0 25 hs16_0 3 1 (encM encN r1)]) [1, 0] (by decide) rfl
      replace R0 := H.ext
      refine CW.exit (jK168 _ _ ⟨_, ?_, ⟨t6_4, m4, hsm4, Am4, cm4, F, rfl, H, hsub2⟩⟩)
      exact ⟨rfl, rfl, (look_slice rfl (by first | rfl | (simp; done) | (simp; omega))), rfl, trivial⟩
set_option maxRecDepth 20000 in
set_option maxHeartbeats 1000000 in
theorem ref04_Best_ok {a0 : Bog} {A_a0_worth : Option Addr} {c_a0_worth : Nat} {w : World} {res : (List Int) × Int × Int} (h_a0_worth : Sl2 w A_a0_worth c_a0_worth 1 encN a0.worth) (F : ref04_Best a0 = some res) : Calls Try.prog 29 #[.agg #[.slice A_a0_worth a0.worth.length c_a0_worth]] w (fun e w' => ∃ (A0 : Option Addr) (c0 : Nat), e = .returned (.tuple #[.slice A0 res.1.length c0, .int .i64 res.2.1, .int .i64 res.2.2]) ∧ Hp w w' [.own A0 c0 3 1 (List.map encN res.1)]) := by
  refine calls_of_cw (args := [.agg #[.slice A_a0_worth a0.worth.length c_a0_worth]]) Try.func29 rfl rfl rfl rfl ?_
  have H := Hp.start w
  have R0 := H.ext
  unfold ref04_Best at F
  refine CW.seq fun K1 hK1 => ?_
  refine CW.region ?_
  refine LW.go rfl rfl (OW.box rfl fun b1 w1 N1 => ?_)
  replace H := H.new N1 N1.blk
  replace R0 := H.ext
  refine LW.pure rfl rfl (RV.assign rfl) ?_
  refine LW.pure rfl rfl (RV.assign rfl) ?_
  refine LW.pure rfl rfl (RV.assign rfl) ?_
  refine LW.nil (hK1 _ _ ?_)
  refine CW.seq fun K2 hK2 => ?_
  obtain ⟨r1, hr1, F⟩ := bnd_some F
  refine CW.region ?_
  refine LW.pure rfl rfl (RV.loadA [.slice A_a0_worth a0.worth.length c_a0_worth] Tk24 rfl (H.blk 0 rfl).cells rfl rfl) ?_
  refine LW.go rfl rfl (OW.call Tc26 rfl (ref04_Validate_ok (a0 := a0) (h_a0_worth.ext R0) hr1) ?_)
  rintro _ w2 ⟨rfl, E1⟩
  refine ⟨_, rfl, ?_⟩
  replace H := H.grow E1
  replace R0 := H.ext
  refine LW.pure rfl rfl (RV.assign rfl) ?_
  refine LW.nil (hK2 _ _ ?_)
  refine CW.seq fun K3 hK3 => ?_
  refine CW.seq fun K4 hK4 => ?_
  refine CW.region ?_
  refine LW.pure rfl rfl (RV.move rfl) ?_
  refine LW.pure rfl rfl (RV.nei rfl rfl) ?_
  refine LW.nil (hK4 _ _ ?_)
  by_cases hp1 : r1 = 0
  ·
    replace F := ite_y hp1 F
    have hq1 := dec_t hp1
    refine CW.condF rfl (not_f hq1) ?_
    refine CW.skip (hK3 _ _ ?_)
    refine CW.seq fun K5 hK5 => ?_
    obtain ⟨r2, hr2, F⟩ := bnd_some F
    refine CW.region ?_
    refine LW.pure rfl rfl (RV.loadA [.slice A_a0_worth a0.worth.length c_a0_worth] Tk24 rfl (H.blk 0 rfl).cells rfl rfl) ?_
    refine LW.go rfl rfl (OW.call Tc75 rfl (ref04_bests_ok (a0 := a0) (h_a0_worth.ext R0) hr2) ?_)
    rintro _ w3 ⟨A7_0, c7_0, rfl, S7_0, E2⟩
    refine ⟨_, rfl, ?_⟩
    replace H := H.grow E2
    replace R0 := H.ext
    refine LW.pure rfl rfl (RV.move rfl) ?_
    refine LW.pure rfl rfl (RV.extract rfl rfl) ?_
    refine LW.pure rfl rfl (RV.extract rfl rfl) ?_
    refine LW.pure rfl rfl (RV.assign rfl) ?_
    refine LW.pure rfl rfl (RV.assign rfl) ?_
    refine LW.nil (hK5 _ _ ?_)
    refine CW.seq fun K6 hK6 => ?_
    obtain ⟨r3, hr3, F⟩ := bnd_some F
    refine CW.region ?_
    refine LW.pure rfl rfl (RV.move rfl) ?_
    refine LW.go rfl rfl (OW.call Tc76 rfl (ref04_least_ok (a0 := r2.1) S7_0 hr3) ?_)
    rintro _ w4 ⟨A9_0, c9_0, rfl, E3⟩
    refine ⟨_, rfl, ?_⟩
    have S7_0 := S7_0.ext E3.ext
    replace H : Hp w w4 [.own A9_0 c9_0 3 1 (List.map encN r3), .blk b1 24 [.slice A_a0_worth a0.worth.length c_a0_worth]] := H.append E3
    replace R0 := H.ext
    refine LW.pure rfl rfl (RV.move rfl) ?_
    refine LW.pure rfl rfl (RV.assign rfl) ?_
    refine LW.pure rfl rfl (RV.assign rfl) ?_
    refine LW.pure rfl rfl (RV.assign rfl) ?_
    refine LW.nil (hK6 _ _ ?_)
    refine CW.ret ?_
    obtain rfl := Option.some.inj F
    refine ⟨_, (ResOK.three rfl rfl rfl), ?_⟩
    replace H := H.pick (L' := [.own A9_0 c9_0 3 1 (List.map encN r3)]) [0] (by decide) rfl
    replace R0 := H.ext
    exact ⟨A9_0, c9_0, (by first | rfl | (simp; done) | (simp; omega)), H⟩
  ·
    replace F := ite_n hp1 F
    have hq1 := dec_f hp1
    refine CW.condT rfl (not_t hq1) ?_
    refine CW.seq fun K7 hK7 => ?_
    refine CW.region ?_
    refine LW.pure rfl rfl (RV.move rfl) ?_
    refine LW.pure rfl rfl (RV.assign rfl) ?_
    refine LW.pure rfl rfl (RV.assign rfl) ?_
    refine LW.pure rfl rfl (RV.assign rfl) ?_
    refine LW.nil (hK7 _ _ ?_)
    refine CW.ret ?_
    obtain rfl := Option.some.inj F
    refine ⟨_, (ResOK.three rfl rfl rfl), ?_⟩
    replace H := H.nilOwn 3 1
    replace R0 := H.ext
    replace H := H.pick (L' := [.own none 0 3 1 (List.map encN (([] : List Int)))]) [0] (by decide) rfl
    replace R0 := H.ext
    exact ⟨none, 0, (by first | rfl | (simp; done) | (simp; omega)), H⟩
end Go.D4

set_option linter.unusedVariables false
set_option linter.unusedSimpArgs false
namespace Go.D4
open Go.Tb Go.Proofs Go.RowKit
theorem Tc29 : callable Try.prog 29 = true := by kernel_rfl
end Go.D4

set_option linter.unusedVariables false
set_option linter.unusedSimpArgs false
namespace Go.D4
open Go.Tb Go.Proofs Go.RowKit
theorem Tz3 : tyZ Try.prog 3 = some (.int .i64 0) := by kernel_rfl
end Go.D4

set_option linter.unusedVariables false
set_option linter.unusedSimpArgs false
namespace Go.D4
open Go.Tb Go.Proofs Go.RowKit
theorem Te92 (a0 : Int) (a1 : Int) (b0 : Int) (b1 : Int) (w : World) : (Op.equalIn 10000 92 (.agg #[.int .i64 a0, .int .i64 a1]) (.agg #[.int .i64 b0, .int .i64 b1])).run Try.prog w = .ok ((a0 == b0) && (a1 == b1)) w := by
  rw [run_equalIn_agg w 9999 92 _ _ (by kernel_rfl) (by kernel_rfl)]
  simp [Program.fieldsOf, Try.underlying92, Op.eqFields, go_sem]
  by_cases h0 : a0 = b0 <;> by_cases h1 : a1 = b1 <;> simp [h0, h1]
theorem Tf94_0 : tyF Try.prog 94 0 = some 0 := by kernel_rfl
theorem Tf94_1 : tyF Try.prog 94 1 = some 1 := by kernel_rfl
theorem Tf94_2 : tyF Try.prog 94 2 = some 2 := by kernel_rfl
theorem Tf94_3 : tyF Try.prog 94 3 = some 3 := by kernel_rfl
theorem Tk94 : tyK Try.prog 94 = some (true, 4) := by kernel_rfl
theorem Tm90 : tyM Try.prog 90 = some (92, 3) := by kernel_rfl
theorem Ts55 : tyS Try.prog 55 = some (94, 4, 32, [.int .i64 0, .int .i64 0, .int .i64 0, .int .i64 0]) := by kernel_rfl
theorem Tz94 : tyZ Try.prog 94 = some (.agg #[.int .i64 0, .int .i64 0, .int .i64 0, .int .i64 0]) := by kernel_rfl
theorem KO92 : KeyOK Try.prog 92 ekBlock eqBlock :=
  KeyOK.agg (d := ((Try.prog.underlying 92).getD .bool)) (fun x => #[.int .i64 x.column, .int .i64 x.row]) (by kernel_rfl) (fun _ => rfl) (fun w em x => by kernel_rfl) (fun w x y => Te92 _ _ _ _ w) (fun x y => by cases x; cases y; simp [eqBlock, and_assoc]) (fun x => by simp [Instr.sameBits])
end Go.D4

set_option linter.unusedVariables false
set_option linter.unusedSimpArgs false
namespace Go.D4
open Go.Tb Go.Proofs Go.RowKit
set_option maxRecDepth 20000 in
set_option maxHeartbeats 1000000 in
theorem ref04_CheckProof_ok {a0 : Bog} {a1 : List Pass} {A_a0_worth : Option Addr} {c_a0_worth : Nat} {A_a1 : Option Addr} {c_a1 : Nat} {w : World} {res : Int × Int} (h_a0_worth : Sl2 w A_a0_worth c_a0_worth 1 encN a0.worth) (h_a1 : Sl w A_a1 c_a1 4 (a1.map encPass)) (F : ref04_CheckProof a0 a1 = some res) : Calls Try.prog 56 #[.agg #[.slice A_a0_worth a0.worth.length c_a0_worth], .slice A_a1 a1.length c_a1] w (Rt w (.tuple #[.int .i64 res.1, .int .i64 res.2])) := by
  refine calls_of_cw (args := [.agg #[.slice A_a0_worth a0.worth.length c_a0_worth], .slice A_a1 a1.length c_a1]) Try.func56 rfl rfl rfl rfl ?_
  have H := Hp.start w
  have R0 := H.ext
  unfold ref04_CheckProof at F
  refine CW.seq fun K1 hK1 => ?_
  refine CW.region ?_
  refine LW.go rfl rfl (OW.box rfl fun b1 w1 N1 => ?_)
  replace H := H.new N1 N1.blk
  replace R0 := H.ext
  refine LW.pure rfl rfl (RV.assign rfl) ?_
  refine LW.pure rfl rfl (RV.assign rfl) ?_
  refine LW.nil (hK1 _ _ ?_)
  refine CW.seq fun K2 hK2 => ?_
  obtain ⟨r3, hr3, F⟩ := bnd_some F
  refine CW.region ?_
  refine LW.pure rfl rfl (RV.loadA [.slice A_a0_worth a0.worth.length c_a0_worth] Tk24 rfl (H.blk 0 rfl).cells rfl rfl) ?_
  refine LW.go rfl rfl (OW.call Tc26 rfl (ref04_Validate_ok (a0 := a0) (h_a0_worth.ext R0) hr3) ?_)
  rintro _ w2 ⟨rfl, E1⟩
  refine ⟨_, rfl, ?_⟩
  replace H := H.grow E1
  replace R0 := H.ext
  refine LW.pure rfl rfl (RV.assign rfl) ?_
  refine LW.nil (hK2 _ _ ?_)
  refine CW.seq fun K3 hK3 => ?_
  refine CW.seq fun K4 hK4 => ?_
  refine CW.region ?_
  refine LW.pure rfl rfl (RV.move rfl) ?_
  refine LW.pure rfl rfl (RV.nei rfl rfl) ?_
  refine LW.nil (hK4 _ _ ?_)
  by_cases hp1 : r3 = 0
  ·
    replace F := ite_y hp1 F
    have hq1 := dec_t hp1
    refine CW.condF rfl (not_f hq1) ?_
    refine CW.skip (hK3 _ _ ?_)
    refine CW.seq fun K5 hK5 => ?_
    refine CW.seq fun K6 hK6 => ?_
    refine CW.region ?_
    refine LW.pure rfl rfl (RV.move rfl) ?_
    refine LW.pure rfl rfl (RV.len Ts55 rfl) ?_
    refine LW.pure rfl rfl (RV.gtr rfl rfl) ?_
    refine LW.nil (hK6 _ _ ?_)
    by_cases hp2 : (60 : Int) < ((a1.length : Int))
    ·
      replace F := ite_y hp2 F
      have hq2 := dec_t hp2
      refine CW.condT rfl hq2 ?_
      refine CW.seq fun K7 hK7 => ?_
      refine CW.region ?_
      refine LW.pure rfl rfl (RV.assign rfl) ?_
      refine LW.pure rfl rfl (RV.assign rfl) ?_
      refine LW.nil (hK7 _ _ ?_)
      refine CW.ret ?_
      obtain rfl := Option.some.inj F
      refine ⟨_, (ResOK.two rfl rfl), ?_⟩
      refine ⟨(by first | rfl | simp), R0⟩
    ·
      replace F := ite_n hp2 F
      have hq2 := dec_f hp2
      refine CW.condF rfl hq2 ?_
      refine CW.skip (hK5 _ _ ?_)
      refine CW.seq fun K8 hK8 => ?_
      obtain ⟨r4, hr4, F⟩ := bnd_some F
      refine CW.region ?_
      refine LW.pure rfl rfl (RV.loadA [.slice A_a0_worth a0.worth.length c_a0_worth] Tk24 rfl (H.blk 0 rfl).cells rfl rfl) ?_
      refine LW.go rfl rfl (OW.call Tc43 rfl (ref04_Copy_ok (a0 := a0) (h_a0_worth.ext R0) hr4) ?_)
      rintro _ w3 ⟨A54_0_worth, c54_0_worth, hs54_0_worth, rfl, E2⟩
      refine ⟨_, rfl, ?_⟩
      replace H : Hp w w3 [.tab A54_0_worth c54_0_worth 25 hs54_0_worth 3 1 (encM encN r4.worth), .blk b1 24 [.slice A_a0_worth a0.worth.length c_a0_worth]] := H.append E2
      replace R0 := H.ext
      refine LW.go rfl rfl (OW.alloc Tz24 fun b2 w4 N2 => ?_)
      replace H := H.new N2 N2.blk
      replace R0 := H.ext
      refine LW.go rfl rfl (OW.store Tk24 rfl rfl (H.blk 0 rfl) (off := 0) (vs := [.slice A54_0_worth r4.worth.length c54_0_worth]) rfl rfl rfl rfl rfl fun w5 S1 => ?_)
      replace H : Hp w w5 [.blk b2 24 [.slice A54_0_worth r4.worth.length c54_0_worth], .tab A54_0_worth c54_0_worth 25 hs54_0_worth 3 1 (encM encN r4.worth), .blk b1 24 [.slice A_a0_worth a0.worth.length c_a0_worth]] := H.stored 0 rfl S1
      replace R0 := H.ext
      refine LW.nil (hK8 _ _ ?_)
      refine CW.seq fun K9 hK9 => ?_
      refine CW.region ?_
      refine LW.pure rfl rfl (RV.fieldAddr Tf24_0 rfl) ?_
      refine LW.pure rfl rfl (RV.load1 Tk22 rfl ((H.blk 2 rfl).cells.off 0) rfl) ?_
      refine LW.pure rfl rfl (RV.len Ts22 rfl) ?_
      refine LW.pure rfl rfl (RV.assign rfl) ?_
      refine LW.nil (hK9 _ _ ?_)
      refine CW.seqJ (fun ρ wl1 => (∃ (m1 : List (List Int)), ref04_CheckProof_k3 a0 m1 = some res ∧ ρ = [(2, .pointer (some (⟨b1, 0, none⟩))), (4, .int .i64 0), (5, .int .i64 0), (7, .pointer (some (⟨b2, 0, none⟩))), (8, .int .i64 ((a0.worth.length : Int)))] ∧ Hp w wl1 [.tab A54_0_worth c54_0_worth 25 hs54_0_worth 3 1 (encM encN m1), .blk b1 24 [.slice A_a0_worth a0.worth.length c_a0_worth], .blk b2 24 [.slice A54_0_worth m1.length c54_0_worth]])) ?_ ?_
      ·
        rintro _ wl1 ⟨m1, F, rfl, H⟩
        have R0 := H.ext
        unfold ref04_CheckProof_k3 at F
        refine CW.seq fun K10 hK10 => ?_
        refine CW.region ?_
        refine LW.pure rfl rfl (RV.assign rfl) ?_
        refine LW.nil (hK10 _ _ ?_)
        refine CW.seqJ (fun ρ wl2 => (∃ (t11_1 : Int), ref04_CheckProof_k1 t11_1 = some res ∧ ρ = [(4, .int .i64 0), (5, .int .i64 0), (11, .int .i64 t11_1)] ∧ Hp w wl2 [])) ?_ ?_
        ·
          rintro _ wl2 ⟨t11_1, F, rfl, H⟩
          have R0 := H.ext
          unfold ref04_CheckProof_k1 at F
          refine CW.seq fun K11 hK11 => ?_
          refine CW.region ?_
          refine LW.pure rfl rfl (RV.move rfl) ?_
          refine LW.pure rfl rfl (RV.assign rfl) ?_
          refine LW.pure rfl rfl (RV.assign rfl) ?_
          refine LW.nil (hK11 _ _ ?_)
          refine CW.ret ?_
          obtain rfl := Option.some.inj F
          refine ⟨_, (ResOK.two rfl rfl), ?_⟩
          refine ⟨(by first | rfl | simp), R0⟩
        ·
          intro K12 hK12 jK338
          refine CW.seq fun K13 hK13 => ?_
          refine CW.region ?_
          refine LW.pure rfl rfl (RV.assign rfl) ?_
          refine LW.nil (hK13 _ _ ?_)
          refine CW.block ?_
          refine CW.loop (fun meas ρ wl3 => ∃ (t11_4 : Int) (t12_1 : Int), ref04_CheckProof_L2 a0 m1 meas t11_4 t12_1 = some res ∧ ρ = [(2, .pointer (some (⟨b1, 0, none⟩))), (4, .int .i64 0), (5, .int .i64 0), (7, .pointer (some (⟨b2, 0, none⟩))), (8, .int .i64 ((a0.worth.length : Int))), (11, .int .i64 t11_4), (12, .int .i64 t12_1)] ∧ Hp w wl3 [.tab A54_0_worth c54_0_worth 25 hs54_0_worth 3 1 (encM encN m1), .blk b1 24 [.slice A_a0_worth a0.worth.length c_a0_worth], .blk b2 24 [.slice A54_0_worth m1.length c54_0_worth]]) FU ⟨_, ?_, ((0 : Int)), ((0 : Int)), F, rfl, H⟩ ?_
          · exact ⟨rfl, rfl, rfl, rfl, rfl, rfl, rfl, trivial⟩
          rintro mk1 _ wl3 ⟨t11_4, t12_1, F, rfl, H⟩
          have R0 := H.ext
          replace F := ref04_CheckProof_L2_s F
          obtain ⟨mk1, rfl, F⟩ := F
          generalize hrec1 : ref04_CheckProof_L2 a0 m1 mk1 = rec1 at F
          unfold ref04_CheckProof_B2 at F
          refine CW.seq fun K14 hK14 => ?_
          refine CW.seq fun K15 hK15 => ?_
          refine CW.region ?_
          refine LW.pure rfl rfl (RV.move rfl) ?_
          refine LW.pure rfl rfl (RV.move rfl) ?_
          refine LW.pure rfl rfl (RV.lss rfl rfl) ?_
          refine LW.nil (hK15 _ _ ?_)
          by_cases hp3 : t12_1 < ((a0.worth.length : Int))
          ·
            replace F := ite_y hp3 F
            have hq3 := dec_t hp3
            refine CW.condT rfl hq3 ?_
            refine CW.skip (hK14 _ _ ?_)
            refine CW.seqJ (fun ρ wl4 => (∃ (t11_2 : Int), ref04_CheckProof_k2 t12_1 rec1 t11_2 = some res ∧ ρ = [(2, .pointer (some (⟨b1, 0, none⟩))), (4, .int .i64 0), (5, .int .i64 0), (7, .pointer (some (⟨b2, 0, none⟩))), (8, .int .i64 ((a0.worth.length : Int))), (11, .int .i64 t11_2), (12, .int .i64 t12_1)] ∧ Hp w wl4 [.tab A54_0_worth c54_0_worth 25 hs54_0_worth 3 1 (encM encN m1), .blk b1 24 [.slice A_a0_worth a0.worth.length c_a0_worth], .blk b2 24 [.slice A54_0_worth m1.length c54_0_worth]])) ?_ ?_
            ·
              rintro _ wl4 ⟨t11_2, F, rfl, H⟩
              have R0 := H.ext
              unfold ref04_CheckProof_k2 at F
              obtain ⟨hg1, F⟩ := gd_some F
              refine CW.region ?_
              refine LW.pure rfl rfl (RV.move rfl) ?_
              refine LW.pure rfl rfl (RV.add rfl rfl hg1) ?_
              refine LW.pure rfl rfl (RV.assign rfl) ?_
              refine LW.nil ?_
              subst hrec1
              refine ⟨mk1, Nat.lt_succ_self _, _, ?_, t11_2, (t12_1 + 1), F, rfl, H⟩
              exact ⟨rfl, rfl, rfl, rfl, rfl, rfl, rfl, trivial⟩
            ·
              intro K16 hK16 jK398
              refine CW.block ?_
              refine CW.seq fun K17 hK17 => ?_
              refine CW.region ?_
              refine LW.pure rfl rfl (RV.assign rfl) ?_
              refine LW.nil (hK17 _ _ ?_)
              refine CW.block ?_
              refine CW.loop (fun meas ρ wl5 => ∃ (t11_3 : Int) (t13_1 : Int), ref04_CheckProof_L1 a0 m1 t12_1 rec1 meas t11_3 t13_1 = some res ∧ ρ = [(2, .pointer (some (⟨b1, 0, none⟩))), (4, .int .i64 0), (5, .int .i64 0), (7, .pointer (some (⟨b2, 0, none⟩))), (8, .int .i64 ((a0.worth.length : Int))), (11, .int .i64 t11_3), (12, .int .i64 t12_1), (13, .int .i64 t13_1)] ∧ Hp w wl5 [.tab A54_0_worth c54_0_worth 25 hs54_0_worth 3 1 (encM encN m1), .blk b1 24 [.slice A_a0_worth a0.worth.length c_a0_worth], .blk b2 24 [.slice A54_0_worth m1.length c54_0_worth]]) FU ⟨_, ?_, t11_4, ((0 : Int)), F, rfl, H⟩ ?_
              · exact ⟨rfl, rfl, rfl, rfl, rfl, rfl, rfl, rfl, trivial⟩
              rintro mk2 _ wl5 ⟨t11_3, t13_1, F, rfl, H⟩
              have R0 := H.ext
              replace F := ref04_CheckProof_L1_s F
              obtain ⟨mk2, rfl, F⟩ := F
              generalize hrec2 : ref04_CheckProof_L1 a0 m1 t12_1 rec1 mk2 = rec2 at F
              unfold ref04_CheckProof_B1 at F
              refine CW.seq fun K18 hK18 => ?_
              refine CW.seq fun K19 hK19 => ?_
              obtain ⟨r1, hr1, F⟩ := bnd_some F
              refine CW.region ?_
              refine LW.pure rfl rfl (RV.move rfl) ?_
              refine LW.pure rfl rfl (RV.loadA [.slice A_a0_worth a0.worth.length c_a0_worth] Tk24 rfl (H.blk 1 rfl).cells rfl rfl) ?_
              refine LW.go rfl rfl (OW.call Tc93 rfl (ref04_depth_ok (a0 := a0) (h_a0_worth.ext R0) hr1) ?_)
              rintro _ w6 ⟨rfl, E3⟩
              refine ⟨_, rfl, ?_⟩
              replace H := H.grow E3
              replace R0 := H.ext
              refine LW.pure rfl rfl (RV.lss rfl rfl) ?_
              refine LW.nil (hK19 _ _ ?_)
              by_cases hp4 : t13_1 < r1
              ·
                replace F := ite_y hp4 F
                have hq4 := dec_t hp4
                refine CW.condT rfl hq4 ?_
                refine CW.skip (hK18 _ _ ?_)
                refine CW.seq fun K20 hK20 => ?_
                refine CW.block ?_
                obtain ⟨x1, hbx1, hx1, F⟩ := ix_some F
                obtain ⟨x2, hbx2, hx2, F⟩ := ix_some F
                obtain ⟨hg2, F⟩ := gd_some F
                refine CW.region ?_
                refine LW.pure rfl rfl (RV.move rfl) ?_
                refine LW.pure rfl rfl (RV.fieldAddr Tf24_0 rfl) ?_
                refine LW.pure rfl rfl (RV.load1 Tk22 rfl ((H.blk 2 rfl).cells.off 0) rfl) ?_
                refine LW.pure rfl rfl (RV.move rfl) ?_
                obtain ⟨B1, e1, hh1⟩ := (H.tab 0 rfl).hd hx1
                refine LW.pure rfl rfl (RV.indexAddr Ts22 rfl rfl hbx1 ((H.tab 0 rfl).addr_ hx1)) ?_
                refine LW.pure rfl rfl (RV.load1 Tk25 rfl ((H.tab 0 rfl).cell hx1 hh1) rfl) ?_
                refine LW.pure rfl rfl (RV.move rfl) ?_
                refine LW.pure rfl rfl (RV.indexAddr Ts25 rfl rfl hbx2 (((H.tab 0 rfl).rowO hx1 hh1).sl.addr_ hx2)) ?_
                refine LW.pure rfl rfl (RV.load1 Tk3 rfl (((H.tab 0 rfl).rowO hx1 hh1).sl.at_ hx2) rfl) ?_
                refine LW.pure rfl rfl (RV.max2 rfl rfl) ?_
                refine LW.pure rfl rfl (RV.add rfl rfl hg2) ?_
                refine LW.pure rfl rfl (RV.assign rfl) ?_
                refine LW.nil (hK20 _ _ ?_)
                obtain ⟨hg3, F⟩ := gd_some F
                refine CW.region ?_
                refine LW.pure rfl rfl (RV.move rfl) ?_
                refine LW.pure rfl rfl (RV.add rfl rfl hg3) ?_
                refine LW.pure rfl rfl (RV.assign rfl) ?_
                refine LW.nil ?_
                subst hrec2
                refine ⟨mk2, Nat.lt_succ_self _, _, ?_, (t11_3 + (max 0 x2)), (t13_1 + 1), F, rfl, H⟩
                exact ⟨rfl, rfl, rfl, rfl, rfl, rfl, rfl, rfl, trivial⟩
              ·
                replace F := ite_n hp4 F
                have hq4 := dec_f hp4
                refine CW.condF rfl hq4 ?_
                refine CW.exit (jK398 _ _ ⟨_, ?_, ⟨t11_3, F, rfl, H⟩⟩)
                exact ⟨rfl, rfl, rfl, rfl, rfl, rfl, rfl, trivial⟩
          ·
            replace F := ite_n hp3 F
            have hq3 := dec_f hp3
            refine CW.condF rfl hq3 ?_
            replace H := H.pick (L' := []) [] (by decide) rfl
            replace R0 := H.ext
            refine CW.exit (jK338 _ _ ⟨_, ?_, ⟨t11_4, F, rfl, H⟩⟩)
            exact ⟨rfl, rfl, rfl, trivial⟩
      ·
        intro K21 hK21 jK409
        refine CW.seq fun K22 hK22 => ?_
        refine CW.region ?_
        refine LW.pure rfl rfl (RV.assign rfl) ?_
        refine LW.nil (hK22 _ _ ?_)
        refine CW.block ?_
        replace H := H.pick (L' := [.tab A54_0_worth c54_0_worth 25 hs54_0_worth 3 1 (encM encN r4.worth), .blk b1 24 [.slice A_a0_worth a0.worth.length c_a0_worth], .blk b2 24 [.slice A54_0_worth r4.worth.length c54_0_worth]]) [1, 2, 0] (by decide) rfl
        replace R0 := H.ext
        refine CW.loop (fun meas ρ wl6 => ∃ (t9_1 : Int) (m2 : List (List Int)), ref04_CheckProof_L3 a0 a1 meas t9_1 m2 = some res ∧ ρ = [(1, .slice A_a1 a1.length c_a1), (2, .pointer (some (⟨b1, 0, none⟩))), (4, .int .i64 0), (5, .int .i64 0), (7, .pointer (some (⟨b2, 0, none⟩))), (8, .int .i64 ((a0.worth.length : Int))), (9, .int .i64 t9_1)] ∧ Hp w wl6 [.tab A54_0_worth c54_0_worth 25 hs54_0_worth 3 1 (encM encN m2), .blk b1 24 [.slice A_a0_worth a0.worth.length c_a0_worth], .blk b2 24 [.slice A54_0_worth m2.length c54_0_worth]]) FU ⟨_, ?_, ((0 : Int)), r4.worth, F, rfl, H⟩ ?_
        · exact ⟨rfl, rfl, rfl, rfl, rfl, rfl, rfl, trivial⟩
        rintro mk3 _ wl6 ⟨t9_1, m2, F, rfl, H⟩
        have R0 := H.ext
        replace F := ref04_CheckProof_L3_s F
        obtain ⟨mk3, rfl, F⟩ := F
        generalize hrec3 : ref04_CheckProof_L3 a0 a1 mk3 = rec3 at F
        unfold ref04_CheckProof_B3 at F
        refine CW.seq fun K23 hK23 => ?_
        refine CW.seq fun K24 hK24 => ?_
        refine CW.region ?_
        refine LW.pure rfl rfl (RV.move rfl) ?_
        refine LW.pure rfl rfl (RV.move rfl) ?_
        refine LW.pure rfl rfl (RV.len Ts55 rfl) ?_
        refine LW.pure rfl rfl (RV.lss rfl rfl) ?_
        refine LW.nil (hK24 _ _ ?_)
        by_cases hp5 : t9_1 < ((a1.length : Int))
        ·
          replace F := ite_y hp5 F
          have hq5 := dec_t hp5
          refine CW.condT rfl hq5 ?_
          refine CW.skip (hK23 _ _ ?_)
          refine CW.seq fun K25 hK25 => ?_
          refine CW.block ?_
          refine CW.seq fun K26 hK26 => ?_
          obtain ⟨x3, hbx3, hx3, F⟩ := ix_some F
          refine CW.region ?_
          refine LW.pure rfl rfl (RV.move rfl) ?_
          refine LW.pure rfl rfl (RV.move rfl) ?_
          refine LW.pure rfl rfl (RV.indexAddr Ts55 rfl rfl hbx3 (h_a1.addr_ hx3)) ?_
          refine LW.pure rfl rfl (RV.loadA [.int .i64 x3.column, .int .i64 x3.row, .int .i64 x3.to_, .int .i64 x3.amount] Tk94 rfl ((h_a1.at_ hx3).ext R0) rfl rfl) ?_
          refine LW.go rfl rfl (OW.alloc Tz94 fun b3 w7 N3 => ?_)
          replace H := H.new N3 N3.blk
          replace R0 := H.ext
          refine LW.go rfl rfl (OW.store Tk94 rfl rfl (H.blk 0 rfl) (off := 0) (vs := [.int .i64 x3.column, .int .i64 x3.row, .int .i64 x3.to_, .int .i64 x3.amount]) rfl rfl rfl rfl rfl fun w8 S2 => ?_)
          replace H : Hp w w8 [.blk b3 94 [.int .i64 x3.column, .int .i64 x3.row, .int .i64 x3.to_, .int .i64 x3.amount], .tab A54_0_worth c54_0_worth 25 hs54_0_worth 3 1 (encM encN m2), .blk b1 24 [.slice A_a0_worth a0.worth.length c_a0_worth], .blk b2 24 [.slice A54_0_worth m2.length c54_0_worth]] := H.stored 0 rfl S2
          replace R0 := H.ext
          refine LW.nil (hK26 _ _ ?_)
          refine CW.seq fun K27 hK27 => ?_
          refine CW.seqJ (fun ρ wl7 => (∃ (t77_1 : Bool), ref04_CheckProof_k5 t9_1 m2 rec3 x3 t77_1 = some res ∧ ρ = [(1, .slice A_a1 a1.length c_a1), (2, .pointer (some (⟨b1, 0, none⟩))), (4, .int .i64 0), (5, .int .i64 0), (7, .pointer (some (⟨b2, 0, none⟩))), (8, .int .i64 ((a0.worth.length : Int))), (9, .int .i64 t9_1), (10, .pointer (some (⟨b3, 0, none⟩))), (77, .bool t77_1)] ∧ Hp w wl7 [.tab A54_0_worth c54_0_worth 25 hs54_0_worth 3 1 (encM encN m2), .blk b1 24 [.slice A_a0_worth a0.worth.length c_a0_worth], .blk b2 24 [.slice A54_0_worth m2.length c54_0_worth], .blk b3 94 [.int .i64 x3.column, .int .i64 x3.row, .int .i64 x3.to_, .int .i64 x3.amount]])) ?_ ?_
          ·
            rintro _ wl7 ⟨t77_1, F, rfl, H⟩
            have R0 := H.ext
            unfold ref04_CheckProof_k5 at F
            by_cases hp6 : t77_1 = true
            ·
              replace F := ite_y hp6 F
              have hq6 : t77_1 = true := hp6
              refine CW.condT rfl hq6 ?_
              refine CW.seq fun K28 hK28 => ?_
              refine CW.region ?_
              refine LW.pure rfl rfl (RV.assign rfl) ?_
              refine LW.pure rfl rfl (RV.assign rfl) ?_
              refine LW.nil (hK28 _ _ ?_)
              refine CW.ret ?_
              obtain rfl := Option.some.inj F
              refine ⟨_, (ResOK.two rfl rfl), ?_⟩
              refine ⟨(by first | rfl | simp), R0⟩
            ·
              replace F := ite_n hp6 F
              have hq6 : t77_1 = false := raw_f hp6
              refine CW.condF rfl hq6 ?_
              refine CW.skip (hK27 _ _ ?_)
              refine CW.seq fun K29 hK29 => ?_
              refine CW.seqJ (fun ρ wl8 => (∃ (t85_1 : Bool), ref04_CheckProof_k4 t9_1 m2 rec3 x3 t85_1 = some res ∧ ρ = [(1, .slice A_a1 a1.length c_a1), (2, .pointer (some (⟨b1, 0, none⟩))), (4, .int .i64 0), (5, .int .i64 0), (7, .pointer (some (⟨b2, 0, none⟩))), (8, .int .i64 ((a0.worth.length : Int))), (9, .int .i64 t9_1), (10, .pointer (some (⟨b3, 0, none⟩))), (85, .bool t85_1)] ∧ Hp w wl8 [.tab A54_0_worth c54_0_worth 25 hs54_0_worth 3 1 (encM encN m2), .blk b1 24 [.slice A_a0_worth a0.worth.length c_a0_worth], .blk b2 24 [.slice A54_0_worth m2.length c54_0_worth], .blk b3 94 [.int .i64 x3.column, .int .i64 x3.row, .int .i64 x3.to_, .int .i64 x3.amount]])) ?_ ?_
              ·
                rintro _ wl8 ⟨t85_1, F, rfl, H⟩
                have R0 := H.ext
                unfold ref04_CheckProof_k4 at F
                by_cases hp7 : t85_1 = true
                ·
                  replace F := ite_y hp7 F
                  have hq7 : t85_1 = true := hp7
                  refine CW.condT rfl hq7 ?_
                  refine CW.seq fun K30 hK30 => ?_
                  refine CW.region ?_
                  refine LW.pure rfl rfl (RV.assign rfl) ?_
                  refine LW.pure rfl rfl (RV.assign rfl) ?_
                  refine LW.nil (hK30 _ _ ?_)
                  refine CW.ret ?_
                  obtain rfl := Option.some.inj F
                  refine ⟨_, (ResOK.two rfl rfl), ?_⟩
                  refine ⟨(by first | rfl | simp), R0⟩
                ·
                  replace F := ite_n hp7 F
                  have hq7 : t85_1 = false := raw_f hp7
                  refine CW.condF rfl hq7 ?_
                  refine CW.skip (hK29 _ _ ?_)
                  refine CW.seq fun K31 hK31 => ?_
                  obtain ⟨x4, hbx4, hx4, F⟩ := ix_some F
                  obtain ⟨x5, hbx5, hx5, F⟩ := ix_some F
                  obtain ⟨hg4, F⟩ := gd_some F
                  obtain ⟨x6, hbx6, hx6, F⟩ := ix_some F
                  refine CW.draw [14] (fun _ => True) (.cons 0 1 (.cons 1 1 (.cons 2 1 (.cons 3 1 (.cons 4 1 (.cons 5 1 (.cons 6 1 (.cons 7 1 (.cons 8 1 (.cons 9 1 (.cons 10 1 (.cons 11 1 (.cons 12 1 (.cons 13 1 (.cons 14 0 .nil))))))))))))))) mixed (by kernel_rfl) fun w9 E4 => ?_
                  replace H := H.grow E4
                  replace R0 := H.ext
                  refine DW.fix rfl rfl rfl (fun _ EQ => RV.fieldAddr Tf24_0 rfl) ?_
                  refine DW.fix rfl rfl rfl (fun _ EQ => RV.load1 Tk22 rfl (((H.grow EQ).blk 2 rfl).cells.off 0) rfl) ?_
                  refine DW.fix rfl rfl rfl (fun _ EQ => RV.fieldAddr Tf94_0 rfl) ?_
                  refine DW.fix rfl rfl rfl (fun _ EQ => RV.load1 Tk3 rfl (((H.grow EQ).blk 3 rfl).cells.off 0) rfl) ?_
                  obtain ⟨B2, e2, hh2⟩ := (H.tab 0 rfl).hd hx4
                  refine DW.fix rfl rfl rfl (fun _ EQ => RV.indexAddr Ts22 rfl rfl hbx4 ((H.tab 0 rfl).addr_ hx4)) ?_
                  refine DW.fix rfl rfl rfl (fun _ EQ => RV.load1 Tk25 rfl (((H.grow EQ).tab 0 rfl).cell hx4 hh2) rfl) ?_
                  refine DW.fix rfl rfl rfl (fun _ EQ => RV.fieldAddr Tf94_1 rfl) ?_
                  refine DW.fix rfl rfl rfl (fun _ EQ => RV.load1 Tk3 rfl (((H.grow EQ).blk 3 rfl).cells.off 1) rfl) ?_
                  refine DW.fix rfl rfl rfl (fun _ EQ => RV.indexAddr Ts25 rfl rfl hbx5 (((H.tab 0 rfl).rowO hx4 hh2).sl.addr_ hx5)) ?_
                  refine DW.fix rfl rfl rfl (fun _ EQ => RV.load1 Tk3 rfl ((((H.grow EQ).tab 0 rfl).rowO hx4 hh2).sl.at_ hx5) rfl) ?_
                  refine DW.fix rfl rfl rfl (fun _ EQ => RV.fieldAddr Tf94_3 rfl) ?_
                  refine DW.fix rfl rfl rfl (fun _ EQ => RV.load1 Tk3 rfl (((H.grow EQ).blk 3 rfl).cells.off 3) rfl) ?_
                  refine DW.fix rfl rfl rfl (fun _ EQ => RV.sub rfl rfl hg4) ?_
                  refine DW.fix rfl rfl rfl (fun _ EQ => RV.indexAddr Ts25 rfl rfl hbx6 (((H.tab 0 rfl).rowO hx4 hh2).sl.addr_ hx6)) ?_
                  refine DW.sole rfl rfl rfl (OW.storeO (enc := encN) (vs := [.int .i64 (x5 - x3.amount)]) 0 (x5 - x3.amount) Tk3 rfl rfl ((H.tab 0 rfl).rowO hx4 hh2) (fun _ => rfl) rfl hx6 rfl rfl (by decide) rfl rfl fun w10 M1 O1 => ?_)
                  refine ⟨fun h => absurd h (by decide), M1.modx (fun _ _ => trivial), ?_⟩
                  replace H : Hp w w10 [.tab A54_0_worth c54_0_worth 25 hs54_0_worth 3 1 (encM encN ((m2.set (Int.toNat x3.column) (x4.set (Int.toNat x3.row) (x5 - x3.amount))))), .blk b1 24 [.slice A_a0_worth a0.worth.length c_a0_worth], .blk b2 24 [.slice A54_0_worth m2.length c54_0_worth], .blk b3 94 [.int .i64 x3.column, .int .i64 x3.row, .int .i64 x3.to_, .int .i64 x3.amount]] := H.tabRow 0 rfl hh2 hx4 (by simp) M1 O1
                  replace R0 := H.ext
                  have hrw1 : ((m2.set (Int.toNat x3.column) (x4.set (Int.toNat x3.row) (x5 - x3.amount))))[Int.toNat x3.column]? = some (x4.set (Int.toNat x3.row) (x5 - x3.amount)) := List.getElem?_set_self (lt_of_at hx4)
                  refine DW.nil (hK31 _ _ ?_)
                  obtain ⟨x7, hbx7, hx7, F⟩ := ix_some F
                  obtain ⟨hg5, F⟩ := gd_some F
                  obtain ⟨x8, hbx8, hx8, F⟩ := ix_some F
                  obtain ⟨hg6, F⟩ := gd_some F
                  obtain ⟨x9, hbx9, hx9, F⟩ := ix_some F
                  refine CW.draw [15] (fun _ => True) (.cons 0 1 (.cons 1 1 (.cons 2 1 (.cons 3 1 (.cons 4 1 (.cons 5 1 (.cons 6 1 (.cons 7 1 (.cons 8 1 (.cons 9 1 (.cons 10 1 (.cons 11 1 (.cons 12 1 (.cons 13 1 (.cons 14 1 (.cons 15 0 .nil)))))))))))))))) mixed (by kernel_rfl) fun w11 E5 => ?_
                  replace H := H.grow E5
                  replace R0 := H.ext
                  refine DW.fix rfl rfl rfl (fun _ EQ => RV.fieldAddr Tf24_0 rfl) ?_
                  refine DW.fix rfl rfl rfl (fun _ EQ => RV.load1 Tk22 rfl (((H.grow EQ).blk 2 rfl).cells.off 0) rfl) ?_
                  refine DW.fix rfl rfl rfl (fun _ EQ => RV.fieldAddr Tf94_2 rfl) ?_
                  refine DW.fix rfl rfl rfl (fun _ EQ => RV.load1 Tk3 rfl (((H.grow EQ).blk 3 rfl).cells.off 2) rfl) ?_
                  obtain ⟨B3, e3, hh3⟩ := (H.tab 0 rfl).hd hx7
                  refine DW.fix rfl rfl rfl (fun _ EQ => RV.indexAddr Ts22 rfl rfl (by first | exact hbx7 | omega | (simp at hbx7 ⊢; omega)) ((H.tab 0 rfl).addr_ hx7)) ?_
                  refine DW.fix rfl rfl rfl (fun _ EQ => RV.load1 Tk25 rfl (((H.grow EQ).tab 0 rfl).cell hx7 hh3) rfl) ?_
                  refine DW.fix rfl rfl rfl (fun _ EQ => RV.fieldAddr Tf94_1 rfl) ?_
                  refine DW.fix rfl rfl rfl (fun _ EQ => RV.load1 Tk3 rfl (((H.grow EQ).blk 3 rfl).cells.off 1) rfl) ?_
                  refine DW.fix rfl rfl rfl (fun _ EQ => RV.sub rfl rfl hg5) ?_
                  refine DW.fix rfl rfl rfl (fun _ EQ => RV.indexAddr Ts25 rfl rfl hbx8 (((H.tab 0 rfl).rowO hx7 hh3).sl.addr_ hx8)) ?_
                  refine DW.fix rfl rfl rfl (fun _ EQ => RV.load1 Tk3 rfl ((((H.grow EQ).tab 0 rfl).rowO hx7 hh3).sl.at_ hx8) rfl) ?_
                  refine DW.fix rfl rfl rfl (fun _ EQ => RV.fieldAddr Tf94_3 rfl) ?_
                  refine DW.fix rfl rfl rfl (fun _ EQ => RV.load1 Tk3 rfl (((H.grow EQ).blk 3 rfl).cells.off 3) rfl) ?_
                  refine DW.fix rfl rfl rfl (fun _ EQ => RV.add rfl rfl hg6) ?_
                  refine DW.fix rfl rfl rfl (fun _ EQ => RV.indexAddr Ts25 rfl rfl hbx9 (((H.tab 0 rfl).rowO hx7 hh3).sl.addr_ hx9)) ?_
                  refine DW.sole rfl rfl rfl (OW.storeO (enc := encN) (vs := [.int .i64 (x8 + x3.amount)]) 0 (x8 + x3.amount) Tk3 rfl rfl ((H.tab 0 rfl).rowO hx7 hh3) (fun _ => rfl) rfl hx9 rfl rfl (by decide) rfl rfl fun w12 M2 O2 => ?_)
                  refine ⟨fun h => absurd h (by decide), M2.modx (fun _ _ => trivial), ?_⟩
                  replace H : Hp w w12 [.tab A54_0_worth c54_0_worth 25 hs54_0_worth 3 1 (encM encN ((((m2.set (Int.toNat x3.column) (x4.set (Int.toNat x3.row) (x5 - x3.amount)))).set (Int.toNat x3.to_) (x7.set (Int.toNat (x3.row - 1)) (x8 + x3.amount))))), .blk b1 24 [.slice A_a0_worth a0.worth.length c_a0_worth], .blk b2 24 [.slice A54_0_worth m2.length c54_0_worth], .blk b3 94 [.int .i64 x3.column, .int .i64 x3.row, .int .i64 x3.to_, .int .i64 x3.amount]] := H.tabRow 0 rfl hh3 hx7 (by simp) M2 O2
                  replace R0 := H.ext
                  have hrw2 : ((((m2.set (Int.toNat x3.column) (x4.set (Int.toNat x3.row) (x5 - x3.amount)))).set (Int.toNat x3.to_) (x7.set (Int.toNat (x3.row - 1)) (x8 + x3.amount))))[Int.toNat x3.to_]? = some (x7.set (Int.toNat (x3.row - 1)) (x8 + x3.amount)) := List.getElem?_set_self (lt_of_at hx7)
                  refine DW.nil (hK25 _ _ ?_)
                  obtain ⟨hg7, F⟩ := gd_some F
                  refine CW.region ?_
                  refine LW.pure rfl rfl (RV.move rfl) ?_
                  refine LW.pure rfl rfl (RV.add rfl rfl hg7) ?_
                  refine LW.pure rfl rfl (RV.assign rfl) ?_
                  refine LW.nil ?_
                  replace H := H.pick (L' := [.tab A54_0_worth c54_0_worth 25 hs54_0_worth 3 1 (encM encN ((((m2.set (Int.toNat x3.column) (x4.set (Int.toNat x3.row) (x5 - x3.amount)))).set (Int.toNat x3.to_) (x7.set (Int.toNat (x3.row - 1)) (x8 + x3.amount))))), .blk b1 24 [.slice A_a0_worth a0.worth.length c_a0_worth], .blk b2 24 [.slice A54_0_worth m2.length c54_0_worth]]) [0, 1, 2] (by decide) rfl
                  replace R0 := H.ext
                  replace H := H.cast (L' := [.tab A54_0_worth c54_0_worth 25 hs54_0_worth 3 1 (encM encN ((((m2.set (Int.toNat x3.column) (x4.set (Int.toNat x3.row) (x5 - x3.amount)))).set (Int.toNat x3.to_) (x7.set (Int.toNat (x3.row - 1)) (x8 + x3.amount))))), .blk b1 24 [.slice A_a0_worth a0.worth.length c_a0_worth], .blk b2 24 [.slice A54_0_worth (((((m2.set (Int.toNat x3.column) (x4.set (Int.toNat x3.row) (x5 - x3.amount)))).set (Int.toNat x3.to_) (x7.set (Int.toNat (x3.row - 1)) (x8 + x3.amount)))).length) c54_0_worth]]) (by first | rfl | (simp only [List.length_set]; done) | simp)
                  subst hrec3
                  refine ⟨mk3, Nat.lt_succ_self _, _, ?_, (t9_1 + 1), ((((m2.set (Int.toNat x3.column) (x4.set (Int.toNat x3.row) (x5 - x3.amount)))).set (Int.toNat x3.to_) (x7.set (Int.toNat (x3.row - 1)) (x8 + x3.amount)))), F, rfl, H⟩
                  exact ⟨rfl, rfl, rfl, rfl, rfl, rfl, rfl, trivial⟩
              ·
                intro K32 hK32 jK442
                by_cases hp8 : x3.amount < 1
                ·
                  replace F := ite_y hp8 F
                  have hq8 := dec_t hp8
                  refine CW.region ?_
                  refine LW.pure rfl rfl (RV.fieldAddr Tf94_3 rfl) ?_
                  refine LW.pure rfl rfl (RV.load1 Tk3 rfl ((H.blk 3 rfl).cells.off 3) rfl) ?_
                  refine LW.pure rfl rfl (RV.lss rfl rfl) ?_
                  refine LW.pure rfl rfl (RV.move rfl) ?_
                  refine LW.noB rfl rfl rfl rfl (ne_beq (v := true) hq8 rfl) ?_
                  refine LW.noB rfl rfl rfl rfl (ne_beq (v := true) hq8 rfl) ?_
                  refine LW.noB rfl rfl rfl rfl (ne_beq (v := true) hq8 rfl) ?_
                  refine LW.pure rfl rfl (RV.pickTB rfl hq8 rfl) ?_
                  refine LW.nil (jK442 _ _ ⟨_, ?_, ⟨true, F, rfl, H⟩⟩)
                  exact ⟨rfl, rfl, rfl, rfl, rfl, rfl, rfl, rfl, rfl, trivial⟩
                ·
                  replace F := ite_n hp8 F
                  have hq8 := dec_f hp8
                  refine CW.region ?_
                  refine LW.pure rfl rfl (RV.fieldAddr Tf94_3 rfl) ?_
                  refine LW.pure rfl rfl (RV.load1 Tk3 rfl ((H.blk 3 rfl).cells.off 3) rfl) ?_
                  refine LW.pure rfl rfl (RV.lss rfl rfl) ?_
                  refine LW.pure rfl rfl (RV.move rfl) ?_
                  refine LW.pureYB rfl rfl rfl rfl hq8 (RV.fieldAddr Tf94_3 rfl) ?_
                  refine LW.pureYB rfl rfl rfl rfl hq8 (RV.load1 Tk3 rfl ((H.blk 3 rfl).cells.off 3) rfl) ?_
                  refine LW.pureYB rfl rfl rfl rfl hq8 (RV.gtr rfl rfl) ?_
                  refine LW.pure rfl rfl (RV.pickFB rfl hq8 rfl) ?_
                  refine LW.nil (jK442 _ _ ⟨_, ?_, ⟨(decide ((1000 : Int) < x3.amount)), F, rfl, H⟩⟩)
                  exact ⟨rfl, rfl, rfl, rfl, rfl, rfl, rfl, rfl, rfl, trivial⟩
          ·
            intro K33 hK33 jK443
            by_cases hp9 : x3.column < 0
            ·
              replace F := ite_y hp9 F
              have hq9 := dec_t hp9
              refine CW.draw [] (fun _ => True) (.cons 0 1 (.cons 1 1 (.cons 2 1 (.cons 3 1 (.cons 4 1 (.cons 5 1 (.cons 6 1 (.cons 7 1 (.cons 8 1 (.cons 9 1 (.cons 10 1 (.cons 11 1 (.cons 12 1 (.cons 13 1 (.cons 14 1 (.cons 15 1 (.cons 16 1 (.cons 17 1 (.cons 18 0 (.cons 19 1 (.cons 20 1 (.cons 21 1 (.cons 22 1 (.cons 23 1 (.cons 24 1 (.cons 25 1 (.cons 26 1 (.cons 27 1 (.cons 28 1 (.cons 29 1 (.cons 30 1 (.cons 31 1 (.cons 32 1 (.cons 33 1 (.cons 34 1 (.cons 35 1 (.cons 36 1 (.cons 37 1 (.cons 38 1 (.cons 39 1 (.cons 40 1 .nil))))))))))))))))))))))))))))))))))))))))) mixed (by kernel_rfl) fun w13 E6 => ?_
              replace H := H.grow E6
              replace R0 := H.ext
              refine DW.fix rfl rfl rfl (fun _ EQ => RV.fieldAddr Tf94_0 rfl) ?_
              refine DW.fix rfl rfl rfl (fun _ EQ => RV.load1 Tk3 rfl (((H.grow EQ).blk 0 rfl).cells.off 0) rfl) ?_
              refine DW.fix rfl rfl rfl (fun _ EQ => RV.lss rfl rfl) ?_
              refine DW.fix rfl rfl rfl (fun _ EQ => RV.move rfl) ?_
              refine DW.fixNB rfl rfl rfl rfl rfl (ne_beq (v := true) hq9 rfl) ?_
              refine DW.fixNB rfl rfl rfl rfl rfl (ne_beq (v := true) hq9 rfl) ?_
              refine DW.fixNB rfl rfl rfl rfl rfl (ne_beq (v := true) hq9 rfl) ?_
              refine DW.fixNB rfl rfl rfl rfl rfl (ne_beq (v := true) hq9 rfl) ?_
              refine DW.fix rfl rfl rfl (fun _ EQ => RV.pickTB rfl hq9 rfl) ?_
              refine DW.fix rfl rfl rfl (fun _ EQ => RV.move rfl) ?_
              refine DW.fixNB rfl rfl rfl rfl rfl (ne_beq (v := true) rfl rfl) ?_
              refine DW.fixNB rfl rfl rfl rfl rfl (ne_beq (v := true) rfl rfl) ?_
              refine DW.fixNB rfl rfl rfl rfl rfl (ne_beq (v := true) rfl rfl) ?_
              refine DW.fix rfl rfl rfl (fun _ EQ => RV.pickTB rfl rfl rfl) ?_
              refine DW.fix rfl rfl rfl (fun _ EQ => RV.move rfl) ?_
              refine DW.fixNB rfl rfl rfl rfl rfl (ne_beq (v := true) rfl rfl) ?_
              refine DW.fixNB rfl rfl rfl rfl rfl (ne_beq (v := true) rfl rfl) ?_
              refine DW.fixNB rfl rfl rfl rfl rfl (ne_beq (v := true) rfl rfl) ?_
              refine DW.soleNB rfl rfl rfl rfl rfl (ne_beq (v := true) rfl rfl) ?_
              refine DW.fixNB rfl rfl rfl rfl rfl (ne_beq (v := true) rfl rfl) ?_
              refine DW.fix rfl rfl rfl (fun _ EQ => RV.pickTB rfl rfl rfl) ?_
              refine DW.fix rfl rfl rfl (fun _ EQ => RV.move rfl) ?_
              refine DW.fixNB rfl rfl rfl rfl rfl (ne_beq (v := true) rfl rfl) ?_
              refine DW.fixNB rfl rfl rfl rfl rfl (ne_beq (v := true) rfl rfl) ?_
              refine DW.fixNB rfl rfl rfl rfl rfl (ne_beq (v := true) rfl rfl) ?_
              refine DW.fixNB rfl rfl rfl rfl rfl (ne_beq (v := true) rfl rfl) ?_
              refine DW.fixNB rfl rfl rfl rfl rfl (ne_beq (v := true) rfl rfl) ?_
              refine DW.fixNB rfl rfl rfl rfl rfl (ne_beq (v := true) rfl rfl) ?_
              refine DW.fixNB rfl rfl rfl rfl rfl (ne_beq (v := true) rfl rfl) ?_
              refine DW.fix rfl rfl rfl (fun _ EQ => RV.pickTB rfl rfl rfl) ?_
              refine DW.fix rfl rfl rfl (fun _ EQ => RV.move rfl) ?_
              refine DW.fixNB rfl rfl rfl rfl rfl (ne_beq (v := true) rfl rfl) ?_
              refine DW.fixNB rfl rfl rfl rfl rfl (ne_beq (v := true) rfl rfl) ?_
              refine DW.fixNB rfl rfl rfl rfl rfl (ne_beq (v := true) rfl rfl) ?_
              refine DW.fixNB rfl rfl rfl rfl rfl (ne_beq (v := true) rfl rfl) ?_
              refine DW.fixNB rfl rfl rfl rfl rfl (ne_beq (v := true) rfl rfl) ?_
              refine DW.fixNB rfl rfl rfl rfl rfl (ne_beq (v := true) rfl rfl) ?_
              refine DW.fixNB rfl rfl rfl rfl rfl (ne_beq (v := true) rfl rfl) ?_
              refine DW.fixNB rfl rfl rfl rfl rfl (ne_beq (v := true) rfl rfl) ?_
              refine DW.fixNB rfl rfl rfl rfl rfl (ne_beq (v := true) rfl rfl) ?_
              refine DW.fix rfl rfl rfl (fun _ EQ => RV.pickTB rfl rfl rfl) ?_
              replace H := H.pick (L' := [.tab A54_0_worth c54_0_worth 25 hs54_0_worth 3 1 (encM encN m2), .blk b1 24 [.slice A_a0_worth a0.worth.length c_a0_worth], .blk b2 24 [.slice A54_0_worth m2.length c54_0_worth], .blk b3 94 [.int .i64 x3.column, .int .i64 x3.row, .int .i64 x3.to_, .int .i64 x3.amount]]) [1, 2, 3, 0] (by decide) rfl
              replace R0 := H.ext
              refine DW.nil (jK443 _ _ ⟨_, ?_, ⟨true, F, rfl, H⟩⟩)
              exact ⟨rfl, rfl, rfl, rfl, rfl, rfl, rfl, rfl, rfl, trivial⟩
            ·
              replace F := ite_n hp9 F
              have hq9 := dec_f hp9
              by_cases hp10 : ((a0.worth.length : Int)) ≤ x3.column
              ·
                replace F := ite_y hp10 F
                have hq10 := dec_t hp10
                refine CW.draw [] (fun _ => True) (.cons 0 1 (.cons 1 1 (.cons 2 1 (.cons 3 1 (.cons 4 1 (.cons 5 1 (.cons 6 1 (.cons 7 1 (.cons 8 1 (.cons 9 1 (.cons 10 1 (.cons 11 1 (.cons 12 1 (.cons 13 1 (.cons 14 1 (.cons 15 1 (.cons 16 1 (.cons 17 1 (.cons 18 0 (.cons 19 1 (.cons 20 1 (.cons 21 1 (.cons 22 1 (.cons 23 1 (.cons 24 1 (.cons 25 1 (.cons 26 1 (.cons 27 1 (.cons 28 1 (.cons 29 1 (.cons 30 1 (.cons 31 1 (.cons 32 1 (.cons 33 1 (.cons 34 1 (.cons 35 1 (.cons 36 1 (.cons 37 1 (.cons 38 1 (.cons 39 1 (.cons 40 1 .nil))))))))))))))))))))))))))))))))))))))))) mixed (by kernel_rfl) fun w14 E7 => ?_
                replace H := H.grow E7
                replace R0 := H.ext
                refine DW.fix rfl rfl rfl (fun _ EQ => RV.fieldAddr Tf94_0 rfl) ?_
                refine DW.fix rfl rfl rfl (fun _ EQ => RV.load1 Tk3 rfl (((H.grow EQ).blk 0 rfl).cells.off 0) rfl) ?_
                refine DW.fix rfl rfl rfl (fun _ EQ => RV.lss rfl rfl) ?_
                refine DW.fix rfl rfl rfl (fun _ EQ => RV.move rfl) ?_
                refine DW.fixYB rfl rfl rfl rfl rfl hq9 (fun _ EQ => RV.fieldAddr Tf94_0 rfl) ?_
                refine DW.fixYB rfl rfl rfl rfl rfl hq9 (fun _ EQ => RV.load1 Tk3 rfl (((H.grow EQ).blk 0 rfl).cells.off 0) rfl) ?_
                refine DW.fixYB rfl rfl rfl rfl rfl hq9 (fun _ EQ => RV.move rfl) ?_
                refine DW.fixYB rfl rfl rfl rfl rfl hq9 (fun _ EQ => RV.geq rfl rfl) ?_
                refine DW.fix rfl rfl rfl (fun _ EQ => RV.pickFB rfl hq9 rfl) ?_
                refine DW.fix rfl rfl rfl (fun _ EQ => RV.move rfl) ?_
                refine DW.fixNB rfl rfl rfl rfl rfl (ne_beq (v := true) hq10 rfl) ?_
                refine DW.fixNB rfl rfl rfl rfl rfl (ne_beq (v := true) hq10 rfl) ?_
                refine DW.fixNB rfl rfl rfl rfl rfl (ne_beq (v := true) hq10 rfl) ?_
                refine DW.fix rfl rfl rfl (fun _ EQ => RV.pickTB rfl hq10 rfl) ?_
                refine DW.fix rfl rfl rfl (fun _ EQ => RV.move rfl) ?_
                refine DW.fixNB rfl rfl rfl rfl rfl (ne_beq (v := true) rfl rfl) ?_
                refine DW.fixNB rfl rfl rfl rfl rfl (ne_beq (v := true) rfl rfl) ?_
                refine DW.fixNB rfl rfl rfl rfl rfl (ne_beq (v := true) rfl rfl) ?_
                refine DW.soleNB rfl rfl rfl rfl rfl (ne_beq (v := true) rfl rfl) ?_
                refine DW.fixNB rfl rfl rfl rfl rfl (ne_beq (v := true) rfl rfl) ?_
                refine DW.fix rfl rfl rfl (fun _ EQ => RV.pickTB rfl rfl rfl) ?_
                refine DW.fix rfl rfl rfl (fun _ EQ => RV.move rfl) ?_
                refine DW.fixNB rfl rfl rfl rfl rfl (ne_beq (v := true) rfl rfl) ?_
                refine DW.fixNB rfl rfl rfl rfl rfl (ne_beq (v := true) rfl rfl) ?_
                refine DW.fixNB rfl rfl rfl rfl rfl (ne_beq (v := true) rfl rfl) ?_
                refine DW.fixNB rfl rfl rfl rfl rfl (ne_beq (v := true) rfl rfl) ?_
                refine DW.fixNB rfl rfl rfl rfl rfl (ne_beq (v := true) rfl rfl) ?_
                refine DW.fixNB rfl rfl rfl rfl rfl (ne_beq (v := true) rfl rfl) ?_
                refine DW.fixNB rfl rfl rfl rfl rfl (ne_beq (v := true) rfl rfl) ?_
                refine DW.fix rfl rfl rfl (fun _ EQ => RV.pickTB rfl rfl rfl) ?_
                refine DW.fix rfl rfl rfl (fun _ EQ => RV.move rfl) ?_
                refine DW.fixNB rfl rfl rfl rfl rfl (ne_beq (v := true) rfl rfl) ?_
                refine DW.fixNB rfl rfl rfl rfl rfl (ne_beq (v := true) rfl rfl) ?_
                refine DW.fixNB rfl rfl rfl rfl rfl (ne_beq (v := true) rfl rfl) ?_
                refine DW.fixNB rfl rfl rfl rfl rfl (ne_beq (v := true) rfl rfl) ?_
                refine DW.fixNB rfl rfl rfl rfl rfl (ne_beq (v := true) rfl rfl) ?_
                refine DW.fixNB rfl rfl rfl rfl rfl (ne_beq (v := true) rfl rfl) ?_
                refine DW.fixNB rfl rfl rfl rfl rfl (ne_beq (v := true) rfl rfl) ?_
                refine DW.fixNB rfl rfl rfl rfl rfl (ne_beq (v := true) rfl rfl) ?_
                refine DW.fixNB rfl rfl rfl rfl rfl (ne_beq (v := true) rfl rfl) ?_
                refine DW.fix rfl rfl rfl (fun _ EQ => RV.pickTB rfl rfl rfl) ?_
                replace H := H.pick (L' := [.tab A54_0_worth c54_0_worth 25 hs54_0_worth 3 1 (encM encN m2), .blk b1 24 [.slice A_a0_worth a0.worth.length c_a0_worth], .blk b2 24 [.slice A54_0_worth m2.length c54_0_worth], .blk b3 94 [.int .i64 x3.column, .int .i64 x3.row, .int .i64 x3.to_, .int .i64 x3.amount]]) [1, 2, 3, 0] (by decide) rfl
                replace R0 := H.ext
                refine DW.nil (jK443 _ _ ⟨_, ?_, ⟨true, F, rfl, H⟩⟩)
                exact ⟨rfl, rfl, rfl, rfl, rfl, rfl, rfl, rfl, rfl, trivial⟩
              ·
                replace F := ite_n hp10 F
                have hq10 := dec_f hp10
                by_cases hp11 : x3.row < 1
                ·
                  replace F := ite_y hp11 F
                  have hq11 := dec_t hp11
                  refine CW.draw [] (fun _ => True) (.cons 0 1 (.cons 1 1 (.cons 2 1 (.cons 3 1 (.cons 4 1 (.cons 5 1 (.cons 6 1 (.cons 7 1 (.cons 8 1 (.cons 9 1 (.cons 10 1 (.cons 11 1 (.cons 12 1 (.cons 13 1 (.cons 14 1 (.cons 15 1 (.cons 16 1 (.cons 17 1 (.cons 18 0 (.cons 19 1 (.cons 20 1 (.cons 21 1 (.cons 22 1 (.cons 23 1 (.cons 24 1 (.cons 25 1 (.cons 26 1 (.cons 27 1 (.cons 28 1 (.cons 29 1 (.cons 30 1 (.cons 31 1 (.cons 32 1 (.cons 33 1 (.cons 34 1 (.cons 35 1 (.cons 36 1 (.cons 37 1 (.cons 38 1 (.cons 39 1 (.cons 40 1 .nil))))))))))))))))))))))))))))))))))))))))) mixed (by kernel_rfl) fun w15 E8 => ?_
                  replace H := H.grow E8
                  replace R0 := H.ext
                  refine DW.fix rfl rfl rfl (fun _ EQ => RV.fieldAddr Tf94_0 rfl) ?_
                  refine DW.fix rfl rfl rfl (fun _ EQ => RV.load1 Tk3 rfl (((H.grow EQ).blk 0 rfl).cells.off 0) rfl) ?_
                  refine DW.fix rfl rfl rfl (fun _ EQ => RV.lss rfl rfl) ?_
                  refine DW.fix rfl rfl rfl (fun _ EQ => RV.move rfl) ?_
                  refine DW.fixYB rfl rfl rfl rfl rfl hq9 (fun _ EQ => RV.fieldAddr Tf94_0 rfl) ?_
                  refine DW.fixYB rfl rfl rfl rfl rfl hq9 (fun _ EQ => RV.load1 Tk3 rfl (((H.grow EQ).blk 0 rfl).cells.off 0) rfl) ?_
                  refine DW.fixYB rfl rfl rfl rfl rfl hq9 (fun _ EQ => RV.move rfl) ?_
                  refine DW.fixYB rfl rfl rfl rfl rfl hq9 (fun _ EQ => RV.geq rfl rfl) ?_
                  refine DW.fix rfl rfl rfl (fun _ EQ => RV.pickFB rfl hq9 rfl) ?_
                  refine DW.fix rfl rfl rfl (fun _ EQ => RV.move rfl) ?_
                  refine DW.fixYB rfl rfl rfl rfl rfl hq10 (fun _ EQ => RV.fieldAddr Tf94_1 rfl) ?_
                  refine DW.fixYB rfl rfl rfl rfl rfl hq10 (fun _ EQ => RV.load1 Tk3 rfl (((H.grow EQ).blk 0 rfl).cells.off 1) rfl) ?_
                  refine DW.fixYB rfl rfl rfl rfl rfl hq10 (fun _ EQ => RV.lss rfl rfl) ?_
                  refine DW.fix rfl rfl rfl (fun _ EQ => RV.pickFB rfl hq10 rfl) ?_
                  refine DW.fix rfl rfl rfl (fun _ EQ => RV.move rfl) ?_
                  refine DW.fixNB rfl rfl rfl rfl rfl (ne_beq (v := true) hq11 rfl) ?_
                  refine DW.fixNB rfl rfl rfl rfl rfl (ne_beq (v := true) hq11 rfl) ?_
                  refine DW.fixNB rfl rfl rfl rfl rfl (ne_beq (v := true) hq11 rfl) ?_
                  refine DW.soleNB rfl rfl rfl rfl rfl (ne_beq (v := true) hq11 rfl) ?_
                  refine DW.fixNB rfl rfl rfl rfl rfl (ne_beq (v := true) hq11 rfl) ?_
                  refine DW.fix rfl rfl rfl (fun _ EQ => RV.pickTB rfl hq11 rfl) ?_
                  refine DW.fix rfl rfl rfl (fun _ EQ => RV.move rfl) ?_
                  refine DW.fixNB rfl rfl rfl rfl rfl (ne_beq (v := true) rfl rfl) ?_
                  refine DW.fixNB rfl rfl rfl rfl rfl (ne_beq (v := true) rfl rfl) ?_
                  refine DW.fixNB rfl rfl rfl rfl rfl (ne_beq (v := true) rfl rfl) ?_
                  refine DW.fixNB rfl rfl rfl rfl rfl (ne_beq (v := true) rfl rfl) ?_
                  refine DW.fixNB rfl rfl rfl rfl rfl (ne_beq (v := true) rfl rfl) ?_
                  refine DW.fixNB rfl rfl rfl rfl rfl (ne_beq (v := true) rfl rfl) ?_
                  refine DW.fixNB rfl rfl rfl rfl rfl (ne_beq (v := true) rfl rfl) ?_
                  refine DW.fix rfl rfl rfl (fun _ EQ => RV.pickTB rfl rfl rfl) ?_
                  refine DW.fix rfl rfl rfl (fun _ EQ => RV.move rfl) ?_
                  refine DW.fixNB rfl rfl rfl rfl rfl (ne_beq (v := true) rfl rfl) ?_
                  refine DW.fixNB rfl rfl rfl rfl rfl (ne_beq (v := true) rfl rfl) ?_
                  refine DW.fixNB rfl rfl rfl rfl rfl (ne_beq (v := true) rfl rfl) ?_
                  refine DW.fixNB rfl rfl rfl rfl rfl (ne_beq (v := true) rfl rfl) ?_
                  refine DW.fixNB rfl rfl rfl rfl rfl (ne_beq (v := true) rfl rfl) ?_
                  refine DW.fixNB rfl rfl rfl rfl rfl (ne_beq (v := true) rfl rfl) ?_
                  refine DW.fixNB rfl rfl rfl rfl rfl (ne_beq (v := true) rfl rfl) ?_
                  refine DW.fixNB rfl rfl rfl rfl rfl (ne_beq (v := true) rfl rfl) ?_
                  refine DW.fixNB rfl rfl rfl rfl rfl (ne_beq (v := true) rfl rfl) ?_
                  refine DW.fix rfl rfl rfl (fun _ EQ => RV.pickTB rfl rfl rfl) ?_
                  replace H := H.pick (L' := [.tab A54_0_worth c54_0_worth 25 hs54_0_worth 3 1 (encM encN m2), .blk b1 24 [.slice A_a0_worth a0.worth.length c_a0_worth], .blk b2 24 [.slice A54_0_worth m2.length c54_0_worth], .blk b3 94 [.int .i64 x3.column, .int .i64 x3.row, .int .i64 x3.to_, .int .i64 x3.amount]]) [1, 2, 3, 0] (by decide) rfl
                  replace R0 := H.ext
                  refine DW.nil (jK443 _ _ ⟨_, ?_, ⟨true, F, rfl, H⟩⟩)
                  exact ⟨rfl, rfl, rfl, rfl, rfl, rfl, rfl, rfl, rfl, trivial⟩
                ·
                  replace F := ite_n hp11 F
                  have hq11 := dec_f hp11
                  obtain ⟨r2, hr2, F⟩ := bnd_some F
                  by_cases hp12 : r2 ≤ x3.row
                  ·
                    replace F := ite_y hp12 F
                    have hq12 := dec_t hp12
                    refine CW.draw [] (fun _ => True) (.cons 0 1 (.cons 1 1 (.cons 2 1 (.cons 3 1 (.cons 4 1 (.cons 5 1 (.cons 6 1 (.cons 7 1 (.cons 8 1 (.cons 9 1 (.cons 10 1 (.cons 11 1 (.cons 12 1 (.cons 13 1 (.cons 14 1 (.cons 15 1 (.cons 16 1 (.cons 17 1 (.cons 18 0 (.cons 19 1 (.cons 20 1 (.cons 21 1 (.cons 22 1 (.cons 23 1 (.cons 24 1 (.cons 25 1 (.cons 26 1 (.cons 27 1 (.cons 28 1 (.cons 29 1 (.cons 30 1 (.cons 31 1 (.cons 32 1 (.cons 33 1 (.cons 34 1 (.cons 35 1 (.cons 36 1 (.cons 37 1 (.cons 38 1 (.cons 39 1 (.cons 40 1 .nil))))))))))))))))))))))))))))))))))))))))) mixed (by kernel_rfl) fun w16 E9 => ?_
                    replace H := H.grow E9
                    replace R0 := H.ext
                    refine DW.fix rfl rfl rfl (fun _ EQ => RV.fieldAddr Tf94_0 rfl) ?_
                    refine DW.fix rfl rfl rfl (fun _ EQ => RV.load1 Tk3 rfl (((H.grow EQ).blk 0 rfl).cells.off 0) rfl) ?_
                    refine DW.fix rfl rfl rfl (fun _ EQ => RV.lss rfl rfl) ?_
                    refine DW.fix rfl rfl rfl (fun _ EQ => RV.move rfl) ?_
                    refine DW.fixYB rfl rfl rfl rfl rfl hq9 (fun _ EQ => RV.fieldAddr Tf94_0 rfl) ?_
                    refine DW.fixYB rfl rfl rfl rfl rfl hq9 (fun _ EQ => RV.load1 Tk3 rfl (((H.grow EQ).blk 0 rfl).cells.off 0) rfl) ?_
                    refine DW.fixYB rfl rfl rfl rfl rfl hq9 (fun _ EQ => RV.move rfl) ?_
                    refine DW.fixYB rfl rfl rfl rfl rfl hq9 (fun _ EQ => RV.geq rfl rfl) ?_
                    refine DW.fix rfl rfl rfl (fun _ EQ => RV.pickFB rfl hq9 rfl) ?_
                    refine DW.fix rfl rfl rfl (fun _ EQ => RV.move rfl) ?_
                    refine DW.fixYB rfl rfl rfl rfl rfl hq10 (fun _ EQ => RV.fieldAddr Tf94_1 rfl) ?_
                    refine DW.fixYB rfl rfl rfl rfl rfl hq10 (fun _ EQ => RV.load1 Tk3 rfl (((H.grow EQ).blk 0 rfl).cells.off 1) rfl) ?_
                    refine DW.fixYB rfl rfl rfl rfl rfl hq10 (fun _ EQ => RV.lss rfl rfl) ?_
                    refine DW.fix rfl rfl rfl (fun _ EQ => RV.pickFB rfl hq10 rfl) ?_
                    refine DW.fix rfl rfl rfl (fun _ EQ => RV.move rfl) ?_
                    refine DW.fixYB rfl rfl rfl rfl rfl hq11 (fun _ EQ => RV.fieldAddr Tf94_1 rfl) ?_
                    refine DW.fixYB rfl rfl rfl rfl rfl hq11 (fun _ EQ => RV.load1 Tk3 rfl (((H.grow EQ).blk 0 rfl).cells.off 1) rfl) ?_
                    refine DW.fixYB rfl rfl rfl rfl rfl hq11 (fun _ EQ => RV.loadA [.slice A_a0_worth a0.worth.length c_a0_worth] Tk24 rfl ((H.grow EQ).blk 2 rfl).cells rfl rfl) ?_
                    refine DW.soleYB rfl rfl rfl rfl rfl hq11 (OW.call Tc93 rfl (ref04_depth_ok (a0 := a0) (h_a0_worth.ext R0) hr2) ?_)
                    rintro _ w17 ⟨rfl, E10⟩
                    refine ⟨_, rfl, fun _ => E10, ModX.ext E10, ?_⟩
                    replace H := H.grow E10
                    replace R0 := H.ext
                    refine DW.fixYB rfl rfl rfl rfl rfl hq11 (fun _ EQ => RV.geq rfl rfl) ?_
                    refine DW.fix rfl rfl rfl (fun _ EQ => RV.pickFB rfl hq11 rfl) ?_
                    refine DW.fix rfl rfl rfl (fun _ EQ => RV.move rfl) ?_
                    refine DW.fixNB rfl rfl rfl rfl rfl (ne_beq (v := true) hq12 rfl) ?_
                    refine DW.fixNB rfl rfl rfl rfl rfl (ne_beq (v := true) hq12 rfl) ?_
                    refine DW.fixNB rfl rfl rfl rfl rfl (ne_beq (v := true) hq12 rfl) ?_
                    refine DW.fixNB rfl rfl rfl rfl rfl (ne_beq (v := true) hq12 rfl) ?_
                    refine DW.fixNB rfl rfl rfl rfl rfl (ne_beq (v := true) hq12 rfl) ?_
                    refine DW.fixNB rfl rfl rfl rfl rfl (ne_beq (v := true) hq12 rfl) ?_
                    refine DW.fixNB rfl rfl rfl rfl rfl (ne_beq (v := true) hq12 rfl) ?_
                    refine DW.fix rfl rfl rfl (fun _ EQ => RV.pickTB rfl hq12 rfl) ?_
                    refine DW.fix rfl rfl rfl (fun _ EQ => RV.move rfl) ?_
                    refine DW.fixNB rfl rfl rfl rfl rfl (ne_beq (v := true) rfl rfl) ?_
                    refine DW.fixNB rfl rfl rfl rfl rfl (ne_beq (v := true) rfl rfl) ?_
                    refine DW.fixNB rfl rfl rfl rfl rfl (ne_beq (v := true) rfl rfl) ?_
                    refine DW.fixNB rfl rfl rfl rfl rfl (ne_beq (v := true) rfl rfl) ?_
                    refine DW.fixNB rfl rfl rfl rfl rfl (ne_beq (v := true) rfl rfl) ?_
                    refine DW.fixNB rfl rfl rfl rfl rfl (ne_beq (v := true) rfl rfl) ?_
                    refine DW.fixNB rfl rfl rfl rfl rfl (ne_beq (v := true) rfl rfl) ?_
                    refine DW.fixNB rfl rfl rfl rfl rfl (ne_beq (v := true) rfl rfl) ?_
                    refine DW.fixNB rfl rfl rfl rfl rfl (ne_beq (v := true) rfl rfl) ?_
                    refine DW.fix rfl rfl rfl (fun _ EQ => RV.pickTB rfl rfl rfl) ?_
                    replace H := H.pick (L' := [.tab A54_0_worth c54_0_worth 25 hs54_0_worth 3 1 (encM encN m2), .blk b1 24 [.slice A_a0_worth a0.worth.length c_a0_worth], .blk b2 24 [.slice A54_0_worth m2.length c54_0_worth], .blk b3 94 [.int .i64 x3.column, .int .i64 x3.row, .int .i64 x3.to_, .int .i64 x3.amount]]) [1, 2, 3, 0] (by decide) rfl
                    replace R0 := H.ext
                    refine DW.nil (jK443 _ _ ⟨_, ?_, ⟨true, F, rfl, H⟩⟩)
                    exact ⟨rfl, rfl, rfl, rfl, rfl, rfl, rfl, rfl, rfl, trivial⟩
                  ·
                    replace F := ite_n hp12 F
                    have hq12 := dec_f hp12
                    obtain ⟨hg8, F⟩ := gd_some F
                    by_cases hp13 : x3.to_ < (max 0 (x3.column - 1))
                    ·
                      replace F := ite_y hp13 F
                      have hq13 := dec_t hp13
                      refine CW.draw [] (fun _ => True) (.cons 0 1 (.cons 1 1 (.cons 2 1 (.cons 3 1 (.cons 4 1 (.cons 5 1 (.cons 6 1 (.cons 7 1 (.cons 8 1 (.cons 9 1 (.cons 10 1 (.cons 11 1 (.cons 12 1 (.cons 13 1 (.cons 14 1 (.cons 15 1 (.cons 16 1 (.cons 17 1 (.cons 18 0 (.cons 19 1 (.cons 20 1 (.cons 21 1 (.cons 22 1 (.cons 23 1 (.cons 24 1 (.cons 25 1 (.cons 26 1 (.cons 27 1 (.cons 28 1 (.cons 29 1 (.cons 30 1 (.cons 31 1 (.cons 32 1 (.cons 33 1 (.cons 34 1 (.cons 35 1 (.cons 36 1 (.cons 37 1 (.cons 38 1 (.cons 39 1 (.cons 40 1 .nil))))))))))))))))))))))))))))))))))))))))) mixed (by kernel_rfl) fun w18 E11 => ?_
                      replace H := H.grow E11
                      replace R0 := H.ext
                      refine DW.fix rfl rfl rfl (fun _ EQ => RV.fieldAddr Tf94_0 rfl) ?_
                      refine DW.fix rfl rfl rfl (fun _ EQ => RV.load1 Tk3 rfl (((H.grow EQ).blk 0 rfl).cells.off 0) rfl) ?_
                      refine DW.fix rfl rfl rfl (fun _ EQ => RV.lss rfl rfl) ?_
                      refine DW.fix rfl rfl rfl (fun _ EQ => RV.move rfl) ?_
                      refine DW.fixYB rfl rfl rfl rfl rfl hq9 (fun _ EQ => RV.fieldAddr Tf94_0 rfl) ?_
                      refine DW.fixYB rfl rfl rfl rfl rfl hq9 (fun _ EQ => RV.load1 Tk3 rfl (((H.grow EQ).blk 0 rfl).cells.off 0) rfl) ?_
                      refine DW.fixYB rfl rfl rfl rfl rfl hq9 (fun _ EQ => RV.move rfl) ?_
                      refine DW.fixYB rfl rfl rfl rfl rfl hq9 (fun _ EQ => RV.geq rfl rfl) ?_
                      refine DW.fix rfl rfl rfl (fun _ EQ => RV.pickFB rfl hq9 rfl) ?_
                      refine DW.fix rfl rfl rfl (fun _ EQ => RV.move rfl) ?_
                      refine DW.fixYB rfl rfl rfl rfl rfl hq10 (fun _ EQ => RV.fieldAddr Tf94_1 rfl) ?_
                      refine DW.fixYB rfl rfl rfl rfl rfl hq10 (fun _ EQ => RV.load1 Tk3 rfl (((H.grow EQ).blk 0 rfl).cells.off 1) rfl) ?_
                      refine DW.fixYB rfl rfl rfl rfl rfl hq10 (fun _ EQ => RV.lss rfl rfl) ?_
                      refine DW.fix rfl rfl rfl (fun _ EQ => RV.pickFB rfl hq10 rfl) ?_
                      refine DW.fix rfl rfl rfl (fun _ EQ => RV.move rfl) ?_
                      refine DW.fixYB rfl rfl rfl rfl rfl hq11 (fun _ EQ => RV.fieldAddr Tf94_1 rfl) ?_
                      refine DW.fixYB rfl rfl rfl rfl rfl hq11 (fun _ EQ => RV.load1 Tk3 rfl (((H.grow EQ).blk 0 rfl).cells.off 1) rfl) ?_
                      refine DW.fixYB rfl rfl rfl rfl rfl hq11 (fun _ EQ => RV.loadA [.slice A_a0_worth a0.worth.length c_a0_worth] Tk24 rfl ((H.grow EQ).blk 2 rfl).cells rfl rfl) ?_
                      refine DW.soleYB rfl rfl rfl rfl rfl hq11 (OW.call Tc93 rfl (ref04_depth_ok (a0 := a0) (h_a0_worth.ext R0) hr2) ?_)
                      rintro _ w19 ⟨rfl, E12⟩
                      refine ⟨_, rfl, fun _ => E12, ModX.ext E12, ?_⟩
                      replace H := H.grow E12
                      replace R0 := H.ext
                      refine DW.fixYB rfl rfl rfl rfl rfl hq11 (fun _ EQ => RV.geq rfl rfl) ?_
                      refine DW.fix rfl rfl rfl (fun _ EQ => RV.pickFB rfl hq11 rfl) ?_
                      refine DW.fix rfl rfl rfl (fun _ EQ => RV.move rfl) ?_
                      refine DW.fixYB rfl rfl rfl rfl rfl hq12 (fun _ EQ => RV.fieldAddr Tf94_2 rfl) ?_
                      refine DW.fixYB rfl rfl rfl rfl rfl hq12 (fun _ EQ => RV.load1 Tk3 rfl (((H.grow EQ).blk 0 rfl).cells.off 2) rfl) ?_
                      refine DW.fixYB rfl rfl rfl rfl rfl hq12 (fun _ EQ => RV.fieldAddr Tf94_0 rfl) ?_
                      refine DW.fixYB rfl rfl rfl rfl rfl hq12 (fun _ EQ => RV.load1 Tk3 rfl (((H.grow EQ).blk 0 rfl).cells.off 0) rfl) ?_
                      refine DW.fixYB rfl rfl rfl rfl rfl hq12 (fun _ EQ => RV.sub rfl rfl hg8) ?_
                      refine DW.fixYB rfl rfl rfl rfl rfl hq12 (fun _ EQ => RV.max2 rfl rfl) ?_
                      refine DW.fixYB rfl rfl rfl rfl rfl hq12 (fun _ EQ => RV.lss rfl rfl) ?_
                      refine DW.fix rfl rfl rfl (fun _ EQ => RV.pickFB rfl hq12 rfl) ?_
                      refine DW.fix rfl rfl rfl (fun _ EQ => RV.move rfl) ?_
                      refine DW.fixNB rfl rfl rfl rfl rfl (ne_beq (v := true) hq13 rfl) ?_
                      refine DW.fixNB rfl rfl rfl rfl rfl (ne_beq (v := true) hq13 rfl) ?_
                      refine DW.fixNB rfl rfl rfl rfl rfl (ne_beq (v := true) hq13 rfl) ?_
                      refine DW.fixNB rfl rfl rfl rfl rfl (ne_beq (v := true) hq13 rfl) ?_
                      refine DW.fixNB rfl rfl rfl rfl rfl (ne_beq (v := true) hq13 rfl) ?_
                      refine DW.fixNB rfl rfl rfl rfl rfl (ne_beq (v := true) hq13 rfl) ?_
                      refine DW.fixNB rfl rfl rfl rfl rfl (ne_beq (v := true) hq13 rfl) ?_
                      refine DW.fixNB rfl rfl rfl rfl rfl (ne_beq (v := true) hq13 rfl) ?_
                      refine DW.fixNB rfl rfl rfl rfl rfl (ne_beq (v := true) hq13 rfl) ?_
                      refine DW.fix rfl rfl rfl (fun _ EQ => RV.pickTB rfl hq13 rfl) ?_
                      replace H := H.pick (L' := [.tab A54_0_worth c54_0_worth 25 hs54_0_worth 3 1 (encM encN m2), .blk b1 24 [.slice A_a0_worth a0.worth.length c_a0_worth], .blk b2 24 [.slice A54_0_worth m2.length c54_0_worth], .blk b3 94 [.int .i64 x3.column, .int .i64 x3.row, .int .i64 x3.to_, .int .i64 x3.amount]]) [1, 2, 3, 0] (by decide) rfl
                      replace R0 := H.ext
                      refine DW.nil (jK443 _ _ ⟨_, ?_, ⟨true, F, rfl, H⟩⟩)
                      exact ⟨rfl, rfl, rfl, rfl, rfl, rfl, rfl, rfl, rfl, trivial⟩
                    ·
                      replace F := ite_n hp13 F
                      have hq13 := dec_f hp13
                      obtain ⟨hg9, F⟩ := gd_some F
                      obtain ⟨hg10, F⟩ := gd_some F
                      refine CW.draw [] (fun _ => True) (.cons 0 1 (.cons 1 1 (.cons 2 1 (.cons 3 1 (.cons 4 1 (.cons 5 1 (.cons 6 1 (.cons 7 1 (.cons 8 1 (.cons 9 1 (.cons 10 1 (.cons 11 1 (.cons 12 1 (.cons 13 1 (.cons 14 1 (.cons 15 1 (.cons 16 1 (.cons 17 1 (.cons 18 0 (.cons 19 1 (.cons 20 1 (.cons 21 1 (.cons 22 1 (.cons 23 1 (.cons 24 1 (.cons 25 1 (.cons 26 1 (.cons 27 1 (.cons 28 1 (.cons 29 1 (.cons 30 1 (.cons 31 1 (.cons 32 1 (.cons 33 1 (.cons 34 1 (.cons 35 1 (.cons 36 1 (.cons 37 1 (.cons 38 1 (.cons 39 1 (.cons 40 1 .nil))))))))))))))))))))))))))))))))))))))))) mixed (by kernel_rfl) fun w20 E13 => ?_
                      replace H := H.grow E13
                      replace R0 := H.ext
                      refine DW.fix rfl rfl rfl (fun _ EQ => RV.fieldAddr Tf94_0 rfl) ?_
                      refine DW.fix rfl rfl rfl (fun _ EQ => RV.load1 Tk3 rfl (((H.grow EQ).blk 0 rfl).cells.off 0) rfl) ?_
                      refine DW.fix rfl rfl rfl (fun _ EQ => RV.lss rfl rfl) ?_
                      refine DW.fix rfl rfl rfl (fun _ EQ => RV.move rfl) ?_
                      refine DW.fixYB rfl rfl rfl rfl rfl hq9 (fun _ EQ => RV.fieldAddr Tf94_0 rfl) ?_
                      refine DW.fixYB rfl rfl rfl rfl rfl hq9 (fun _ EQ => RV.load1 Tk3 rfl (((H.grow EQ).blk 0 rfl).cells.off 0) rfl) ?_
                      refine DW.fixYB rfl rfl rfl rfl rfl hq9 (fun _ EQ => RV.move rfl) ?_
                      refine DW.fixYB rfl rfl rfl rfl rfl hq9 (fun _ EQ => RV.geq rfl rfl) ?_
                      refine DW.fix rfl rfl rfl (fun _ EQ => RV.pickFB rfl hq9 rfl) ?_
                      refine DW.fix rfl rfl rfl (fun _ EQ => RV.move rfl) ?_
                      refine DW.fixYB rfl rfl rfl rfl rfl hq10 (fun _ EQ => RV.fieldAddr Tf94_1 rfl) ?_
                      refine DW.fixYB rfl rfl rfl rfl rfl hq10 (fun _ EQ => RV.load1 Tk3 rfl (((H.grow EQ).blk 0 rfl).cells.off 1) rfl) ?_
                      refine DW.fixYB rfl rfl rfl rfl rfl hq10 (fun _ EQ => RV.lss rfl rfl) ?_
                      refine DW.fix rfl rfl rfl (fun _ EQ => RV.pickFB rfl hq10 rfl) ?_
                      refine DW.fix rfl rfl rfl (fun _ EQ => RV.move rfl) ?_
                      refine DW.fixYB rfl rfl rfl rfl rfl hq11 (fun _ EQ => RV.fieldAddr Tf94_1 rfl) ?_
                      refine DW.fixYB rfl rfl rfl rfl rfl hq11 (fun _ EQ => RV.load1 Tk3 rfl (((H.grow EQ).blk 0 rfl).cells.off 1) rfl) ?_
                      refine DW.fixYB rfl rfl rfl rfl rfl hq11 (fun _ EQ => RV.loadA [.slice A_a0_worth a0.worth.length c_a0_worth] Tk24 rfl ((H.grow EQ).blk 2 rfl).cells rfl rfl) ?_
                      refine DW.soleYB rfl rfl rfl rfl rfl hq11 (OW.call Tc93 rfl (ref04_depth_ok (a0 := a0) (h_a0_worth.ext R0) hr2) ?_)
                      rintro _ w21 ⟨rfl, E14⟩
                      refine ⟨_, rfl, fun _ => E14, ModX.ext E14, ?_⟩
                      replace H := H.grow E14
                      replace R0 := H.ext
                      refine DW.fixYB rfl rfl rfl rfl rfl hq11 (fun _ EQ => RV.geq rfl rfl) ?_
                      refine DW.fix rfl rfl rfl (fun _ EQ => RV.pickFB rfl hq11 rfl) ?_
                      refine DW.fix rfl rfl rfl (fun _ EQ => RV.move rfl) ?_
                      refine DW.fixYB rfl rfl rfl rfl rfl hq12 (fun _ EQ => RV.fieldAddr Tf94_2 rfl) ?_
                      refine DW.fixYB rfl rfl rfl rfl rfl hq12 (fun _ EQ => RV.load1 Tk3 rfl (((H.grow EQ).blk 0 rfl).cells.off 2) rfl) ?_
                      refine DW.fixYB rfl rfl rfl rfl rfl hq12 (fun _ EQ => RV.fieldAddr Tf94_0 rfl) ?_
                      refine DW.fixYB rfl rfl rfl rfl rfl hq12 (fun _ EQ => RV.load1 Tk3 rfl (((H.grow EQ).blk 0 rfl).cells.off 0) rfl) ?_
                      refine DW.fixYB rfl rfl rfl rfl rfl hq12 (fun _ EQ => RV.sub rfl rfl hg8) ?_
                      refine DW.fixYB rfl rfl rfl rfl rfl hq12 (fun _ EQ => RV.max2 rfl rfl) ?_
                      refine DW.fixYB rfl rfl rfl rfl rfl hq12 (fun _ EQ => RV.lss rfl rfl) ?_
                      refine DW.fix rfl rfl rfl (fun _ EQ => RV.pickFB rfl hq12 rfl) ?_
                      refine DW.fix rfl rfl rfl (fun _ EQ => RV.move rfl) ?_
                      refine DW.fixYB rfl rfl rfl rfl rfl hq13 (fun _ EQ => RV.fieldAddr Tf94_2 rfl) ?_
                      refine DW.fixYB rfl rfl rfl rfl rfl hq13 (fun _ EQ => RV.load1 Tk3 rfl (((H.grow EQ).blk 0 rfl).cells.off 2) rfl) ?_
                      refine DW.fixYB rfl rfl rfl rfl rfl hq13 (fun _ EQ => RV.move rfl) ?_
                      refine DW.fixYB rfl rfl rfl rfl rfl hq13 (fun _ EQ => RV.sub rfl rfl hg9) ?_
                      refine DW.fixYB rfl rfl rfl rfl rfl hq13 (fun _ EQ => RV.fieldAddr Tf94_0 rfl) ?_
                      refine DW.fixYB rfl rfl rfl rfl rfl hq13 (fun _ EQ => RV.load1 Tk3 rfl (((H.grow EQ).blk 0 rfl).cells.off 0) rfl) ?_
                      refine DW.fixYB rfl rfl rfl rfl rfl hq13 (fun _ EQ => RV.add rfl rfl hg10) ?_
                      refine DW.fixYB rfl rfl rfl rfl rfl hq13 (fun _ EQ => RV.min2 rfl rfl) ?_
                      refine DW.fixYB rfl rfl rfl rfl rfl hq13 (fun _ EQ => RV.gtr rfl rfl) ?_
                      refine DW.fix rfl rfl rfl (fun _ EQ => RV.pickFB rfl hq13 rfl) ?_
                      replace H := H.pick (L' := [.tab A54_0_worth c54_0_worth 25 hs54_0_worth 3 1 (encM encN m2), .blk b1 24 [.slice A_a0_worth a0.worth.length c_a0_worth], .blk b2 24 [.slice A54_0_worth m2.length c54_0_worth], .blk b3 94 [.int .i64 x3.column, .int .i64 x3.row, .int .i64 x3.to_, .int .i64 x3.amount]]) [1, 2, 3, 0] (by decide) rfl
                      replace R0 := H.ext
                      refine DW.nil (jK443 _ _ ⟨_, ?_, ⟨(decide ((min (((a0.worth.length : Int)) - 1) (x3.column + 1)) < x3.to_)), F, rfl, H⟩⟩)
                      exact ⟨rfl, rfl, rfl, rfl, rfl, rfl, rfl, rfl, rfl, trivial⟩
        ·
          replace F := ite_n hp5 F
          have hq5 := dec_f hp5
          refine CW.condF rfl hq5 ?_
          refine CW.exit (jK409 _ _ ⟨_, ?_, ⟨m2, F, rfl, H⟩⟩)
          exact ⟨rfl, rfl, rfl, rfl, rfl, trivial⟩
  ·
    replace F := ite_n hp1 F
    have hq1 := dec_f hp1
    refine CW.condT rfl (not_t hq1) ?_
    refine CW.seq fun K34 hK34 => ?_
    refine CW.region ?_
    refine LW.pure rfl rfl (RV.move rfl) ?_
    refine LW.pure rfl rfl (RV.assign rfl) ?_
    refine LW.pure rfl rfl (RV.assign rfl) ?_
    refine LW.nil (hK34 _ _ ?_)
    refine CW.ret ?_
    obtain rfl := Option.some.inj F
    refine ⟨_, (ResOK.two rfl rfl), ?_⟩
    refine ⟨(by first | rfl | simp), R0⟩
end Go.D4

set_option linter.unusedVariables false
set_option linter.unusedSimpArgs false
namespace Go.D4
open Go.Tb Go.Proofs Go.RowKit
theorem Tc56 : callable Try.prog 56 = true := by kernel_rfl
end Go.D4

set_option linter.unusedVariables false
set_option linter.unusedSimpArgs false
namespace Go.D4
open Go.Tb Go.Proofs Go.RowKit
theorem Te101 (a0 a1 a2 a3 b0 b1 b2 b3 : Int) (w : World) : (Op.equalIn 10000 101 (.agg #[.int .i64 a0, .int .i64 a1, .int .i64 a2, .int .i64 a3]) (.agg #[.int .i64 b0, .int .i64 b1, .int .i64 b2, .int .i64 b3])).run Try.prog w = .ok ((a0 == b0) && (a1 == b1) && (a2 == b2) && (a3 == b3)) w := by
  rw [run_equalIn_agg w 9999 101 _ _ (by kernel_rfl) (by kernel_rfl)]
  simp [Program.fieldsOf, Try.underlying101, Op.eqFields, go_sem]
  by_cases h0 : a0 = b0 <;> by_cases h1 : a1 = b1 <;> by_cases h2 : a2 = b2 <;> by_cases h3 : a3 = b3 <;> simp [h0, h1, h2, h3]
theorem KO101 : KeyOK Try.prog 101 ekLink eqLink :=
  KeyOK.agg (d := ((Try.prog.underlying 101).getD .bool)) (fun x => #[.int .i64 x.from_.column, .int .i64 x.from_.row, .int .i64 x.to_.column, .int .i64 x.to_.row]) (by kernel_rfl) (fun _ => rfl) (fun w em x => by kernel_rfl) (fun w x y => Te101 _ _ _ _ _ _ _ _ w) (fun x y => by obtain ⟨⟨a, b⟩, ⟨c, d⟩⟩ := x; obtain ⟨⟨a', b'⟩, ⟨c', d'⟩⟩ := y; simp [eqLink, and_assoc]) (fun x => by simp [Instr.sameBits])
end Go.D4

set_option linter.unusedVariables false
set_option linter.unusedSimpArgs false
namespace Go.D4
open Go.Tb Go.Proofs Go.RowKit
theorem Tc100 : callable Try.prog 100 = true := by kernel_rfl
theorem Tf92_0 : tyF Try.prog 92 0 = some 0 := by kernel_rfl
theorem Tf92_1 : tyF Try.prog 92 1 = some 1 := by kernel_rfl
theorem Tf98_0 : tyF Try.prog 98 0 = some 0 := by kernel_rfl
theorem Tf98_1 : tyF Try.prog 98 1 = some 1 := by kernel_rfl
theorem Tf98_2 : tyF Try.prog 98 2 = some 2 := by kernel_rfl
theorem Tk90 : tyK Try.prog 90 = some (false, 1) := by kernel_rfl
theorem Tk92 : tyK Try.prog 92 = some (true, 2) := by kernel_rfl
theorem Tk96 : tyK Try.prog 96 = some (false, 1) := by kernel_rfl
theorem Tk98 : tyK Try.prog 98 = some (true, 3) := by kernel_rfl
theorem Tm109 : tyM Try.prog 109 = some (92, 4) := by kernel_rfl
theorem Tm96 : tyM Try.prog 96 = some (101, 3) := by kernel_rfl
theorem Ts106 : tyS Try.prog 106 = some (101, 4, 32, [.int .i64 0, .int .i64 0, .int .i64 0, .int .i64 0]) := by kernel_rfl
theorem Tz4 : tyZ Try.prog 4 = some (.bool false) := by kernel_rfl
theorem Tz92 : tyZ Try.prog 92 = some (.agg #[.int .i64 0, .int .i64 0]) := by kernel_rfl
set_option maxRecDepth 20000 in
set_option maxHeartbeats 1000000 in
theorem cut_payer_way_F_ok : ∀ (n_ : Nat) {a0 : Payer} {a1 : Block} {a2 : List (Block × Bool)} {A_a0_bog_worth : Option Addr} {c_a0_bog_worth : Nat} {b_a0_has : Nat} {b_a0_passed : Nat} {b_a2 : Nat} {wb : World} {R : List Ck} {w : World} {res : (List Link) × Bool × (List (Block × Int)) × (List (Link × Int)) × (List (Block × Bool))} (h_a0_bog_worth : Sl2 wb A_a0_bog_worth c_a0_bog_worth 1 encN a0.bog.worth) (H : Hp wb w ([.mp b_a0_has (encMap ekBlock ekI a0.has), .mp b_a0_passed (encMap ekLink ekI a0.passed), .mp b_a2 (encMap ekBlock ekBl a2)] ++ R)) (F : cut_payer_way_F n_ a0 a1 a2 = some res), Calls Try.prog 100 #[.agg #[.slice A_a0_bog_worth a0.bog.worth.length c_a0_bog_worth, .map (some b_a0_has), .map (some b_a0_passed)], .agg #[.int .i64 a1.column, .int .i64 a1.row], .map (some b_a2)] w (fun e w' => ∃ (A0 : Option Addr) (c0 : Nat), e = .returned (.tuple #[.slice A0 res.1.length c0, .bool res.2.1]) ∧ Hp wb w' ([.mp b_a0_has (encMap ekBlock ekI res.2.2.1), .mp b_a0_passed (encMap ekLink ekI res.2.2.2.1), .mp b_a2 (encMap ekBlock ekBl res.2.2.2.2), .own A0 c0 101 4 (List.map encLink res.1)] ++ R)) := by
  intro n_
  induction n_ with
  | zero =>
    intro a0 a1 a2 A_a0_bog_worth c_a0_bog_worth b_a0_has b_a0_passed b_a2 wb R w res h_a0_bog_worth H F
    cases F
  | succ n_ ih =>
    intro a0 a1 a2 A_a0_bog_worth c_a0_bog_worth b_a0_has b_a0_passed b_a2 wb R w res h_a0_bog_worth H F
    replace F : cut_payer_way_body (cut_payer_way_F n_) a0 a1 a2 = some res := F
    generalize hrecf : cut_payer_way_F n_ = recf at F ih
    refine calls_of_cw (args := [.agg #[.slice A_a0_bog_worth a0.bog.worth.length c_a0_bog_worth, .map (some b_a0_has), .map (some b_a0_passed)], .agg #[.int .i64 a1.column, .int .i64 a1.row], .map (some b_a2)]) Try.func100 rfl rfl rfl rfl ?_
    have R0 := H.ext
    unfold cut_payer_way_body at F
    refine CW.seq fun K1 hK1 => ?_
    refine CW.region ?_
    refine LW.go rfl rfl (OW.box rfl fun b1 w1 N1 => ?_)
    replace H := H.new N1 N1.blk
    replace R0 := H.ext
    refine LW.go rfl rfl (OW.box rfl fun b2 w2 N2 => ?_)
    replace H := H.new N2 N2.blk
    replace R0 := H.ext
    refine LW.pure rfl rfl (RV.assign rfl) ?_
    refine LW.pure rfl rfl (RV.assign rfl) ?_
    refine LW.nil (hK1 _ _ ?_)
    refine CW.seq fun K2 hK2 => ?_
    refine CW.region ?_
    refine LW.pure rfl rfl (RV.move rfl) ?_
    refine LW.pure rfl rfl (RV.loadA [.int .i64 a1.column, .int .i64 a1.row] Tk92 rfl (H.blk 0 rfl).cells rfl rfl) ?_
    refine LW.go rfl rfl (OW.updateM (ek := ekBlock) (ev' := ekBl) (eq := eqBlock) (m := a2) ((⟨a1.column, a1.row⟩ : Block)) true KO92 Tm109 rfl rfl rfl (H.mp 4 rfl) fun w3 M1 O1 => ?_)
    replace H : Hp wb w3 ([.blk b2 92 [.int .i64 a1.column, .int .i64 a1.row], .blk b1 98 [.slice A_a0_bog_worth a0.bog.worth.length c_a0_bog_worth, .map (some b_a0_has), .map (some b_a0_passed)], .mp b_a0_has (encMap ekBlock ekI a0.has), .mp b_a0_passed (encMap ekLink ekI a0.passed), .mp b_a2 (encMap ekBlock ekBl ((mset eqBlock a2 ((⟨a1.column, a1.row⟩ : Block)) true)))] ++ R) := H.setM 4 rfl M1 O1
    replace R0 := H.ext
    refine LW.nil (hK2 _ _ ?_)
    refine CW.seq fun K3 hK3 => ?_
    refine CW.seq fun K4 hK4 => ?_
    refine CW.region ?_
    refine LW.pure rfl rfl (RV.fieldAddr Tf98_1 rfl) ?_
    refine LW.pure rfl rfl (RV.load1 Tk90 rfl ((H.blk 1 rfl).cells.off 1) rfl) ?_
    refine LW.pure rfl rfl (RV.loadA [.int .i64 a1.column, .int .i64 a1.row] Tk92 rfl (H.blk 0 rfl).cells rfl rfl) ?_
    refine LW.pure rfl rfl (RV.lookupM (ek := ekBlock) (ev' := ekI) (eq := eqBlock) (m := a0.has) ((⟨a1.column, a1.row⟩ : Block)) 0 KO92 Tm90 Tz3 rfl rfl (H.mp 2 rfl)) ?_
    refine LW.pure rfl rfl (RV.lss rfl rfl) ?_
    refine LW.nil (hK4 _ _ ?_)
    by_cases hp1 : ((mget eqBlock a0.has ((⟨a1.column, a1.row⟩ : Block))).getD 0) < 0
    ·
      replace F := ite_y hp1 F
      have hq1 := dec_t hp1
      refine CW.condT rfl hq1 ?_
      refine CW.seq fun K5 hK5 => ?_
      refine CW.region ?_
      refine LW.pure rfl rfl (RV.assign rfl) ?_
      refine LW.pure rfl rfl (RV.assign rfl) ?_
      refine LW.nil (hK5 _ _ ?_)
      refine CW.ret ?_
      obtain rfl := Option.some.inj F
      refine ⟨_, (ResOK.two rfl rfl), ?_⟩
      replace H := H.nilOwn 101 4
      replace R0 := H.ext
      replace H := H.pickR (C := [.own none 0 101 4 (List.map encLink (([] : List Link))), .blk b2 92 [.int .i64 a1.column, .int .i64 a1.row], .blk b1 98 [.slice A_a0_bog_worth a0.bog.worth.length c_a0_bog_worth, .map (some b_a0_has), .map (some b_a0_passed)], .mp b_a0_has (encMap ekBlock ekI a0.has), .mp b_a0_passed (encMap ekLink ekI a0.passed), .mp b_a2 (encMap ekBlock ekBl ((mset eqBlock a2 ((⟨a1.column, a1.row⟩ : Block)) true)))]) (C' := [.mp b_a0_has (encMap ekBlock ekI a0.has), .mp b_a0_passed (encMap ekLink ekI a0.passed), .mp b_a2 (encMap ekBlock ekBl ((mset eqBlock a2 ((⟨a1.column, a1.row⟩ : Block)) true))), .own none 0 101 4 (List.map encLink (([] : List Link)))]) [3, 4, 5, 0] (by decide) rfl
      replace R0 := H.ext
      exact ⟨none, 0, (by first | rfl | (simp; done) | (simp; omega)), H⟩
    ·
      replace F := ite_n hp1 F
      have hq1 := dec_f hp1
      refine CW.condF rfl hq1 ?_
      refine CW.skip (hK3 _ _ ?_)
      refine CW.seqJ (fun ρ wl1 => (∃ (m1 : List (Block × Int)) (m2 : List (Link × Int)) (m3 : List (Block × Bool)), cut_payer_way_k1 m1 m2 m3 = some res ∧ ρ = [(6, .slice none 0 0), (7, .bool false)] ∧ Hp wb wl1 ([.mp b_a0_has (encMap ekBlock ekI m1), .mp b_a0_passed (encMap ekLink ekI m2), .mp b_a2 (encMap ekBlock ekBl m3)] ++ R))) ?_ ?_
      ·
        rintro _ wl1 ⟨m1, m2, m3, F, rfl, H⟩
        have R0 := H.ext
        unfold cut_payer_way_k1 at F
        refine CW.seq fun K6 hK6 => ?_
        refine CW.region ?_
        refine LW.pure rfl rfl (RV.assign rfl) ?_
        refine LW.pure rfl rfl (RV.assign rfl) ?_
        refine LW.nil (hK6 _ _ ?_)
        refine CW.ret ?_
        obtain rfl := Option.some.inj F
        refine ⟨_, (ResOK.two rfl rfl), ?_⟩
        replace H := H.nilOwn 101 4
        replace R0 := H.ext
        replace H := H.pickR (C := [.own none 0 101 4 (List.map encLink (([] : List Link))), .mp b_a0_has (encMap ekBlock ekI m1), .mp b_a0_passed (encMap ekLink ekI m2), .mp b_a2 (encMap ekBlock ekBl m3)]) (C' := [.mp b_a0_has (encMap ekBlock ekI m1), .mp b_a0_passed (encMap ekLink ekI m2), .mp b_a2 (encMap ekBlock ekBl m3), .own none 0 101 4 (List.map encLink (([] : List Link)))]) [1, 2, 3, 0] (by decide) rfl
        replace R0 := H.ext
        exact ⟨none, 0, (by first | rfl | (simp; done) | (simp; omega)), H⟩
      ·
        intro K7 hK7 jK314
        refine CW.seq fun K8 hK8 => ?_
        refine CW.region ?_
        refine LW.pure rfl rfl (RV.assign rfl) ?_
        refine LW.nil (hK8 _ _ ?_)
        refine CW.block ?_
        replace H := H.pickR (C := [.blk b2 92 [.int .i64 a1.column, .int .i64 a1.row], .blk b1 98 [.slice A_a0_bog_worth a0.bog.worth.length c_a0_bog_worth, .map (some b_a0_has), .map (some b_a0_passed)], .mp b_a0_has (encMap ekBlock ekI a0.has), .mp b_a0_passed (encMap ekLink ekI a0.passed), .mp b_a2 (encMap ekBlock ekBl ((mset eqBlock a2 ((⟨a1.column, a1.row⟩ : Block)) true)))]) (C' := [.mp b_a2 (encMap ekBlock ekBl ((mset eqBlock a2 ((⟨a1.column, a1.row⟩ : Block)) true))), .mp b_a0_has (encMap ekBlock ekI a0.has), .mp b_a0_passed (encMap ekLink ekI a0.passed), .blk b1 98 [.slice A_a0_bog_worth a0.bog.worth.length c_a0_bog_worth, .map (some b_a0_has), .map (some b_a0_passed)], .blk b2 92 [.int .i64 a1.column, .int .i64 a1.row]]) [4, 2, 3, 1, 0] (by decide) rfl
        replace R0 := H.ext
        refine CW.loop (fun meas ρ wl2 => ∃ (t8_1 : Int) (m10 : List (Block × Bool)) (m11 : List (Block × Int)) (m12 : List (Link × Int)), cut_payer_way_L1 a0 a1 recf meas t8_1 m10 m11 m12 = some res ∧ ρ = [(2, .map (some b_a2)), (3, .pointer (some (⟨b1, 0, none⟩))), (4, .pointer (some (⟨b2, 0, none⟩))), (6, .slice none 0 0), (7, .bool false), (8, .int .i64 t8_1)] ∧ Hp wb wl2 ([.mp b_a2 (encMap ekBlock ekBl m10), .mp b_a0_has (encMap ekBlock ekI m11), .mp b_a0_passed (encMap ekLink ekI m12), .blk b1 98 [.slice A_a0_bog_worth a0.bog.worth.length c_a0_bog_worth, .map (some b_a0_has), .map (some b_a0_passed)], .blk b2 92 [.int .i64 a1.column, .int .i64 a1.row]] ++ R)) FU ⟨_, ?_, ((-1 : Int)), ((mset eqBlock a2 ((⟨a1.column, a1.row⟩ : Block)) true)), a0.has, a0.passed, F, rfl, H⟩ ?_
        · exact ⟨rfl, rfl, rfl, rfl, rfl, rfl, trivial⟩
        rintro mk1 _ wl2 ⟨t8_1, m10, m11, m12, F, rfl, H⟩
        have R0 := H.ext
        replace F := cut_payer_way_L1_s F
        obtain ⟨mk1, rfl, F⟩ := F
        generalize hrec1 : cut_payer_way_L1 a0 a1 recf mk1 = rec1 at F
        unfold cut_payer_way_B1 at F
        refine CW.seq fun K9 hK9 => ?_
        refine CW.seq fun K10 hK10 => ?_
        refine CW.region ?_
        refine LW.pure rfl rfl (RV.move rfl) ?_
        refine LW.pure rfl rfl (RV.leq rfl rfl) ?_
        refine LW.nil (hK10 _ _ ?_)
        by_cases hp2 : t8_1 ≤ 1
        ·
          replace F := ite_y hp2 F
          have hq2 := dec_t hp2
          refine CW.condT rfl hq2 ?_
          refine CW.skip (hK9 _ _ ?_)
          refine CW.seqJ (fun ρ wl3 => (∃ (m4 : List (Block × Bool)) (m5 : List (Block × Int)) (m6 : List (Link × Int)), cut_payer_way_k2 t8_1 rec1 m4 m5 m6 = some res ∧ ρ = [(2, .map (some b_a2)), (3, .pointer (some (⟨b1, 0, none⟩))), (4, .pointer (some (⟨b2, 0, none⟩))), (6, .slice none 0 0), (7, .bool false), (8, .int .i64 t8_1)] ∧ Hp wb wl3 ([.mp b_a2 (encMap ekBlock ekBl m4), .mp b_a0_has (encMap ekBlock ekI m5), .mp b_a0_passed (encMap ekLink ekI m6), .blk b1 98 [.slice A_a0_bog_worth a0.bog.worth.length c_a0_bog_worth, .map (some b_a0_has), .map (some b_a0_passed)], .blk b2 92 [.int .i64 a1.column, .int .i64 a1.row]] ++ R))) ?_ ?_
          ·
            rintro _ wl3 ⟨m4, m5, m6, F, rfl, H⟩
            have R0 := H.ext
            unfold cut_payer_way_k2 at F
            obtain ⟨hg1, F⟩ := gd_some F
            refine CW.region ?_
            refine LW.pure rfl rfl (RV.move rfl) ?_
            refine LW.pure rfl rfl (RV.add rfl rfl hg1) ?_
            refine LW.pure rfl rfl (RV.assign rfl) ?_
            refine LW.nil ?_
            subst hrec1
            refine ⟨mk1, Nat.lt_succ_self _, _, ?_, (t8_1 + 1), m4, m5, m6, F, rfl, H⟩
            exact ⟨rfl, rfl, rfl, rfl, rfl, rfl, trivial⟩
          ·
            intro K11 hK11 jK399
            refine CW.block ?_
            refine CW.seq fun K12 hK12 => ?_
            obtain ⟨hg2, F⟩ := gd_some F
            obtain ⟨hg3, F⟩ := gd_some F
            refine CW.region ?_
            refine LW.pure rfl rfl (RV.fieldAddr Tf92_0 rfl) ?_
            refine LW.pure rfl rfl (RV.load1 Tk3 rfl ((H.blk 4 rfl).cells.off 0) rfl) ?_
            refine LW.pure rfl rfl (RV.move rfl) ?_
            refine LW.pure rfl rfl (RV.add rfl rfl hg2) ?_
            refine LW.pure rfl rfl (RV.fieldAddr Tf92_1 rfl) ?_
            refine LW.pure rfl rfl (RV.load1 Tk3 rfl ((H.blk 4 rfl).cells.off 1) rfl) ?_
            refine LW.pure rfl rfl (RV.sub rfl rfl hg3) ?_
            refine LW.pure rfl rfl (RV.build (vs := [.int .i64 (a1.column + t8_1), .int .i64 (a1.row - 1)]) (cs := [.int .i64 (a1.column + t8_1), .int .i64 (a1.row - 1)]) rfl (fun _ => by kernel_rfl)) ?_
            refine LW.go rfl rfl (OW.alloc Tz92 fun b3 w4 N3 => ?_)
            replace H := H.new N3 N3.blk
            replace R0 := H.ext
            refine LW.go rfl rfl (OW.store Tk92 rfl rfl (H.blk 0 rfl) (off := 0) (vs := [.int .i64 (a1.column + t8_1), .int .i64 (a1.row - 1)]) rfl rfl rfl rfl rfl fun w5 S1 => ?_)
            replace H : Hp wb w5 ([.blk b3 92 [.int .i64 (a1.column + t8_1), .int .i64 (a1.row - 1)], .mp b_a2 (encMap ekBlock ekBl m10), .mp b_a0_has (encMap ekBlock ekI m11), .mp b_a0_passed (encMap ekLink ekI m12), .blk b1 98 [.slice A_a0_bog_worth a0.bog.worth.length c_a0_bog_worth, .map (some b_a0_has), .map (some b_a0_passed)], .blk b2 92 [.int .i64 a1.column, .int .i64 a1.row]] ++ R) := H.stored 0 rfl S1
            replace R0 := H.ext
            refine LW.nil (hK12 _ _ ?_)
            refine CW.seqJ (fun ρ wl4 => (∃ (m7 : List (Block × Bool)) (m8 : List (Block × Int)) (m9 : List (Link × Int)), cut_payer_way_k4 a0 a1 recf t8_1 rec1 m7 m8 m9 = some res ∧ ρ = [(2, .map (some b_a2)), (3, .pointer (some (⟨b1, 0, none⟩))), (4, .pointer (some (⟨b2, 0, none⟩))), (6, .slice none 0 0), (7, .bool false), (8, .int .i64 t8_1)] ∧ Hp wb wl4 ([.mp b_a2 (encMap ekBlock ekBl m7), .mp b_a0_has (encMap ekBlock ekI m8), .mp b_a0_passed (encMap ekLink ekI m9), .blk b1 98 [.slice A_a0_bog_worth a0.bog.worth.length c_a0_bog_worth, .map (some b_a0_has), .map (some b_a0_passed)], .blk b2 92 [.int .i64 a1.column, .int .i64 a1.row]] ++ R))) ?_ ?_
            ·
              rintro _ wl4 ⟨m7, m8, m9, F, rfl, H⟩
              have R0 := H.ext
              unfold cut_payer_way_k4 at F
              refine CW.seq fun K13 hK13 => ?_
              obtain ⟨hg4, F⟩ := gd_some F
              obtain ⟨hg5, F⟩ := gd_some F
              refine CW.region ?_
              refine LW.pure rfl rfl (RV.fieldAddr Tf92_0 rfl) ?_
              refine LW.pure rfl rfl (RV.load1 Tk3 rfl ((H.blk 4 rfl).cells.off 0) rfl) ?_
              refine LW.pure rfl rfl (RV.move rfl) ?_
              refine LW.pure rfl rfl (RV.add rfl rfl hg4) ?_
              refine LW.pure rfl rfl (RV.fieldAddr Tf92_1 rfl) ?_
              refine LW.pure rfl rfl (RV.load1 Tk3 rfl ((H.blk 4 rfl).cells.off 1) rfl) ?_
              refine LW.pure rfl rfl (RV.add rfl rfl hg5) ?_
              refine LW.pure rfl rfl (RV.build (vs := [.int .i64 (a1.column + t8_1), .int .i64 (a1.row + 1)]) (cs := [.int .i64 (a1.column + t8_1), .int .i64 (a1.row + 1)]) rfl (fun _ => by kernel_rfl)) ?_
              refine LW.go rfl rfl (OW.alloc Tz92 fun b4 w6 N4 => ?_)
              replace H := H.new N4 N4.blk
              replace R0 := H.ext
              refine LW.go rfl rfl (OW.store Tk92 rfl rfl (H.blk 0 rfl) (off := 0) (vs := [.int .i64 (a1.column + t8_1), .int .i64 (a1.row + 1)]) rfl rfl rfl rfl rfl fun w7 S2 => ?_)
              replace H : Hp wb w7 ([.blk b4 92 [.int .i64 (a1.column + t8_1), .int .i64 (a1.row + 1)], .mp b_a2 (encMap ekBlock ekBl m7), .mp b_a0_has (encMap ekBlock ekI m8), .mp b_a0_passed (encMap ekLink ekI m9), .blk b1 98 [.slice A_a0_bog_worth a0.bog.worth.length c_a0_bog_worth, .map (some b_a0_has), .map (some b_a0_passed)], .blk b2 92 [.int .i64 a1.column, .int .i64 a1.row]] ++ R) := H.stored 0 rfl S2
              replace R0 := H.ext
              refine LW.nil (hK13 _ _ ?_)
              refine CW.seqJ (fun ρ wl5 => (∃ (t87_1 : Bool), cut_payer_way_k3 a0 a1 recf t8_1 rec1 m7 m8 m9 t87_1 = some res ∧ ρ = [(2, .map (some b_a2)), (3, .pointer (some (⟨b1, 0, none⟩))), (4, .pointer (some (⟨b2, 0, none⟩))), (6, .slice none 0 0), (7, .bool false), (8, .int .i64 t8_1), (12, .pointer (some (⟨b4, 0, none⟩))), (87, .bool t87_1)] ∧ Hp wb wl5 ([.mp b_a2 (encMap ekBlock ekBl m7), .mp b_a0_has (encMap ekBlock ekI m8), .mp b_a0_passed (encMap ekLink ekI m9), .blk b1 98 [.slice A_a0_bog_worth a0.bog.worth.length c_a0_bog_worth, .map (some b_a0_has), .map (some b_a0_passed)], .blk b2 92 [.int .i64 a1.column, .int .i64 a1.row], .blk b4 92 [.int .i64 (a1.column + t8_1), .int .i64 (a1.row + 1)]] ++ R))) ?_ ?_
              ·
                rintro _ wl5 ⟨t87_1, F, rfl, H⟩
                have R0 := H.ext
                unfold cut_payer_way_k3 at F
                by_cases hp3 : t87_1 = true
                ·
                  replace F := ite_y hp3 F
                  have hq3 : t87_1 = true := hp3
                  refine CW.condT rfl hq3 ?_
                  refine CW.seq fun K14 hK14 => ?_
                  obtain ⟨r1, hr1, F⟩ := bnd_some F
                  refine CW.region ?_
                  refine LW.pure rfl rfl (RV.loadA [.slice A_a0_bog_worth a0.bog.worth.length c_a0_bog_worth, .map (some b_a0_has), .map (some b_a0_passed)] Tk98 rfl (H.blk 3 rfl).cells rfl rfl) ?_
                  refine LW.pure rfl rfl (RV.loadA [.int .i64 (a1.column + t8_1), .int .i64 (a1.row + 1)] Tk92 rfl (H.blk 5 rfl).cells rfl rfl) ?_
                  refine LW.pure rfl rfl (RV.move rfl) ?_
                  replace H := H.pickR (C := [.mp b_a2 (encMap ekBlock ekBl m7), .mp b_a0_has (encMap ekBlock ekI m8), .mp b_a0_passed (encMap ekLink ekI m9), .blk b1 98 [.slice A_a0_bog_worth a0.bog.worth.length c_a0_bog_worth, .map (some b_a0_has), .map (some b_a0_passed)], .blk b2 92 [.int .i64 a1.column, .int .i64 a1.row], .blk b4 92 [.int .i64 (a1.column + t8_1), .int .i64 (a1.row + 1)]]) (C' := [.mp b_a0_has (encMap ekBlock ekI m8), .mp b_a0_passed (encMap ekLink ekI m9), .mp b_a2 (encMap ekBlock ekBl m7), .blk b1 98 [.slice A_a0_bog_worth a0.bog.worth.length c_a0_bog_worth, .map (some b_a0_has), .map (some b_a0_passed)], .blk b2 92 [.int .i64 a1.column, .int .i64 a1.row], .blk b4 92 [.int .i64 (a1.column + t8_1), .int .i64 (a1.row + 1)]]) [1, 2, 0, 3, 4, 5] (by decide) rfl
                  replace R0 := H.ext
                  refine LW.go rfl rfl (OW.call Tc100 rfl (ih (a0 := (⟨a0.bog, m8, m9⟩ : Payer)) (a1 := (⟨a1.column + t8_1, a1.row + 1⟩ : Block)) (a2 := m7) (R := [.blk b1 98 [.slice A_a0_bog_worth a0.bog.worth.length c_a0_bog_worth, .map (some b_a0_has), .map (some b_a0_passed)], .blk b2 92 [.int .i64 a1.column, .int .i64 a1.row], .blk b4 92 [.int .i64 (a1.column + t8_1), .int .i64 (a1.row + 1)]] ++ R) h_a0_bog_worth H hr1) ?_)
                  rintro _ w8 ⟨A166_0, c166_0, rfl, Hq1⟩
                  refine ⟨_, rfl, ?_⟩
                  replace H : Hp wb w8 ([.mp b_a0_has (encMap ekBlock ekI r1.2.2.1), .mp b_a0_passed (encMap ekLink ekI r1.2.2.2.1), .mp b_a2 (encMap ekBlock ekBl r1.2.2.2.2), .own A166_0 c166_0 101 4 (List.map encLink r1.1), .blk b1 98 [.slice A_a0_bog_worth a0.bog.worth.length c_a0_bog_worth, .map (some b_a0_has), .map (some b_a0_passed)], .blk b2 92 [.int .i64 a1.column, .int .i64 a1.row], .blk b4 92 [.int .i64 (a1.column + t8_1), .int .i64 (a1.row + 1)]] ++ R) := Hq1
                  replace R0 := H.ext
                  refine LW.pure rfl rfl (RV.move rfl) ?_
                  refine LW.pure rfl rfl (RV.extract rfl rfl) ?_
                  refine LW.pure rfl rfl (RV.extract rfl rfl) ?_
                  refine LW.pure rfl rfl (RV.assign rfl) ?_
                  refine LW.pure rfl rfl (RV.assign rfl) ?_
                  refine LW.nil (hK14 _ _ ?_)
                  refine CW.seq fun K15 hK15 => ?_
                  refine CW.region ?_
                  refine LW.pure rfl rfl (RV.move rfl) ?_
                  refine LW.nil (hK15 _ _ ?_)
                  by_cases hp4 : r1.2.1 = true
                  ·
                    replace F := ite_y hp4 F
                    have hq4 : r1.2.1 = true := hp4
                    refine CW.condT rfl hq4 ?_
                    refine CW.seq fun K16 hK16 => ?_
                    obtain ⟨hg6, F⟩ := gd_some F
                    refine CW.region ?_
                    refine LW.pure rfl rfl (RV.loadA [.int .i64 a1.column, .int .i64 a1.row] Tk92 rfl (H.blk 5 rfl).cells rfl rfl) ?_
                    refine LW.pure rfl rfl (RV.loadA [.int .i64 (a1.column + t8_1), .int .i64 (a1.row + 1)] Tk92 rfl (H.blk 6 rfl).cells rfl rfl) ?_
                    refine LW.pure rfl rfl (RV.build (vs := [.agg #[.int .i64 a1.column, .int .i64 a1.row], .agg #[.int .i64 (a1.column + t8_1), .int .i64 (a1.row + 1)]]) (cs := [.int .i64 a1.column, .int .i64 a1.row, .int .i64 (a1.column + t8_1), .int .i64 (a1.row + 1)]) rfl (fun _ => by kernel_rfl)) ?_
                    refine LW.go rfl rfl (OW.buildSlice (e := 101) (vs := [.agg #[.int .i64 a1.column, .int .i64 a1.row, .int .i64 (a1.column + t8_1), .int .i64 (a1.row + 1)]]) (cs := [.int .i64 a1.column, .int .i64 a1.row, .int .i64 (a1.column + t8_1), .int .i64 (a1.row + 1)]) rfl (fun _ => by kernel_rfl) fun b5 w9 N5 => ?_)
                    replace H := H.made' (k := 4) (t := 101) (enc := encLink) (l := ([(⟨a1, (⟨a1.column + t8_1, a1.row + 1⟩ : Block)⟩ : Link)] : List Link)) N5 N5.blk (fun _ => rfl) rfl (by first | decide | omega | (simp; done) | (simp; omega))
                    replace R0 := H.ext
                    refine LW.pure rfl rfl (RV.move rfl) ?_
                    refine LW.go rfl rfl (OW.appendG (enc := encLink) (l := ([(⟨a1, (⟨a1.column + t8_1, a1.row + 1⟩ : Block)⟩ : Link)] : List Link)) (xs := r1.1) Ts106 (look_slice rfl (by first | rfl | (simp; done) | (simp; omega))) rfl (H.own 0 rfl) (H.own 4 rfl).sl (fun _ => rfl) rfl rfl hg6 (by decide) fun A1 c1 w10 O2 M2 D1 => ?_)
                    replace H : Hp wb w10 ([.own A1 c1 101 4 (List.map encLink ((([(⟨a1, (⟨a1.column + t8_1, a1.row + 1⟩ : Block)⟩ : Link)] : List Link) ++ r1.1))), .mp b_a0_has (encMap ekBlock ekI r1.2.2.1), .mp b_a0_passed (encMap ekLink ekI r1.2.2.2.1), .mp b_a2 (encMap ekBlock ekBl r1.2.2.2.2), .own A166_0 c166_0 101 4 (List.map encLink r1.1), .blk b1 98 [.slice A_a0_bog_worth a0.bog.worth.length c_a0_bog_worth, .map (some b_a0_has), .map (some b_a0_passed)], .blk b2 92 [.int .i64 a1.column, .int .i64 a1.row], .blk b4 92 [.int .i64 (a1.column + t8_1), .int .i64 (a1.row + 1)]] ++ R) := H.mod 0 rfl M2 O2 D1
                    replace R0 := H.ext
                    refine LW.pure rfl rfl (RV.assign rfl) ?_
                    refine LW.pure rfl rfl (RV.assign rfl) ?_
                    refine LW.nil (hK16 _ _ ?_)
                    refine CW.ret ?_
                    obtain rfl := Option.some.inj F
                    refine ⟨_, (ResOK.two rfl rfl), ?_⟩
                    replace H := H.pickR (C := [.own A1 c1 101 4 (List.map encLink ((([(⟨a1, (⟨a1.column + t8_1, a1.row + 1⟩ : Block)⟩ : Link)] : List Link) ++ r1.1))), .mp b_a0_has (encMap ekBlock ekI r1.2.2.1), .mp b_a0_passed (encMap ekLink ekI r1.2.2.2.1), .mp b_a2 (encMap ekBlock ekBl r1.2.2.2.2), .own A166_0 c166_0 101 4 (List.map encLink r1.1), .blk b1 98 [.slice A_a0_bog_worth a0.bog.worth.length c_a0_bog_worth, .map (some b_a0_has), .map (some b_a0_passed)], .blk b2 92 [.int .i64 a1.column, .int .i64 a1.row], .blk b4 92 [.int .i64 (a1.column + t8_1), .int .i64 (a1.row + 1)]]) (C' := [.mp b_a0_has (encMap ekBlock ekI r1.2.2.1), .mp b_a0_passed (encMap ekLink ekI r1.2.2.2.1), .mp b_a2 (encMap ekBlock ekBl r1.2.2.2.2), .own A1 c1 101 4 (List.map encLink ((([(⟨a1, (⟨a1.column + t8_1, a1.row + 1⟩ : Block)⟩ : Link)] : List Link) ++ r1.1)))]) [1, 2, 3, 0] (by decide) rfl
                    replace R0 := H.ext
                    exact ⟨A1, c1, (by first | rfl | (simp; done) | (simp; omega)), H⟩
                  ·
                    replace F := ite_n hp4 F
                    have hq4 : r1.2.1 = false := raw_f hp4
                    refine CW.condF rfl hq4 ?_
                    replace H := H.pickR (C := [.mp b_a0_has (encMap ekBlock ekI r1.2.2.1), .mp b_a0_passed (encMap ekLink ekI r1.2.2.2.1), .mp b_a2 (encMap ekBlock ekBl r1.2.2.2.2), .own A166_0 c166_0 101 4 (List.map encLink r1.1), .blk b1 98 [.slice A_a0_bog_worth a0.bog.worth.length c_a0_bog_worth, .map (some b_a0_has), .map (some b_a0_passed)], .blk b2 92 [.int .i64 a1.column, .int .i64 a1.row], .blk b4 92 [.int .i64 (a1.column + t8_1), .int .i64 (a1.row + 1)]]) (C' := [.mp b_a2 (encMap ekBlock ekBl r1.2.2.2.2), .mp b_a0_has (encMap ekBlock ekI r1.2.2.1), .mp b_a0_passed (encMap ekLink ekI r1.2.2.2.1), .blk b1 98 [.slice A_a0_bog_worth a0.bog.worth.length c_a0_bog_worth, .map (some b_a0_has), .map (some b_a0_passed)], .blk b2 92 [.int .i64 a1.column, .int .i64 a1.row]]) [2, 0, 1, 4, 5] (by decide) rfl
                    replace R0 := H.ext
                    refine CW.skip (jK399 _ _ ⟨_, ?_, ⟨r1.2.2.2.2, r1.2.2.1, r1.2.2.2.1, F, rfl, H⟩⟩)
                    exact ⟨rfl, rfl, rfl, rfl, rfl, rfl, trivial⟩
                ·
                  replace F := ite_n hp3 F
                  have hq3 : t87_1 = false := raw_f hp3
                  refine CW.condF rfl hq3 ?_
                  replace H := H.pickR (C := [.mp b_a2 (encMap ekBlock ekBl m7), .mp b_a0_has (encMap ekBlock ekI m8), .mp b_a0_passed (encMap ekLink ekI m9), .blk b1 98 [.slice A_a0_bog_worth a0.bog.worth.length c_a0_bog_worth, .map (some b_a0_has), .map (some b_a0_passed)], .blk b2 92 [.int .i64 a1.column, .int .i64 a1.row], .blk b4 92 [.int .i64 (a1.column + t8_1), .int .i64 (a1.row + 1)]]) (C' := [.mp b_a2 (encMap ekBlock ekBl m7), .mp b_a0_has (encMap ekBlock ekI m8), .mp b_a0_passed (encMap ekLink ekI m9), .blk b1 98 [.slice A_a0_bog_worth a0.bog.worth.length c_a0_bog_worth, .map (some b_a0_has), .map (some b_a0_passed)], .blk b2 92 [.int .i64 a1.column, .int .i64 a1.row]]) [0, 1, 2, 3, 4] (by decide) rfl
                  replace R0 := H.ext
                  refine CW.skip (jK399 _ _ ⟨_, ?_, ⟨m7, m8, m9, F, rfl, H⟩⟩)
                  exact ⟨rfl, rfl, rfl, rfl, rfl, rfl, trivial⟩
              ·
                intro K17 hK17 jK409
                by_cases hp5 : (0 : Int) < ((mget eqLink m9 ((⟨(⟨a1.column + t8_1, a1.row + 1⟩ : Block), (⟨a1.column, a1.row⟩ : Block)⟩ : Link))).getD 0)
                ·
                  replace F := ite_y hp5 F
                  have hq5 := dec_t hp5
                  refine CW.region ?_
                  refine LW.pure rfl rfl (RV.fieldAddr Tf98_2 rfl) ?_
                  refine LW.pure rfl rfl (RV.load1 Tk96 rfl ((H.blk 4 rfl).cells.off 2) rfl) ?_
                  refine LW.pure rfl rfl (RV.loadA [.int .i64 (a1.column + t8_1), .int .i64 (a1.row + 1)] Tk92 rfl (H.blk 0 rfl).cells rfl rfl) ?_
                  refine LW.pure rfl rfl (RV.loadA [.int .i64 a1.column, .int .i64 a1.row] Tk92 rfl (H.blk 5 rfl).cells rfl rfl) ?_
                  refine LW.pure rfl rfl (RV.build (vs := [.agg #[.int .i64 (a1.column + t8_1), .int .i64 (a1.row + 1)], .agg #[.int .i64 a1.column, .int .i64 a1.row]]) (cs := [.int .i64 (a1.column + t8_1), .int .i64 (a1.row + 1), .int .i64 a1.column, .int .i64 a1.row]) rfl (fun _ => by kernel_rfl)) ?_
                  refine LW.pure rfl rfl (RV.lookupM (ek := ekLink) (ev' := ekI) (eq := eqLink) (m := m9) ((⟨(⟨a1.column + t8_1, a1.row + 1⟩ : Block), (⟨a1.column, a1.row⟩ : Block)⟩ : Link)) 0 KO101 Tm96 Tz3 rfl rfl (H.mp 3 rfl)) ?_
                  refine LW.pure rfl rfl (RV.gtr rfl rfl) ?_
                  refine LW.pure rfl rfl (RV.move rfl) ?_
                  refine LW.pureYB rfl rfl rfl rfl hq5 (RV.move rfl) ?_
                  refine LW.pureYB rfl rfl rfl rfl hq5 (RV.loadA [.int .i64 (a1.column + t8_1), .int .i64 (a1.row + 1)] Tk92 rfl (H.blk 0 rfl).cells rfl rfl) ?_
                  refine LW.pureYB rfl rfl rfl rfl hq5 (RV.lookupM (ek := ekBlock) (ev' := ekBl) (eq := eqBlock) (m := m7) ((⟨a1.column + t8_1, a1.row + 1⟩ : Block)) false KO92 Tm109 Tz4 rfl rfl (H.mp 1 rfl)) ?_
                  refine LW.pureYB rfl rfl rfl rfl hq5 (RV.not rfl) ?_
                  refine LW.pure rfl rfl (RV.pickTB rfl hq5 rfl) ?_
                  replace H := H.pickR (C := [.blk b4 92 [.int .i64 (a1.column + t8_1), .int .i64 (a1.row + 1)], .mp b_a2 (encMap ekBlock ekBl m7), .mp b_a0_has (encMap ekBlock ekI m8), .mp b_a0_passed (encMap ekLink ekI m9), .blk b1 98 [.slice A_a0_bog_worth a0.bog.worth.length c_a0_bog_worth, .map (some b_a0_has), .map (some b_a0_passed)], .blk b2 92 [.int .i64 a1.column, .int .i64 a1.row]]) (C' := [.mp b_a2 (encMap ekBlock ekBl m7), .mp b_a0_has (encMap ekBlock ekI m8), .mp b_a0_passed (encMap ekLink ekI m9), .blk b1 98 [.slice A_a0_bog_worth a0.bog.worth.length c_a0_bog_worth, .map (some b_a0_has), .map (some b_a0_passed)], .blk b2 92 [.int .i64 a1.column, .int .i64 a1.row], .blk b4 92 [.int .i64 (a1.column + t8_1), .int .i64 (a1.row + 1)]]) [1, 2, 3, 4, 5, 0] (by decide) rfl
                  replace R0 := H.ext
                  refine LW.nil (jK409 _ _ ⟨_, ?_, ⟨(!((mget eqBlock m7 ((⟨a1.column + t8_1, a1.row + 1⟩ : Block))).getD false)), F, rfl, H⟩⟩)
                  exact ⟨rfl, rfl, rfl, rfl, rfl, rfl, rfl, rfl, trivial⟩
                ·
                  replace F := ite_n hp5 F
                  have hq5 := dec_f hp5
                  refine CW.region ?_
                  refine LW.pure rfl rfl (RV.fieldAddr Tf98_2 rfl) ?_
                  refine LW.pure rfl rfl (RV.load1 Tk96 rfl ((H.blk 4 rfl).cells.off 2) rfl) ?_
                  refine LW.pure rfl rfl (RV.loadA [.int .i64 (a1.column + t8_1), .int .i64 (a1.row + 1)] Tk92 rfl (H.blk 0 rfl).cells rfl rfl) ?_
                  refine LW.pure rfl rfl (RV.loadA [.int .i64 a1.column, .int .i64 a1.row] Tk92 rfl (H.blk 5 rfl).cells rfl rfl) ?_
                  refine LW.pure rfl rfl (RV.build (vs := [.agg #[.int .i64 (a1.column + t8_1), .int .i64 (a1.row + 1)], .agg #[.int .i64 a1.column, .int .i64 a1.row]]) (cs := [.int .i64 (a1.column + t8_1), .int .i64 (a1.row + 1), .int .i64 a1.column, .int .i64 a1.row]) rfl (fun _ => by kernel_rfl)) ?_
                  refine LW.pure rfl rfl (RV.lookupM (ek := ekLink) (ev' := ekI) (eq := eqLink) (m := m9) ((⟨(⟨a1.column + t8_1, a1.row + 1⟩ : Block), (⟨a1.column, a1.row⟩ : Block)⟩ : Link)) 0 KO101 Tm96 Tz3 rfl rfl (H.mp 3 rfl)) ?_
                  refine LW.pure rfl rfl (RV.gtr rfl rfl) ?_
                  refine LW.pure rfl rfl (RV.move rfl) ?_
                  refine LW.noB rfl rfl rfl rfl (ne_beq (v := false) hq5 rfl) ?_
                  refine LW.noB rfl rfl rfl rfl (ne_beq (v := false) hq5 rfl) ?_
                  refine LW.noB rfl rfl rfl rfl (ne_beq (v := false) hq5 rfl) ?_
                  refine LW.noB rfl rfl rfl rfl (ne_beq (v := false) hq5 rfl) ?_
                  refine LW.pure rfl rfl (RV.pickFB rfl hq5 rfl) ?_
                  replace H := H.pickR (C := [.blk b4 92 [.int .i64 (a1.column + t8_1), .int .i64 (a1.row + 1)], .mp b_a2 (encMap ekBlock ekBl m7), .mp b_a0_has (encMap ekBlock ekI m8), .mp b_a0_passed (encMap ekLink ekI m9), .blk b1 98 [.slice A_a0_bog_worth a0.bog.worth.length c_a0_bog_worth, .map (some b_a0_has), .map (some b_a0_passed)], .blk b2 92 [.int .i64 a1.column, .int .i64 a1.row]]) (C' := [.mp b_a2 (encMap ekBlock ekBl m7), .mp b_a0_has (encMap ekBlock ekI m8), .mp b_a0_passed (encMap ekLink ekI m9), .blk b1 98 [.slice A_a0_bog_worth a0.bog.worth.length c_a0_bog_worth, .map (some b_a0_has), .map (some b_a0_passed)], .blk b2 92 [.int .i64 a1.column, .int .i64 a1.row], .blk b4 92 [.int .i64 (a1.column + t8_1), .int .i64 (a1.row + 1)]]) [1, 2, 3, 4, 5, 0] (by decide) rfl
                  replace R0 := H.ext
                  refine LW.nil (jK409 _ _ ⟨_, ?_, ⟨false, F, rfl, H⟩⟩)
                  exact ⟨rfl, rfl, rfl, rfl, rfl, rfl, rfl, rfl, trivial⟩
            ·
              intro K18 hK18 jK410
              refine CW.seqJ (fun ρ wl6 => (∃ (t52_1 : Bool), cut_payer_way_k5 a0 a1 recf t8_1 m10 m11 m12 rec1 t52_1 = some res ∧ ρ = [(2, .map (some b_a2)), (3, .pointer (some (⟨b1, 0, none⟩))), (4, .pointer (some (⟨b2, 0, none⟩))), (6, .slice none 0 0), (7, .bool false), (8, .int .i64 t8_1), (9, .pointer (some (⟨b3, 0, none⟩))), (52, .bool t52_1)] ∧ Hp wb wl6 ([.mp b_a2 (encMap ekBlock ekBl m10), .mp b_a0_has (encMap ekBlock ekI m11), .mp b_a0_passed (encMap ekLink ekI m12), .blk b1 98 [.slice A_a0_bog_worth a0.bog.worth.length c_a0_bog_worth, .map (some b_a0_has), .map (some b_a0_passed)], .blk b2 92 [.int .i64 a1.column, .int .i64 a1.row], .blk b3 92 [.int .i64 (a1.column + t8_1), .int .i64 (a1.row - 1)]] ++ R))) ?_ ?_
              ·
                rintro _ wl6 ⟨t52_1, F, rfl, H⟩
                have R0 := H.ext
                unfold cut_payer_way_k5 at F
                by_cases hp6 : t52_1 = true
                ·
                  replace F := ite_y hp6 F
                  have hq6 : t52_1 = true := hp6
                  refine CW.condT rfl hq6 ?_
                  refine CW.seq fun K19 hK19 => ?_
                  obtain ⟨r2, hr2, F⟩ := bnd_some F
                  refine CW.region ?_
                  refine LW.pure rfl rfl (RV.loadA [.slice A_a0_bog_worth a0.bog.worth.length c_a0_bog_worth, .map (some b_a0_has), .map (some b_a0_passed)] Tk98 rfl (H.blk 3 rfl).cells rfl rfl) ?_
                  refine LW.pure rfl rfl (RV.loadA [.int .i64 (a1.column + t8_1), .int .i64 (a1.row - 1)] Tk92 rfl (H.blk 5 rfl).cells rfl rfl) ?_
                  refine LW.pure rfl rfl (RV.move rfl) ?_
                  replace H := H.pickR (C := [.mp b_a2 (encMap ekBlock ekBl m10), .mp b_a0_has (encMap ekBlock ekI m11), .mp b_a0_passed (encMap ekLink ekI m12), .blk b1 98 [.slice A_a0_bog_worth a0.bog.worth.length c_a0_bog_worth, .map (some b_a0_has), .map (some b_a0_passed)], .blk b2 92 [.int .i64 a1.column, .int .i64 a1.row], .blk b3 92 [.int .i64 (a1.column + t8_1), .int .i64 (a1.row - 1)]]) (C' := [.mp b_a0_has (encMap ekBlock ekI m11), .mp b_a0_passed (encMap ekLink ekI m12), .mp b_a2 (encMap ekBlock ekBl m10), .blk b1 98 [.slice A_a0_bog_worth a0.bog.worth.length c_a0_bog_worth, .map (some b_a0_has), .map (some b_a0_passed)], .blk b2 92 [.int .i64 a1.column, .int .i64 a1.row], .blk b3 92 [.int .i64 (a1.column + t8_1), .int .i64 (a1.row - 1)]]) [1, 2, 0, 3, 4, 5] (by decide) rfl
                  replace R0 := H.ext
                  refine LW.go rfl rfl (OW.call Tc100 rfl (ih (a0 := (⟨a0.bog, m11, m12⟩ : Payer)) (a1 := (⟨a1.column + t8_1, a1.row - 1⟩ : Block)) (a2 := m10) (R := [.blk b1 98 [.slice A_a0_bog_worth a0.bog.worth.length c_a0_bog_worth, .map (some b_a0_has), .map (some b_a0_passed)], .blk b2 92 [.int .i64 a1.column, .int .i64 a1.row], .blk b3 92 [.int .i64 (a1.column + t8_1), .int .i64 (a1.row - 1)]] ++ R) h_a0_bog_worth H hr2) ?_)
                  rintro _ w11 ⟨A169_0, c169_0, rfl, Hq2⟩
                  refine ⟨_, rfl, ?_⟩
                  replace H : Hp wb w11 ([.mp b_a0_has (encMap ekBlock ekI r2.2.2.1), .mp b_a0_passed (encMap ekLink ekI r2.2.2.2.1), .mp b_a2 (encMap ekBlock ekBl r2.2.2.2.2), .own A169_0 c169_0 101 4 (List.map encLink r2.1), .blk b1 98 [.slice A_a0_bog_worth a0.bog.worth.length c_a0_bog_worth, .map (some b_a0_has), .map (some b_a0_passed)], .blk b2 92 [.int .i64 a1.column, .int .i64 a1.row], .blk b3 92 [.int .i64 (a1.column + t8_1), .int .i64 (a1.row - 1)]] ++ R) := Hq2
                  replace R0 := H.ext
                  refine LW.pure rfl rfl (RV.move rfl) ?_
                  refine LW.pure rfl rfl (RV.extract rfl rfl) ?_
                  refine LW.pure rfl rfl (RV.extract rfl rfl) ?_
                  refine LW.pure rfl rfl (RV.assign rfl) ?_
                  refine LW.pure rfl rfl (RV.assign rfl) ?_
                  refine LW.nil (hK19 _ _ ?_)
                  refine CW.seq fun K20 hK20 => ?_
                  refine CW.region ?_
                  refine LW.pure rfl rfl (RV.move rfl) ?_
                  refine LW.nil (hK20 _ _ ?_)
                  by_cases hp7 : r2.2.1 = true
                  ·
                    replace F := ite_y hp7 F
                    have hq7 : r2.2.1 = true := hp7
                    refine CW.condT rfl hq7 ?_
                    refine CW.seq fun K21 hK21 => ?_
                    obtain ⟨hg7, F⟩ := gd_some F
                    refine CW.region ?_
                    refine LW.pure rfl rfl (RV.loadA [.int .i64 a1.column, .int .i64 a1.row] Tk92 rfl (H.blk 5 rfl).cells rfl rfl) ?_
                    refine LW.pure rfl rfl (RV.loadA [.int .i64 (a1.column + t8_1), .int .i64 (a1.row - 1)] Tk92 rfl (H.blk 6 rfl).cells rfl rfl) ?_
                    refine LW.pure rfl rfl (RV.build (vs := [.agg #[.int .i64 a1.column, .int .i64 a1.row], .agg #[.int .i64 (a1.column + t8_1), .int .i64 (a1.row - 1)]]) (cs := [.int .i64 a1.column, .int .i64 a1.row, .int .i64 (a1.column + t8_1), .int .i64 (a1.row - 1)]) rfl (fun _ => by kernel_rfl)) ?_
                    refine LW.go rfl rfl (OW.buildSlice (e := 101) (vs := [.agg #[.int .i64 a1.column, .int .i64 a1.row, .int .i64 (a1.column + t8_1), .int .i64 (a1.row - 1)]]) (cs := [.int .i64 a1.column, .int .i64 a1.row, .int .i64 (a1.column + t8_1), .int .i64 (a1.row - 1)]) rfl (fun _ => by kernel_rfl) fun b6 w12 N6 => ?_)
                    replace H := H.made' (k := 4) (t := 101) (enc := encLink) (l := ([(⟨a1, (⟨a1.column + t8_1, a1.row - 1⟩ : Block)⟩ : Link)] : List Link)) N6 N6.blk (fun _ => rfl) rfl (by first | decide | omega | (simp; done) | (simp; omega))
                    replace R0 := H.ext
                    refine LW.pure rfl rfl (RV.move rfl) ?_
                    refine LW.go rfl rfl (OW.appendG (enc := encLink) (l := ([(⟨a1, (⟨a1.column + t8_1, a1.row - 1⟩ : Block)⟩ : Link)] : List Link)) (xs := r2.1) Ts106 (look_slice rfl (by first | rfl | (simp; done) | (simp; omega))) rfl (H.own 0 rfl) (H.own 4 rfl).sl (fun _ => rfl) rfl rfl hg7 (by decide) fun A2 c2 w13 O3 M3 D2 => ?_)
                    replace H : Hp wb w13 ([.own A2 c2 101 4 (List.map encLink ((([(⟨a1, (⟨a1.column + t8_1, a1.row - 1⟩ : Block)⟩ : Link)] : List Link) ++ r2.1))), .mp b_a0_has (encMap ekBlock ekI r2.2.2.1), .mp b_a0_passed (encMap ekLink ekI r2.2.2.2.1), .mp b_a2 (encMap ekBlock ekBl r2.2.2.2.2), .own A169_0 c169_0 101 4 (List.map encLink r2.1), .blk b1 98 [.slice A_a0_bog_worth a0.bog.worth.length c_a0_bog_worth, .map (some b_a0_has), .map (some b_a0_passed)], .blk b2 92 [.int .i64 a1.column, .int .i64 a1.row], .blk b3 92 [.int .i64 (a1.column + t8_1), .int .i64 (a1.row - 1)]] ++ R) := H.mod 0 rfl M3 O3 D2
                    replace R0 := H.ext
                    refine LW.pure rfl rfl (RV.assign rfl) ?_
                    refine LW.pure rfl rfl (RV.assign rfl) ?_
                    refine LW.nil (hK21 _ _ ?_)
                    refine CW.ret ?_
                    obtain rfl := Option.some.inj F
                    refine ⟨_, (ResOK.two rfl rfl), ?_⟩
                    replace H := H.pickR (C := [.own A2 c2 101 4 (List.map encLink ((([(⟨a1, (⟨a1.column + t8_1, a1.row - 1⟩ : Block)⟩ : Link)] : List Link) ++ r2.1))), .mp b_a0_has (encMap ekBlock ekI r2.2.2.1), .mp b_a0_passed (encMap ekLink ekI r2.2.2.2.1), .mp b_a2 (encMap ekBlock ekBl r2.2.2.2.2), .own A169_0 c169_0 101 4 (List.map encLink r2.1), .blk b1 98 [.slice A_a0_bog_worth a0.bog.worth.length c_a0_bog_worth, .map (some b_a0_has), .map (some b_a0_passed)], .blk b2 92 [.int .i64 a1.column, .int .i64 a1.row], .blk b3 92 [.int .i64 (a1.column + t8_1), .int .i64 (a1.row - 1)]]) (C' := [.mp b_a0_has (encMap ekBlock ekI r2.2.2.1), .mp b_a0_passed (encMap ekLink ekI r2.2.2.2.1), .mp b_a2 (encMap ekBlock ekBl r2.2.2.2.2), .own A2 c2 101 4 (List.map encLink ((([(⟨a1, (⟨a1.column + t8_1, a1.row - 1⟩ : Block)⟩ : Link)] : List Link) ++ r2.1)))]) [1, 2, 3, 0] (by decide) rfl
                    replace R0 := H.ext
                    exact ⟨A2, c2, (by first | rfl | (simp; done) | (simp; omega)), H⟩
                  ·
                    replace F := ite_n hp7 F
                    have hq7 : r2.2.1 = false := raw_f hp7
                    refine CW.condF rfl hq7 ?_
                    replace H := H.pickR (C := [.mp b_a0_has (encMap ekBlock ekI r2.2.2.1), .mp b_a0_passed (encMap ekLink ekI r2.2.2.2.1), .mp b_a2 (encMap ekBlock ekBl r2.2.2.2.2), .own A169_0 c169_0 101 4 (List.map encLink r2.1), .blk b1 98 [.slice A_a0_bog_worth a0.bog.worth.length c_a0_bog_worth, .map (some b_a0_has), .map (some b_a0_passed)], .blk b2 92 [.int .i64 a1.column, .int .i64 a1.row], .blk b3 92 [.int .i64 (a1.column + t8_1), .int .i64 (a1.row - 1)]]) (C' := [.mp b_a2 (encMap ekBlock ekBl r2.2.2.2.2), .mp b_a0_has (encMap ekBlock ekI r2.2.2.1), .mp b_a0_passed (encMap ekLink ekI r2.2.2.2.1), .blk b1 98 [.slice A_a0_bog_worth a0.bog.worth.length c_a0_bog_worth, .map (some b_a0_has), .map (some b_a0_passed)], .blk b2 92 [.int .i64 a1.column, .int .i64 a1.row]]) [2, 0, 1, 4, 5] (by decide) rfl
                    replace R0 := H.ext
                    refine CW.skip (jK410 _ _ ⟨_, ?_, ⟨r2.2.2.2.2, r2.2.2.1, r2.2.2.2.1, F, rfl, H⟩⟩)
                    exact ⟨rfl, rfl, rfl, rfl, rfl, rfl, trivial⟩
                ·
                  replace F := ite_n hp6 F
                  have hq6 : t52_1 = false := raw_f hp6
                  refine CW.condF rfl hq6 ?_
                  replace H := H.pickR (C := [.mp b_a2 (encMap ekBlock ekBl m10), .mp b_a0_has (encMap ekBlock ekI m11), .mp b_a0_passed (encMap ekLink ekI m12), .blk b1 98 [.slice A_a0_bog_worth a0.bog.worth.length c_a0_bog_worth, .map (some b_a0_has), .map (some b_a0_passed)], .blk b2 92 [.int .i64 a1.column, .int .i64 a1.row], .blk b3 92 [.int .i64 (a1.column + t8_1), .int .i64 (a1.row - 1)]]) (C' := [.mp b_a2 (encMap ekBlock ekBl m10), .mp b_a0_has (encMap ekBlock ekI m11), .mp b_a0_passed (encMap ekLink ekI m12), .blk b1 98 [.slice A_a0_bog_worth a0.bog.worth.length c_a0_bog_worth, .map (some b_a0_has), .map (some b_a0_passed)], .blk b2 92 [.int .i64 a1.column, .int .i64 a1.row]]) [0, 1, 2, 3, 4] (by decide) rfl
                  replace R0 := H.ext
                  refine CW.skip (jK410 _ _ ⟨_, ?_, ⟨m10, m11, m12, F, rfl, H⟩⟩)
                  exact ⟨rfl, rfl, rfl, rfl, rfl, rfl, trivial⟩
              ·
                intro K22 hK22 jK414
                by_cases hp8 : (0 : Int) ≤ (a1.row - 1)
                ·
                  replace F := ite_y hp8 F
                  have hq8 := dec_t hp8
                  obtain ⟨hg8, F⟩ := gd_some F
                  obtain ⟨r3, hr3, F⟩ := bnd_some F
                  by_cases hp9 : r3 = true
                  ·
                    replace F := ite_y hp9 F
                    have hq9 : r3 = true := hp9
                    refine CW.region ?_
                    refine LW.pure rfl rfl (RV.fieldAddr Tf92_1 rfl) ?_
                    refine LW.pure rfl rfl (RV.load1 Tk3 rfl ((H.blk 0 rfl).cells.off 1) rfl) ?_
                    refine LW.pure rfl rfl (RV.geq rfl rfl) ?_
                    refine LW.pure rfl rfl (RV.move rfl) ?_
                    refine LW.pureYB rfl rfl rfl rfl hq8 (RV.fieldAddr Tf92_0 rfl) ?_
                    refine LW.pureYB rfl rfl rfl rfl hq8 (RV.load1 Tk3 rfl ((H.blk 0 rfl).cells.off 0) rfl) ?_
                    refine LW.pureYB rfl rfl rfl rfl hq8 (RV.fieldAddr Tf98_0 rfl) ?_
                    refine LW.pureYB rfl rfl rfl rfl hq8 (RV.fieldAddr Tf24_0 rfl) ?_
                    refine LW.pureYB rfl rfl rfl rfl hq8 (RV.load1 Tk22 rfl (((H.blk 4 rfl).cells.off 0).off 0) rfl) ?_
                    refine LW.pureYB rfl rfl rfl rfl hq8 (RV.len Ts22 rfl) ?_
                    refine LW.pureYB rfl rfl rfl rfl hq8 (RV.sub rfl rfl hg8) ?_
                    refine LW.yesB rfl rfl rfl rfl hq8 (OW.call Tc67 rfl (cut_from_ok (a0 := a1.column + t8_1) (a1 := (0 : Int)) (a2 := ((a0.bog.worth.length : Int)) - 1) hr3) ?_)
                    rintro _ w14 ⟨rfl, E1⟩
                    refine ⟨_, rfl, ?_⟩
                    replace H := H.grow E1
                    replace R0 := H.ext
                    refine LW.pure rfl rfl (RV.pickTB rfl hq8 rfl) ?_
                    refine LW.pure rfl rfl (RV.move rfl) ?_
                    refine LW.pureYB rfl rfl rfl rfl hq9 (RV.move rfl) ?_
                    refine LW.pureYB rfl rfl rfl rfl hq9 (RV.loadA [.int .i64 (a1.column + t8_1), .int .i64 (a1.row - 1)] Tk92 rfl (H.blk 0 rfl).cells rfl rfl) ?_
                    refine LW.pureYB rfl rfl rfl rfl hq9 (RV.lookupM (ek := ekBlock) (ev' := ekBl) (eq := eqBlock) (m := m10) ((⟨a1.column + t8_1, a1.row - 1⟩ : Block)) false KO92 Tm109 Tz4 rfl rfl (H.mp 1 rfl)) ?_
                    refine LW.pureYB rfl rfl rfl rfl hq9 (RV.not rfl) ?_
                    refine LW.pure rfl rfl (RV.pickTB rfl hq9 rfl) ?_
                    replace H := H.pickR (C := [.blk b3 92 [.int .i64 (a1.column + t8_1), .int .i64 (a1.row - 1)], .mp b_a2 (encMap ekBlock ekBl m10), .mp b_a0_has (encMap ekBlock ekI m11), .mp b_a0_passed (encMap ekLink ekI m12), .blk b1 98 [.slice A_a0_bog_worth a0.bog.worth.length c_a0_bog_worth, .map (some b_a0_has), .map (some b_a0_passed)], .blk b2 92 [.int .i64 a1.column, .int .i64 a1.row]]) (C' := [.mp b_a2 (encMap ekBlock ekBl m10), .mp b_a0_has (encMap ekBlock ekI m11), .mp b_a0_passed (encMap ekLink ekI m12), .blk b1 98 [.slice A_a0_bog_worth a0.bog.worth.length c_a0_bog_worth, .map (some b_a0_has), .map (some b_a0_passed)], .blk b2 92 [.int .i64 a1.column, .int .i64 a1.row], .blk b3 92 [.int .i64 (a1.column + t8_1), .int .i64 (a1.row - 1)]]) [1, 2, 3, 4, 5, 0] (by decide) rfl
                    replace R0 := H.ext
                    refine LW.nil (jK414 _ _ ⟨_, ?_, ⟨(!((mget eqBlock m10 ((⟨a1.column + t8_1, a1.row - 1⟩ : Block))).getD false)), F, rfl, H⟩⟩)
                    exact ⟨rfl, rfl, rfl, rfl, rfl, rfl, rfl, rfl, trivial⟩
                  ·
                    replace F := ite_n hp9 F
                    have hq9 : r3 = false := raw_f hp9
                    refine CW.region ?_
                    refine LW.pure rfl rfl (RV.fieldAddr Tf92_1 rfl) ?_
                    refine LW.pure rfl rfl (RV.load1 Tk3 rfl ((H.blk 0 rfl).cells.off 1) rfl) ?_
                    refine LW.pure rfl rfl (RV.geq rfl rfl) ?_
                    refine LW.pure rfl rfl (RV.move rfl) ?_
                    refine LW.pureYB rfl rfl rfl rfl hq8 (RV.fieldAddr Tf92_0 rfl) ?_
                    refine LW.pureYB rfl rfl rfl rfl hq8 (RV.load1 Tk3 rfl ((H.blk 0 rfl).cells.off 0) rfl) ?_
                    refine LW.pureYB rfl rfl rfl rfl hq8 (RV.fieldAddr Tf98_0 rfl) ?_
                    refine LW.pureYB rfl rfl rfl rfl hq8 (RV.fieldAddr Tf24_0 rfl) ?_
                    refine LW.pureYB rfl rfl rfl rfl hq8 (RV.load1 Tk22 rfl (((H.blk 4 rfl).cells.off 0).off 0) rfl) ?_
                    refine LW.pureYB rfl rfl rfl rfl hq8 (RV.len Ts22 rfl) ?_
                    refine LW.pureYB rfl rfl rfl rfl hq8 (RV.sub rfl rfl hg8) ?_
                    refine LW.yesB rfl rfl rfl rfl hq8 (OW.call Tc67 rfl (cut_from_ok (a0 := a1.column + t8_1) (a1 := (0 : Int)) (a2 := ((a0.bog.worth.length : Int)) - 1) hr3) ?_)
                    rintro _ w15 ⟨rfl, E2⟩
                    refine ⟨_, rfl, ?_⟩
                    replace H := H.grow E2
                    replace R0 := H.ext
                    refine LW.pure rfl rfl (RV.pickTB rfl hq8 rfl) ?_
                    refine LW.pure rfl rfl (RV.move rfl) ?_
                    refine LW.noB rfl rfl rfl rfl (ne_beq (v := false) hq9 rfl) ?_
                    refine LW.noB rfl rfl rfl rfl (ne_beq (v := false) hq9 rfl) ?_
                    refine LW.noB rfl rfl rfl rfl (ne_beq (v := false) hq9 rfl) ?_
                    refine LW.noB rfl rfl rfl rfl (ne_beq (v := false) hq9 rfl) ?_
                    refine LW.pure rfl rfl (RV.pickFB rfl hq9 rfl) ?_
                    replace H := H.pickR (C := [.blk b3 92 [.int .i64 (a1.column + t8_1), .int .i64 (a1.row - 1)], .mp b_a2 (encMap ekBlock ekBl m10), .mp b_a0_has (encMap ekBlock ekI m11), .mp b_a0_passed (encMap ekLink ekI m12), .blk b1 98 [.slice A_a0_bog_worth a0.bog.worth.length c_a0_bog_worth, .map (some b_a0_has), .map (some b_a0_passed)], .blk b2 92 [.int .i64 a1.column, .int .i64 a1.row]]) (C' := [.mp b_a2 (encMap ekBlock ekBl m10), .mp b_a0_has (encMap ekBlock ekI m11), .mp b_a0_passed (encMap ekLink ekI m12), .blk b1 98 [.slice A_a0_bog_worth a0.bog.worth.length c_a0_bog_worth, .map (some b_a0_has), .map (some b_a0_passed)], .blk b2 92 [.int .i64 a1.column, .int .i64 a1.row], .blk b3 92 [.int .i64 (a1.column + t8_1), .int .i64 (a1.row - 1)]]) [1, 2, 3, 4, 5, 0] (by decide) rfl
                    replace R0 := H.ext
                    refine LW.nil (jK414 _ _ ⟨_, ?_, ⟨false, F, rfl, H⟩⟩)
                    exact ⟨rfl, rfl, rfl, rfl, rfl, rfl, rfl, rfl, trivial⟩
                ·
                  replace F := ite_n hp8 F
                  have hq8 := dec_f hp8
                  refine CW.region ?_
                  refine LW.pure rfl rfl (RV.fieldAddr Tf92_1 rfl) ?_
                  refine LW.pure rfl rfl (RV.load1 Tk3 rfl ((H.blk 0 rfl).cells.off 1) rfl) ?_
                  refine LW.pure rfl rfl (RV.geq rfl rfl) ?_
                  refine LW.pure rfl rfl (RV.move rfl) ?_
                  refine LW.noB rfl rfl rfl rfl (ne_beq (v := false) hq8 rfl) ?_
                  refine LW.noB rfl rfl rfl rfl (ne_beq (v := false) hq8 rfl) ?_
                  refine LW.noB rfl rfl rfl rfl (ne_beq (v := false) hq8 rfl) ?_
                  refine LW.noB rfl rfl rfl rfl (ne_beq (v := false) hq8 rfl) ?_
                  refine LW.noB rfl rfl rfl rfl (ne_beq (v := false) hq8 rfl) ?_
                  refine LW.noB rfl rfl rfl rfl (ne_beq (v := false) hq8 rfl) ?_
                  refine LW.noB rfl rfl rfl rfl (ne_beq (v := false) hq8 rfl) ?_
                  refine LW.noB rfl rfl rfl rfl (ne_beq (v := false) hq8 rfl) ?_
                  refine LW.pure rfl rfl (RV.pickFB rfl hq8 rfl) ?_
                  refine LW.pure rfl rfl (RV.move rfl) ?_
                  refine LW.noB rfl rfl rfl rfl (ne_beq (v := false) rfl rfl) ?_
                  refine LW.noB rfl rfl rfl rfl (ne_beq (v := false) rfl rfl) ?_
                  refine LW.noB rfl rfl rfl rfl (ne_beq (v := false) rfl rfl) ?_
                  refine LW.noB rfl rfl rfl rfl (ne_beq (v := false) rfl rfl) ?_
                  refine LW.pure rfl rfl (RV.pickFB rfl rfl rfl) ?_
                  replace H := H.pickR (C := [.blk b3 92 [.int .i64 (a1.column + t8_1), .int .i64 (a1.row - 1)], .mp b_a2 (encMap ekBlock ekBl m10), .mp b_a0_has (encMap ekBlock ekI m11), .mp b_a0_passed (encMap ekLink ekI m12), .blk b1 98 [.slice A_a0_bog_worth a0.bog.worth.length c_a0_bog_worth, .map (some b_a0_has), .map (some b_a0_passed)], .blk b2 92 [.int .i64 a1.column, .int .i64 a1.row]]) (C' := [.mp b_a2 (encMap ekBlock ekBl m10), .mp b_a0_has (encMap ekBlock ekI m11), .mp b_a0_passed (encMap ekLink ekI m12), .blk b1 98 [.slice A_a0_bog_worth a0.bog.worth.length c_a0_bog_worth, .map (some b_a0_has), .map (some b_a0_passed)], .blk b2 92 [.int .i64 a1.column, .int .i64 a1.row], .blk b3 92 [.int .i64 (a1.column + t8_1), .int .i64 (a1.row - 1)]]) [1, 2, 3, 4, 5, 0] (by decide) rfl
                  replace R0 := H.ext
                  refine LW.nil (jK414 _ _ ⟨_, ?_, ⟨false, F, rfl, H⟩⟩)
                  exact ⟨rfl, rfl, rfl, rfl, rfl, rfl, rfl, rfl, trivial⟩
        ·
          replace F := ite_n hp2 F
          have hq2 := dec_f hp2
          refine CW.condF rfl hq2 ?_
          replace H := H.pickR (C := [.mp b_a2 (encMap ekBlock ekBl m10), .mp b_a0_has (encMap ekBlock ekI m11), .mp b_a0_passed (encMap ekLink ekI m12), .blk b1 98 [.slice A_a0_bog_worth a0.bog.worth.length c_a0_bog_worth, .map (some b_a0_has), .map (some b_a0_passed)], .blk b2 92 [.int .i64 a1.column, .int .i64 a1.row]]) (C' := [.mp b_a0_has (encMap ekBlock ekI m11), .mp b_a0_passed (encMap ekLink ekI m12), .mp b_a2 (encMap ekBlock ekBl m10)]) [1, 2, 0] (by decide) rfl
          replace R0 := H.ext
          refine CW.exit (jK314 _ _ ⟨_, ?_, ⟨m11, m12, m10, F, rfl, H⟩⟩)
          exact ⟨rfl, rfl, trivial⟩
theorem cut_payer_way_ok {a0 : Payer} {a1 : Block} {a2 : List (Block × Bool)} {A_a0_bog_worth : Option Addr} {c_a0_bog_worth : Nat} {b_a0_has : Nat} {b_a0_passed : Nat} {b_a2 : Nat} {wb : World} {R : List Ck} {w : World} {res : (List Link) × Bool × (List (Block × Int)) × (List (Link × Int)) × (List (Block × Bool))} (h_a0_bog_worth : Sl2 wb A_a0_bog_worth c_a0_bog_worth 1 encN a0.bog.worth) (H : Hp wb w ([.mp b_a0_has (encMap ekBlock ekI a0.has), .mp b_a0_passed (encMap ekLink ekI a0.passed), .mp b_a2 (encMap ekBlock ekBl a2)] ++ R)) (F : cut_payer_way a0 a1 a2 = some res) : Calls Try.prog 100 #[.agg #[.slice A_a0_bog_worth a0.bog.worth.length c_a0_bog_worth, .map (some b_a0_has), .map (some b_a0_passed)], .agg #[.int .i64 a1.column, .int .i64 a1.row], .map (some b_a2)] w (fun e w' => ∃ (A0 : Option Addr) (c0 : Nat), e = .returned (.tuple #[.slice A0 res.1.length c0, .bool res.2.1]) ∧ Hp wb w' ([.mp b_a0_has (encMap ekBlock ekI res.2.2.1), .mp b_a0_passed (encMap ekLink ekI res.2.2.2.1), .mp b_a2 (encMap ekBlock ekBl res.2.2.2.2), .own A0 c0 101 4 (List.map encLink res.1)] ++ R)) := cut_payer_way_F_ok FU h_a0_bog_worth H F
end Go.D4
