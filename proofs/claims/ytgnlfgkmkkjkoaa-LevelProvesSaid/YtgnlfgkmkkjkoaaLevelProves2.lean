/- Lemmas and walks that the proof of this claim uses: D1m2, D1m3. -/
import Derived.Test.YtgnlfgkmkkjkoaaLevelProves1
set_option linter.unusedVariables false
set_option linter.unusedSimpArgs false
namespace Go.D1
open Go.Tb Go.Proofs Go.RowKit
theorem Ta113 : tyA Try.prog 113 = some (3, 2, 1) := by kernel_rfl
theorem Ta114 : tyA Try.prog 114 = some (113, 2, 2) := by kernel_rfl
theorem Tc102 : callable Try.prog 102 = true := by kernel_rfl
theorem Tc109 : callable Try.prog 109 = true := by kernel_rfl
theorem Tc110 : callable Try.prog 110 = true := by kernel_rfl
theorem Tc62 : callable Try.prog 62 = true := by kernel_rfl
theorem Tc94 : callable Try.prog 94 = true := by kernel_rfl
theorem Tf28_0 : tyF Try.prog 28 0 = some 0 := by kernel_rfl
theorem Tk113 : tyK Try.prog 113 = some (true, 2) := by kernel_rfl
theorem Tk24 : tyK Try.prog 24 = some (true, 2) := by kernel_rfl
theorem Tk53 : tyK Try.prog 53 = some (false, 1) := by kernel_rfl
theorem Ts101 : tyS Try.prog 101 = some (53, 1, 24, [.slice none 0 0]) := by kernel_rfl
theorem Ts36 : tyS Try.prog 36 = some (39, 1, 24, [.slice none 0 0]) := by kernel_rfl
theorem Ts53 : tyS Try.prog 53 = some (28, 2, 16, [.int .i64 0, .int .i64 0]) := by kernel_rfl
theorem Tu115 : Try.prog.underlying 115 = some (.int .u64) := by kernel_rfl
theorem Tu115s : (Try.prog.underlying 115).isSome = true := by kernel_rfl
theorem Tu3 : Try.prog.underlying 3 = some (.int .i64) := by kernel_rfl
theorem Tu3s : (Try.prog.underlying 3).isSome = true := by kernel_rfl
theorem Tz113 : tyZ Try.prog 113 = some (.agg #[.int .i64 0, .int .i64 0]) := by kernel_rfl
theorem Tz53 : tyZ Try.prog 53 = some (.slice none 0 0) := by kernel_rfl
set_option maxRecDepth 20000 in
set_option maxHeartbeats 1000000 in
theorem level_parts_ok {a0 : Survey} {A_a0_readings : Option Addr} {c_a0_readings : Nat} {w : World} {res : (List (List Int))} (h_a0_readings : Sl w A_a0_readings c_a0_readings 4 (a0.readings.map encReading)) (F : level_parts a0 = some res) : Calls Try.prog 66 #[.agg #[.int .i64 a0.points, .slice A_a0_readings a0.readings.length c_a0_readings]] w (fun e w' => ∃ (A1 : Option Addr) (c1 : Nat) (hs0 : List (Option Addr × Nat)), e = .returned (.slice A1 res.length c1) ∧ Hp w w' [.tab A1 c1 39 hs0 3 1 (encM encN res)]) := by
  refine calls_of_cw (args := [.agg #[.int .i64 a0.points, .slice A_a0_readings a0.readings.length c_a0_readings]]) Try.func66 rfl rfl rfl rfl ?_
  have H := Hp.start w
  have R0 := H.ext
  unfold level_parts at F
  refine CW.seq fun K1 hK1 => ?_
  refine CW.region ?_
  refine LW.go rfl rfl (OW.box rfl fun b1 w1 N1 => ?_)
  replace H := H.new N1 N1.blk
  replace R0 := H.ext
  refine LW.pure rfl rfl (RV.assign rfl) ?_
  refine LW.nil (hK1 _ _ ?_)
  refine CW.seq fun K2 hK2 => ?_
  obtain ⟨r1, hr1, F⟩ := bnd_some F
  refine CW.region ?_
  refine LW.pure rfl rfl (RV.loadA [.int .i64 a0.points, .slice A_a0_readings a0.readings.length c_a0_readings] Tk24 rfl (H.blk 0 rfl).cells rfl rfl) ?_
  refine LW.go rfl rfl (OW.call Tc62 rfl (level_forest_ok (a0 := a0) (h_a0_readings.ext R0) hr1) ?_)
  rintro _ w2 ⟨A3_0, c3_0, A3_1, c3_1, rfl, E1⟩
  refine ⟨_, rfl, ?_⟩
  replace H : Hp w w2 [.own A3_0 c3_0 3 1 (List.map encN r1.1), .own A3_1 c3_1 3 1 (List.map encN r1.2), .blk b1 24 [.int .i64 a0.points, .slice A_a0_readings a0.readings.length c_a0_readings]] := H.append E1
  replace R0 := H.ext
  refine LW.pure rfl rfl (RV.move rfl) ?_
  refine LW.pure rfl rfl (RV.extract rfl rfl) ?_
  refine LW.pure rfl rfl (RV.extract rfl rfl) ?_
  refine LW.pure rfl rfl (RV.assign rfl) ?_
  refine LW.pure rfl rfl (RV.assign rfl) ?_
  refine LW.nil (hK2 _ _ ?_)
  refine CW.seq fun K3 hK3 => ?_
  refine CW.region ?_
  refine LW.pure rfl rfl (RV.assign rfl) ?_
  refine LW.nil (hK3 _ _ ?_)
  refine CW.seqJ (fun ρ wl1 => (∃ (m1 : List (List Int)) (hsm1 : List (Option Addr × Nat)) (Am1 : Option Addr) (cm1 : Nat), level_parts_k1 m1 = some res ∧ ρ = [(2, .slice none 0 0), (5, .slice Am1 m1.length cm1)] ∧ Hp w wl1 [.tab Am1 cm1 39 hsm1 3 1 (encM encN m1)])) ?_ ?_
  ·
    rintro _ wl1 ⟨m1, hsm1, Am1, cm1, F, rfl, H⟩
    have R0 := H.ext
    unfold level_parts_k1 at F
    refine CW.seq fun K4 hK4 => ?_
    refine CW.region ?_
    refine LW.pure rfl rfl (RV.move rfl) ?_
    refine LW.pure rfl rfl (RV.assign rfl) ?_
    refine LW.nil (hK4 _ _ ?_)
    refine CW.ret ?_
    obtain rfl := Option.some.inj F
    refine ⟨_, (ResOK.one rfl), ?_⟩
    exact ⟨Am1, cm1, hsm1, (by first | rfl | (simp; done) | (simp; omega)), H⟩
  ·
    intro K5 hK5 jK922
    refine CW.seq fun K6 hK6 => ?_
    refine CW.region ?_
    refine LW.pure rfl rfl (RV.move rfl) ?_
    refine LW.pure rfl rfl (RV.len Ts39 rfl) ?_
    refine LW.pure rfl rfl (RV.move rfl) ?_
    refine LW.nil (hK6 _ _ ?_)
    refine CW.block ?_
    replace H := H.nilTab encN 39 3 1
    replace R0 := H.ext
    replace H := H.pick (L' := [.own A3_0 c3_0 3 1 (List.map encN r1.1), .tab none 0 39 ([]) 3 1 (encM encN (([] : List (List Int))))]) [1, 0] (by decide) rfl
    replace R0 := H.ext
    refine CW.loop (fun meas ρ wl2 => ∃ (t16_1 : Int) (m3 : List (List Int)) (hsm3 : List (Option Addr × Nat)) (Am3 : Option Addr) (cm3 : Nat), level_parts_L2 r1 meas t16_1 m3 = some res ∧ ρ = [(2, .slice none 0 0), (3, .slice A3_0 r1.1.length c3_0), (5, .slice Am3 m3.length cm3), (15, .int .i64 ((r1.1.length : Int))), (16, .int .i64 t16_1)] ∧ Hp w wl2 [.own A3_0 c3_0 3 1 (List.map encN r1.1), .tab Am3 cm3 39 hsm3 3 1 (encM encN m3)]) FU ⟨_, ?_, ((0 : Int)), (([] : List (List Int))), ([]), none, 0, F, rfl, H⟩ ?_
    · exact ⟨rfl, (look_slice rfl (by first | rfl | (simp; done) | omega | (simp; omega))), (look_slice rfl (by first | rfl | (simp; done) | omega | (simp; omega))), rfl, rfl, trivial⟩
    rintro mk1 _ wl2 ⟨t16_1, m3, hsm3, Am3, cm3, F, rfl, H⟩
    have R0 := H.ext
    replace F := level_parts_L2_s F
    obtain ⟨mk1, rfl, F⟩ := F
    generalize hrec1 : level_parts_L2 r1 mk1 = rec1 at F
    unfold level_parts_B2 at F
    refine CW.seq fun K7 hK7 => ?_
    refine CW.region ?_
    refine LW.pure rfl rfl (RV.lss rfl rfl) ?_
    refine LW.nil (hK7 _ _ ?_)
    refine CW.seq fun K8 hK8 => ?_
    by_cases hp1 : t16_1 < ((r1.1.length : Int))
    ·
      replace F := ite_y hp1 F
      have hq1 := dec_t hp1
      refine CW.condT rfl hq1 ?_
      refine CW.skip (hK8 _ _ ?_)
      refine CW.seqJ (fun ρ wl3 => (∃ (m2 : List (List Int)) (hsm2 : List (Option Addr × Nat)) (Am2 : Option Addr) (cm2 : Nat), level_parts_k2 t16_1 rec1 m2 = some res ∧ ρ = [(2, .slice none 0 0), (3, .slice A3_0 r1.1.length c3_0), (5, .slice Am2 m2.length cm2), (15, .int .i64 ((r1.1.length : Int))), (16, .int .i64 t16_1)] ∧ Hp w wl3 [.own A3_0 c3_0 3 1 (List.map encN r1.1), .tab Am2 cm2 39 hsm2 3 1 (encM encN m2)])) ?_ ?_
      ·
        rintro _ wl3 ⟨m2, hsm2, Am2, cm2, F, rfl, H⟩
        have R0 := H.ext
        unfold level_parts_k2 at F
        obtain ⟨hg1, F⟩ := gd_some F
        refine CW.region ?_
        refine LW.pure rfl rfl (RV.add rfl rfl hg1) ?_
        refine LW.pure rfl rfl (RV.move rfl) ?_
        refine LW.nil ?_
        subst hrec1
        refine ⟨mk1, Nat.lt_succ_self _, _, ?_, (t16_1 + 1), m2, hsm2, Am2, cm2, F, rfl, H⟩
        exact ⟨rfl, (look_slice rfl (by first | rfl | (simp; done) | omega | (simp; omega))), (look_slice rfl (by first | rfl | (simp; done) | omega | (simp; omega))), rfl, rfl, trivial⟩
      ·
        intro K9 hK9 jK1177
        refine CW.block ?_
        refine CW.seq fun K10 hK10 => ?_
        refine CW.region ?_
        refine LW.pure rfl rfl (RV.move rfl) ?_
        refine LW.pure rfl rfl (RV.assign rfl) ?_
        refine LW.nil (hK10 _ _ ?_)
        refine CW.seq fun K11 hK11 => ?_
        refine CW.seq fun K12 hK12 => ?_
        obtain ⟨x2, hbx2, hx2, F⟩ := ix_some F
        refine CW.region ?_
        refine LW.pure rfl rfl (RV.move rfl) ?_
        refine LW.pure rfl rfl (RV.move rfl) ?_
        refine LW.pure rfl rfl (RV.indexAddr Ts39 rfl rfl hbx2 ((H.own 0 rfl).sl.addr_ hx2)) ?_
        refine LW.pure rfl rfl (RV.load1 Tk3 rfl ((H.own 0 rfl).sl.at_ hx2) rfl) ?_
        refine LW.pure rfl rfl (RV.move rfl) ?_
        refine LW.pure rfl rfl (RV.nei rfl rfl) ?_
        refine LW.nil (hK12 _ _ ?_)
        by_cases hp2 : x2 = t16_1
        ·
          replace F := ite_y hp2 F
          have hq2 := dec_t hp2
          refine CW.condF rfl (not_f hq2) ?_
          refine CW.skip (hK11 _ _ ?_)
          refine CW.seq fun K13 hK13 => ?_
          refine CW.region ?_
          refine LW.pure rfl rfl (RV.assign rfl) ?_
          refine LW.nil (hK13 _ _ ?_)
          refine CW.seqJ (fun ρ wl4 => (∃ (l1 : List Int) (Al1 : Option Addr) (cl1 : Nat), level_parts_k3 t16_1 m3 rec1 l1 = some res ∧ ρ = [(2, .slice none 0 0), (3, .slice A3_0 r1.1.length c3_0), (5, .slice Am3 m3.length cm3), (7, .slice Al1 l1.length cl1), (15, .int .i64 ((r1.1.length : Int))), (16, .int .i64 t16_1)] ∧ Hp w wl4 [.own A3_0 c3_0 3 1 (List.map encN r1.1), .tab Am3 cm3 39 hsm3 3 1 (encM encN m3), .own Al1 cl1 3 1 (List.map encN l1)])) ?_ ?_
          ·
            rintro _ wl4 ⟨l1, Al1, cl1, F, rfl, H⟩
            have R0 := H.ext
            unfold level_parts_k3 at F
            obtain ⟨hg2, F⟩ := gd_some F
            refine CW.region ?_
            refine LW.pure rfl rfl (RV.move rfl) ?_
            refine LW.pure rfl rfl (RV.move rfl) ?_
            refine LW.go rfl rfl (OW.buildSlice (e := 39) (vs := [.slice Al1 l1.length cl1]) (cs := [.slice Al1 l1.length cl1]) rfl (fun _ => by kernel_rfl) fun b2 w3 N2 => ?_)
            replace H := H.made' (k := 1) (t := 39) (enc := encH) (l := ([((Al1, cl1), List.map encN l1)] : List ((Option Addr × Nat) × List (List Value)))) N2 (by have q := N2.blk; simp only [List.flatMap_cons, List.flatMap_nil, encH, List.length_map, List.append_nil, List.cons_append, List.nil_append]; first | done | exact q) (fun _ => rfl) rfl (by first | decide | omega | (simp; done) | (simp; omega))
            replace R0 := H.ext
            refine LW.go rfl rfl (OW.appendT (enc := encN) (m := m3) (l := l1) Ts36 rfl rfl (H.tab 2 rfl) (H.own 0 rfl).sl rfl hg2 (by decide) fun A2 c2 w4 O1 M1 D1 => ?_)
            replace H : Hp w w4 [.own (some ⟨b2, 0, none⟩) ((([((Al1, cl1), List.map encN l1)] : List ((Option Addr × Nat) × List (List Value)))).length) 39 1 (List.map encH (([((Al1, cl1), List.map encN l1)] : List ((Option Addr × Nat) × List (List Value))))), .own A3_0 c3_0 3 1 (List.map encN r1.1), .tab A2 c2 39 ((hsm3 ++ [(Al1, cl1)])) 3 1 (encM encN ((m3 ++ [l1])))] := H.tabPush 2 3 (by decide) rfl rfl M1 D1 O1
            replace R0 := H.ext
            refine LW.pure rfl rfl (RV.assign rfl) ?_
            replace H := H.pick (L' := [.own A3_0 c3_0 3 1 (List.map encN r1.1), .tab A2 c2 39 ((hsm3 ++ [(Al1, cl1)])) 3 1 (encM encN ((m3 ++ [l1])))]) [1, 2] (by decide) rfl
            replace R0 := H.ext
            refine LW.nil (jK1177 _ _ ⟨_, ?_, ⟨((m3 ++ [l1])), ((hsm3 ++ [(Al1, cl1)])), A2, c2, F, rfl, H⟩⟩)
            exact ⟨rfl, (look_slice rfl (by first | rfl | (simp; done) | omega | (simp; omega))), (look_slice rfl (by first | rfl | (simp; done) | omega | (simp; omega))), rfl, rfl, trivial⟩
          ·
            intro K14 hK14 jK1204
            refine CW.seq fun K15 hK15 => ?_
            refine CW.region ?_
            refine LW.pure rfl rfl (RV.move rfl) ?_
            refine LW.pure rfl rfl (RV.len Ts39 rfl) ?_
            refine LW.pure rfl rfl (RV.move rfl) ?_
            refine LW.nil (hK15 _ _ ?_)
            refine CW.block ?_
            replace H := H.nilOwn 3 1
            replace R0 := H.ext
            replace H := H.pick (L' := [.own A3_0 c3_0 3 1 (List.map encN r1.1), .tab Am3 cm3 39 hsm3 3 1 (encM encN m3), .own none 0 3 1 (List.map encN (([] : List Int)))]) [1, 2, 0] (by decide) rfl
            replace R0 := H.ext
            refine CW.loop (fun meas ρ wl5 => ∃ (t27_1 : Int) (l3 : List Int) (Al3 : Option Addr) (cl3 : Nat), level_parts_L1 r1 t16_1 m3 rec1 meas t27_1 l3 = some res ∧ ρ = [(2, .slice none 0 0), (3, .slice A3_0 r1.1.length c3_0), (5, .slice Am3 m3.length cm3), (6, .int .i64 t16_1), (7, .slice Al3 l3.length cl3), (15, .int .i64 ((r1.1.length : Int))), (16, .int .i64 t16_1), (26, .int .i64 ((r1.1.length : Int))), (27, .int .i64 t27_1)] ∧ Hp w wl5 [.own A3_0 c3_0 3 1 (List.map encN r1.1), .tab Am3 cm3 39 hsm3 3 1 (encM encN m3), .own Al3 cl3 3 1 (List.map encN l3)]) FU ⟨_, ?_, ((0 : Int)), (([] : List Int)), none, 0, F, rfl, H⟩ ?_
            · exact ⟨rfl, (look_slice rfl (by first | rfl | (simp; done) | omega | (simp; omega))), (look_slice rfl (by first | rfl | (simp; done) | omega | (simp; omega))), rfl, (look_slice rfl (by first | rfl | (simp; done) | omega | (simp; omega))), rfl, rfl, rfl, rfl, trivial⟩
            rintro mk2 _ wl5 ⟨t27_1, l3, Al3, cl3, F, rfl, H⟩
            have R0 := H.ext
            replace F := level_parts_L1_s F
            obtain ⟨mk2, rfl, F⟩ := F
            generalize hrec2 : level_parts_L1 r1 t16_1 m3 rec1 mk2 = rec2 at F
            unfold level_parts_B1 at F
            refine CW.seq fun K16 hK16 => ?_
            refine CW.region ?_
            refine LW.pure rfl rfl (RV.lss rfl rfl) ?_
            refine LW.nil (hK16 _ _ ?_)
            refine CW.seq fun K17 hK17 => ?_
            by_cases hp3 : t27_1 < ((r1.1.length : Int))
            ·
              replace F := ite_y hp3 F
              have hq3 := dec_t hp3
              refine CW.condT rfl hq3 ?_
              refine CW.skip (hK17 _ _ ?_)
              refine CW.seqJ (fun ρ wl6 => (∃ (l2 : List Int) (Al2 : Option Addr) (cl2 : Nat), level_parts_k4 t27_1 rec2 l2 = some res ∧ ρ = [(2, .slice none 0 0), (3, .slice A3_0 r1.1.length c3_0), (5, .slice Am3 m3.length cm3), (6, .int .i64 t16_1), (7, .slice Al2 l2.length cl2), (15, .int .i64 ((r1.1.length : Int))), (16, .int .i64 t16_1), (26, .int .i64 ((r1.1.length : Int))), (27, .int .i64 t27_1)] ∧ Hp w wl6 [.own A3_0 c3_0 3 1 (List.map encN r1.1), .tab Am3 cm3 39 hsm3 3 1 (encM encN m3), .own Al2 cl2 3 1 (List.map encN l2)])) ?_ ?_
              ·
                rintro _ wl6 ⟨l2, Al2, cl2, F, rfl, H⟩
                have R0 := H.ext
                unfold level_parts_k4 at F
                obtain ⟨hg3, F⟩ := gd_some F
                refine CW.region ?_
                refine LW.pure rfl rfl (RV.add rfl rfl hg3) ?_
                refine LW.pure rfl rfl (RV.move rfl) ?_
                refine LW.nil ?_
                subst hrec2
                refine ⟨mk2, Nat.lt_succ_self _, _, ?_, (t27_1 + 1), l2, Al2, cl2, F, rfl, H⟩
                exact ⟨rfl, (look_slice rfl (by first | rfl | (simp; done) | omega | (simp; omega))), (look_slice rfl (by first | rfl | (simp; done) | omega | (simp; omega))), rfl, (look_slice rfl (by first | rfl | (simp; done) | omega | (simp; omega))), rfl, rfl, rfl, rfl, trivial⟩
              ·
                intro K18 hK18 jK1224
                refine CW.block ?_
                refine CW.seq fun K19 hK19 => ?_
                refine CW.region ?_
                refine LW.pure rfl rfl (RV.move rfl) ?_
                refine LW.pure rfl rfl (RV.assign rfl) ?_
                refine LW.nil (hK19 _ _ ?_)
                refine CW.seq fun K20 hK20 => ?_
                obtain ⟨x1, hbx1, hx1, F⟩ := ix_some F
                refine CW.region ?_
                refine LW.pure rfl rfl (RV.move rfl) ?_
                refine LW.pure rfl rfl (RV.move rfl) ?_
                refine LW.pure rfl rfl (RV.indexAddr Ts39 rfl rfl hbx1 ((H.own 0 rfl).sl.addr_ hx1)) ?_
                refine LW.pure rfl rfl (RV.load1 Tk3 rfl ((H.own 0 rfl).sl.at_ hx1) rfl) ?_
                refine LW.pure rfl rfl (RV.move rfl) ?_
                refine LW.pure rfl rfl (RV.eqi rfl rfl) ?_
                refine LW.nil (hK20 _ _ ?_)
                by_cases hp4 : x1 = t16_1
                ·
                  replace F := ite_y hp4 F
                  have hq4 := dec_t hp4
                  refine CW.condT rfl hq4 ?_
                  obtain ⟨hg4, F⟩ := gd_some F
                  refine CW.region ?_
                  refine LW.pure rfl rfl (RV.move rfl) ?_
                  refine LW.pure rfl rfl (RV.move rfl) ?_
                  refine LW.go rfl rfl (OW.buildSlice (e := 3) (vs := [.int .i64 t27_1]) (cs := [.int .i64 t27_1]) rfl (fun _ => by kernel_rfl) fun b3 w5 N3 => ?_)
                  replace H := H.made' (k := 1) (t := 3) (enc := encN) (l := ([t27_1] : List Int)) N3 N3.blk (fun _ => rfl) rfl (by first | decide | omega | (simp; done) | (simp; omega))
                  replace R0 := H.ext
                  refine LW.go rfl rfl (OW.appendG (enc := encN) (l := l3) (xs := ([t27_1] : List Int)) Ts39 rfl (look_slice rfl (by first | rfl | (simp; done) | (simp; omega))) (H.own 3 rfl) (H.own 0 rfl).sl (fun _ => rfl) rfl rfl hg4 (by decide) fun A3 c3 w6 O2 M2 D2 => ?_)
                  replace H : Hp w w6 [.own (some ⟨b3, 0, none⟩) ((([t27_1] : List Int)).length) 3 1 (List.map encN (([t27_1] : List Int))), .own A3_0 c3_0 3 1 (List.map encN r1.1), .tab Am3 cm3 39 hsm3 3 1 (encM encN m3), .own A3 c3 3 1 (List.map encN ((l3 ++ ([t27_1] : List Int))))] := H.mod 3 rfl M2 O2 D2
                  replace R0 := H.ext
                  refine LW.pure rfl rfl (RV.assign rfl) ?_
                  replace H := H.pick (L' := [.own A3_0 c3_0 3 1 (List.map encN r1.1), .tab Am3 cm3 39 hsm3 3 1 (encM encN m3), .own A3 c3 3 1 (List.map encN ((l3 ++ ([t27_1] : List Int))))]) [1, 2, 3] (by decide) rfl
                  replace R0 := H.ext
                  refine LW.nil (jK1224 _ _ ⟨_, ?_, ⟨((l3 ++ ([t27_1] : List Int))), A3, c3, F, rfl, H⟩⟩)
                  exact ⟨rfl, (look_slice rfl (by first | rfl | (simp; done) | omega | (simp; omega))), (look_slice rfl (by first | rfl | (simp; done) | omega | (simp; omega))), rfl, (look_slice rfl (by first | rfl | (simp; done) | omega | (simp; omega))), rfl, rfl, rfl, rfl, trivial⟩
                ·
                  replace F := ite_n hp4 F
                  have hq4 := dec_f hp4
                  refine CW.condF rfl hq4 ?_
                  refine CW.skip (jK1224 _ _ ⟨_, ?_, ⟨l3, Al3, cl3, F, rfl, H⟩⟩)
                  exact ⟨rfl, (look_slice rfl (by first | rfl | (simp; done) | omega | (simp; omega))), (look_slice rfl (by first | rfl | (simp; done) | omega | (simp; omega))), rfl, (look_slice rfl (by first | rfl | (simp; done) | omega | (simp; omega))), rfl, rfl, rfl, rfl, trivial⟩
            ·
              replace F := ite_n hp3 F
              have hq3 := dec_f hp3
              refine CW.condF rfl hq3 ?_
              refine CW.exit (jK1204 _ _ ⟨_, ?_, ⟨l3, Al3, cl3, F, rfl, H⟩⟩)
              exact ⟨rfl, (look_slice rfl (by first | rfl | (simp; done) | omega | (simp; omega))), (look_slice rfl (by first | rfl | (simp; done) | omega | (simp; omega))), (look_slice rfl (by first | rfl | (simp; done) | omega | (simp; omega))), rfl, rfl, trivial⟩
        ·
          replace F := ite_n hp2 F
          have hq2 := dec_f hp2
          refine CW.condT rfl (not_t hq2) ?_
          refine CW.exit (jK1177 _ _ ⟨_, ?_, ⟨m3, hsm3, Am3, cm3, F, rfl, H⟩⟩)
          exact ⟨rfl, (look_slice rfl (by first | rfl | (simp; done) | omega | (simp; omega))), (look_slice rfl (by first | rfl | (simp; done) | omega | (simp; omega))), rfl, rfl, trivial⟩
    ·
      replace F := ite_n hp1 F
      have hq1 := dec_f hp1
      refine CW.condF rfl hq1 ?_
      replace H := H.pick (L' := [.tab Am3 cm3 39 hsm3 3 1 (encM encN m3)]) [1] (by decide) rfl
      replace R0 := H.ext
      refine CW.exit (jK922 _ _ ⟨_, ?_, ⟨m3, hsm3, Am3, cm3, F, rfl, H⟩⟩)
      exact ⟨rfl, (look_slice rfl (by first | rfl | (simp; done) | omega | (simp; omega))), trivial⟩
set_option maxRecDepth 20000 in
set_option maxHeartbeats 1000000 in
theorem slices_Index_int_ok {a0 : List Int} {a1 : Int} {A_a0 : Option Addr} {c_a0 : Nat} {w : World} {res : Int} (h_a0 : Sl w A_a0 c_a0 1 (a0.map encN)) (F : slices_Index_int a0 a1 = some res) : Calls Try.prog 94 #[.slice A_a0 a0.length c_a0, .int .i64 a1] w (Rt w (.int .i64 res)) := by
  refine calls_of_cw (args := [.slice A_a0 a0.length c_a0, .int .i64 a1]) Try.func94 rfl rfl rfl rfl ?_
  have H := Hp.start w
  have R0 := H.ext
  unfold slices_Index_int at F
  refine CW.seq fun K1 hK1 => ?_
  refine CW.region ?_
  refine LW.pure rfl rfl (RV.assign rfl) ?_
  refine LW.nil (hK1 _ _ ?_)
  refine CW.seqJ (fun ρ wl1 => (slices_Index_int_k1 = some res ∧ ρ = [(4, .int .i64 0)] ∧ Hp w wl1 [])) ?_ ?_
  ·
    rintro _ wl1 ⟨F, rfl, H⟩
    have R0 := H.ext
    unfold slices_Index_int_k1 at F
    refine CW.seq fun K2 hK2 => ?_
    refine CW.region ?_
    refine LW.pure rfl rfl (RV.assign rfl) ?_
    refine LW.nil (hK2 _ _ ?_)
    refine CW.ret ?_
    obtain rfl := Option.some.inj F
    refine ⟨_, (ResOK.one rfl), ?_⟩
    refine ⟨(by first | rfl | simp), R0⟩
  ·
    intro K3 hK3 jK63
    refine CW.seq fun K4 hK4 => ?_
    refine CW.region ?_
    refine LW.pure rfl rfl (RV.move rfl) ?_
    refine LW.pure rfl rfl (RV.len Ts39 rfl) ?_
    refine LW.pure rfl rfl (RV.move rfl) ?_
    refine LW.nil (hK4 _ _ ?_)
    refine CW.block ?_
    refine CW.loop (fun meas ρ wl2 => ∃ (t8_1 : Int), slices_Index_int_L1 a0 a1 meas t8_1 = some res ∧ ρ = [(0, .slice A_a0 a0.length c_a0), (1, .int .i64 a1), (4, .int .i64 0), (7, .int .i64 ((a0.length : Int))), (8, .int .i64 t8_1)] ∧ Hp w wl2 []) FU ⟨_, ?_, ((0 : Int)), F, rfl, H⟩ ?_
    · exact ⟨rfl, rfl, rfl, rfl, rfl, trivial⟩
    rintro mk1 _ wl2 ⟨t8_1, F, rfl, H⟩
    have R0 := H.ext
    replace F := slices_Index_int_L1_s F
    obtain ⟨mk1, rfl, F⟩ := F
    generalize hrec1 : slices_Index_int_L1 a0 a1 mk1 = rec1 at F
    unfold slices_Index_int_B1 at F
    refine CW.seq fun K5 hK5 => ?_
    refine CW.region ?_
    refine LW.pure rfl rfl (RV.lss rfl rfl) ?_
    refine LW.nil (hK5 _ _ ?_)
    refine CW.seq fun K6 hK6 => ?_
    by_cases hp1 : t8_1 < ((a0.length : Int))
    ·
      replace F := ite_y hp1 F
      have hq1 := dec_t hp1
      refine CW.condT rfl hq1 ?_
      refine CW.skip (hK6 _ _ ?_)
      refine CW.seq fun K7 hK7 => ?_
      refine CW.block ?_
      refine CW.seq fun K8 hK8 => ?_
      refine CW.region ?_
      refine LW.pure rfl rfl (RV.move rfl) ?_
      refine LW.pure rfl rfl (RV.assign rfl) ?_
      refine LW.nil (hK8 _ _ ?_)
      refine CW.seq fun K9 hK9 => ?_
      obtain ⟨x1, hbx1, hx1, F⟩ := ix_some F
      refine CW.region ?_
      refine LW.pure rfl rfl (RV.move rfl) ?_
      refine LW.pure rfl rfl (RV.move rfl) ?_
      refine LW.pure rfl rfl (RV.move rfl) ?_
      refine LW.pure rfl rfl (RV.indexAddr Ts39 rfl rfl hbx1 (h_a0.addr_ hx1)) ?_
      refine LW.pure rfl rfl (RV.load1 Tk3 rfl ((h_a0.at_ hx1).ext R0) rfl) ?_
      refine LW.pure rfl rfl (RV.eqi rfl rfl) ?_
      refine LW.nil (hK9 _ _ ?_)
      by_cases hp2 : a1 = x1
      ·
        replace F := ite_y hp2 F
        have hq2 := dec_t hp2
        refine CW.condT rfl hq2 ?_
        refine CW.seq fun K10 hK10 => ?_
        refine CW.region ?_
        refine LW.pure rfl rfl (RV.move rfl) ?_
        refine LW.pure rfl rfl (RV.assign rfl) ?_
        refine LW.nil (hK10 _ _ ?_)
        refine CW.ret ?_
        obtain rfl := Option.some.inj F
        refine ⟨_, (ResOK.one rfl), ?_⟩
        refine ⟨(by first | rfl | simp), R0⟩
      ·
        replace F := ite_n hp2 F
        have hq2 := dec_f hp2
        refine CW.condF rfl hq2 ?_
        refine CW.skip (hK7 _ _ ?_)
        obtain ⟨hg1, F⟩ := gd_some F
        refine CW.region ?_
        refine LW.pure rfl rfl (RV.add rfl rfl hg1) ?_
        refine LW.pure rfl rfl (RV.move rfl) ?_
        refine LW.nil ?_
        subst hrec1
        refine ⟨mk1, Nat.lt_succ_self _, _, ?_, (t8_1 + 1), F, rfl, H⟩
        exact ⟨rfl, rfl, rfl, rfl, rfl, trivial⟩
    ·
      replace F := ite_n hp1 F
      have hq1 := dec_f hp1
      refine CW.condF rfl hq1 ?_
      refine CW.exit (jK63 _ _ ⟨_, ?_, ⟨F, rfl, H⟩⟩)
      exact ⟨rfl, trivial⟩
set_option maxRecDepth 20000 in
theorem slices_Delete_int_core {l : List Int} {A : Option Addr} {c i j : Nat} {w : World} (o : Own w A c 3 1 (l.map encN)) (hij : i ≤ j) (hj : j ≤ l.length) : Calls Try.prog 95 #[.slice A l.length c, .int .i64 (i : Int), .int .i64 (j : Int)] w (fun e w' => e = .returned (.slice A (l.take i ++ l.drop j).length c) ∧ Own w' A c 3 1 ((l.take i ++ l.drop j).map encN) ∧ Mod w w' A) := by
  have hc : l.length ≤ c := o.sl.le
  refine calls_of_cw (args := [.slice A l.length c, .int .i64 (i : Int), .int .i64 (j : Int)]) Try.func95 rfl rfl rfl rfl ?_
  refine CW.seq fun K1 hK1 => ?_
  refine CW.region ?_
  refine LW.pure rfl rfl (RV.assign rfl) ?_
  refine LW.nil (hK1 _ _ ?_)
  refine CW.seq fun K2 hK2 => ?_
  refine CW.region ?_
  refine LW.pure rfl rfl (RV.move rfl) ?_
  refine LW.pure rfl rfl (RV.move rfl) ?_
  refine LW.pure rfl rfl (RV.move rfl) ?_
  refine LW.pure rfl rfl (RV.move rfl) ?_
  refine LW.pure rfl rfl (RV.len Ts39 rfl) ?_
  refine LW.pure rfl rfl (RV.sliceLHM Ts39 rfl rfl rfl rfl ⟨by omega, by omega, by omega, by omega⟩) ?_
  refine LW.nil (hK2 _ _ ?_)
  refine CW.seq fun K3 hK3 => ?_
  refine CW.seq fun K4 hK4 => ?_
  refine CW.region ?_
  refine LW.pure rfl rfl (RV.move rfl) ?_
  refine LW.pure rfl rfl (RV.move rfl) ?_
  refine LW.pure rfl rfl (RV.eqi rfl rfl) ?_
  refine LW.nil (hK4 _ _ ?_)
  by_cases he : (i : Int) = (j : Int)
  · refine CW.condT rfl (dec_t he) ?_
    refine CW.seq fun K5 hK5 => ?_
    refine CW.region ?_
    refine LW.pure rfl rfl (RV.move rfl) ?_
    refine LW.pure rfl rfl (RV.assign rfl) ?_
    refine LW.nil (hK5 _ _ ?_)
    refine CW.ret ?_
    obtain rfl : i = j := by omega
    have e1 : l.take i ++ l.drop i = l := List.take_append_drop i l
    refine ⟨_, (ResOK.one rfl), ?_⟩
    rw [e1]
    exact ⟨rfl, o, Mod.refl _ _⟩
  · refine CW.condF rfl (dec_f he) ?_
    refine CW.skip (hK3 _ _ ?_)
    obtain ⟨b, rfl⟩ := o.at0 (by omega)
    refine CW.seq fun K6 hK6 => ?_
    refine CW.region ?_
    refine LW.pure rfl rfl (RV.move rfl) ?_
    refine LW.pure rfl rfl (RV.len Ts39 rfl) ?_
    refine LW.pure rfl rfl (RV.assign rfl) ?_
    refine LW.nil (hK6 _ _ ?_)
    refine CW.seq fun K7 hK7 => ?_
    have hl1 : (l.drop j).length = l.length - j := by simp
    have hl2 : (l.take i).length = i := by simp; omega
    have hAj : ∃ a, cutA (some (⟨b, 0, none⟩ : Addr)) c 1 j = some a := by unfold cutA; split <;> exact ⟨_, rfl⟩
    refine CW.draw [6] (fun _ => True) (.cons 0 2 (.cons 1 2 (.cons 2 1 (.cons 3 2 (.cons 4 2 (.cons 5 1 (.cons 6 0 (.cons 7 2 .nil)))))))) mixed (by kernel_rfl) fun w2 E => ?_
    have o2 := o.ext E
    refine DW.thru rfl rfl rfl (fun _ EQ => RV.move rfl) ?_
    refine DW.thru rfl rfl rfl (fun _ EQ => RV.move rfl) ?_
    refine DW.fix rfl rfl rfl (fun _ EQ => RV.sliceHi Ts39 rfl rfl ⟨by omega, by omega⟩) ?_
    refine DW.thru rfl rfl rfl (fun _ EQ => RV.move rfl) ?_
    refine DW.thru rfl rfl rfl (fun _ EQ => RV.move rfl) ?_
    refine DW.fix rfl rfl rfl (fun _ EQ => RV.sliceLo Ts39 rfl rfl ⟨Int.natCast_nonneg _, by omega⟩ hc) ?_
    have src := o2.sl.cut j l.length hj (Nat.le_refl _)
    rw [List.take_length] at src
    refine DW.sole rfl rfl rfl (OW.appendOver (l := l.take i) (xs := l.drop j) (zs := l.drop i) Ts39 rfl (by simp; omega) rfl (by rw [hl1]; simp) (by rw [List.take_append_drop]; exact o2) hAj src (fun _ => rfl) (fun _ => rfl) (by decide) (by simp; omega) fun w3 o3 M3 => ?_)
    refine ⟨fun h => absurd h (by decide), M3.modx (fun _ _ => trivial), ?_⟩
    refine DW.thru rfl rfl rfl (fun _ EQ => RV.assign rfl) ?_
    refine DW.nil (hK7 _ _ ?_)
    have hn : (l.take i ++ l.drop j).length = i + (l.length - j) := by rw [List.length_append, hl1, hl2]
    have hd : (List.drop (l.drop j).length (l.drop i)) = l.drop (i + (l.length - j)) := by rw [List.drop_drop, hl1]
    rw [hd] at o3
    refine CW.seq fun K8 hK8 => ?_
    refine CW.region ?_
    refine LW.pure rfl rfl (RV.move rfl) ?_
    refine LW.pure rfl rfl (RV.move rfl) ?_
    refine LW.pure rfl rfl (RV.len Ts39 rfl) ?_
    refine LW.pure rfl rfl (RV.move rfl) ?_
    refine LW.pure rfl rfl (RV.sliceLH Ts39 rfl rfl rfl ⟨by omega, by omega, by omega⟩) ?_
    have hlen : (l.take i ++ l.drop j ++ l.drop (i + (l.length - j))).length = l.length := by simp; omega
    refine LW.go rfl rfl (OW.clearSub (lo := i + (l.length - j)) (hi := l.length) (0 : Int) Ts39 rfl o3 (fun _ => rfl) rfl rfl (by decide) (by simp only [hn, Int.toNat_natCast]) (by simp only [hn, Int.toNat_natCast]) (by omega) (by rw [hlen]; exact Nat.le_refl _) rfl fun v w4 M4 o4 => ?_)
    refine LW.nil (hK8 _ _ ?_)
    have htk : List.take (i + (l.length - j)) (l.take i ++ l.drop j ++ l.drop (i + (l.length - j))) = l.take i ++ l.drop j := by rw [← hn, List.take_left]
    rw [htk, List.append_assoc, List.map_append] at o4
    have o5 := o4.shrink (by simp)
    refine CW.seq fun K9 hK9 => ?_
    refine CW.region ?_
    refine LW.pure rfl rfl (RV.move rfl) ?_
    refine LW.pure rfl rfl (RV.assign rfl) ?_
    refine LW.nil (hK9 _ _ ?_)
    refine CW.ret ?_
    exact ⟨_, (ResOK.one rfl), rfl, o5, (Mod.of_ext E).trans (M3.trans M4)⟩
set_option maxRecDepth 20000 in
theorem slices_Delete_int_ok {a0 : List Int} {a1 : Int} {a2 : Int} {A_a0 : Option Addr} {c_a0 : Nat} {wb : World} {R : List Ck} {w : World} {res : List Int} (H : Hp wb w ([.own A_a0 c_a0 3 1 (List.map encN a0)] ++ R)) (F : slices_Delete_int a0 a1 a2 = some res) : Calls Try.prog 95 #[.slice A_a0 a0.length c_a0, .int .i64 a1, .int .i64 a2] w (fun e w' => e = .returned (.slice A_a0 res.length c_a0) ∧ Hp wb w' ([.own A_a0 c_a0 3 1 (List.map encN res)] ++ R)) := by
  unfold slices_Delete_int at F
  obtain ⟨hg, F⟩ := gd_some F
  cases F
  obtain ⟨i, rfl⟩ : ∃ i : Nat, a1 = (i : Int) := ⟨Int.toNat a1, by omega⟩
  obtain ⟨j, rfl⟩ : ∃ j : Nat, a2 = (j : Int) := ⟨Int.toNat a2, by omega⟩
  rw [Int.toNat_natCast, Int.toNat_natCast]
  refine (slices_Delete_int_core (H.own 0 rfl) (i := i) (j := j) (by omega) (by omega)).mono ?_
  rintro _ w' ⟨rfl, o, M⟩
  exact ⟨rfl, H.mod 0 rfl M o (.inl rfl)⟩
set_option maxRecDepth 20000 in
set_option maxHeartbeats 1000000 in
theorem level_resist_1_ok {cap0 : Int} {a0 : Int} {b_cap0 : Nat} {w : World} {res : Int} (hc_cap0 : Cells w ⟨b_cap0, 0, none⟩ [.int .i64 cap0]) (F : level_resist_1 cap0 a0 = some res) : Calls Try.prog 98 #[.int .i64 a0, .pointer (some (⟨b_cap0, 0, none⟩))] w (Rt w (.int .i64 res)) := by
  refine calls_of_cw (args := [.int .i64 a0, .pointer (some (⟨b_cap0, 0, none⟩))]) Try.func98 rfl rfl rfl rfl ?_
  have H := Hp.start w
  have R0 := H.ext
  unfold level_resist_1 at F
  refine CW.seq fun K1 hK1 => ?_
  refine CW.region ?_
  refine LW.pure rfl rfl (RV.assign rfl) ?_
  refine LW.nil (hK1 _ _ ?_)
  refine CW.seq fun K2 hK2 => ?_
  refine CW.seq fun K3 hK3 => ?_
  refine CW.region ?_
  refine LW.pure rfl rfl (RV.move rfl) ?_
  refine LW.pure rfl rfl (RV.load1 Tk3 rfl (hc_cap0.ext R0) rfl) ?_
  refine LW.pure rfl rfl (RV.eqi rfl rfl) ?_
  refine LW.nil (hK3 _ _ ?_)
  by_cases hp1 : a0 = cap0
  ·
    replace F := ite_y hp1 F
    have hq1 := dec_t hp1
    refine CW.condT rfl hq1 ?_
    refine CW.seq fun K4 hK4 => ?_
    refine CW.region ?_
    refine LW.pure rfl rfl (RV.assign rfl) ?_
    refine LW.nil (hK4 _ _ ?_)
    refine CW.ret ?_
    obtain rfl := Option.some.inj F
    refine ⟨_, (ResOK.one rfl), ?_⟩
    refine ⟨(by first | rfl | simp), R0⟩
  ·
    replace F := ite_n hp1 F
    have hq1 := dec_f hp1
    refine CW.condF rfl hq1 ?_
    refine CW.skip (hK2 _ _ ?_)
    refine CW.seq fun K5 hK5 => ?_
    refine CW.region ?_
    refine LW.pure rfl rfl (RV.assign rfl) ?_
    refine LW.nil (hK5 _ _ ?_)
    refine CW.ret ?_
    obtain rfl := Option.some.inj F
    refine ⟨_, (ResOK.one rfl), ?_⟩
    refine ⟨(by first | rfl | simp), R0⟩
theorem slices_Repeat_Rat_mul {x : Int} {y : Int} {w : World} (hx : 0 ≤ x ∧ x ≤ 1000) (hy : 0 ≤ y ∧ y ≤ 1000) : Calls Try.prog 110 #[.int .u64 x, .int .u64 y] w (Rt w (.tuple #[.int .u64 0, .int .u64 (x * y)])) := by
  obtain ⟨a, rfl⟩ := Int.eq_ofNat_of_zero_le hx.1
  obtain ⟨b, rfl⟩ := Int.eq_ofNat_of_zero_le hy.1
  have ha : a ≤ 1000 := by omega
  have hb : b ≤ 1000 := by omega
  have hab : a * b ≤ 1000000 := Nat.mul_le_mul ha hb
  refine (Try.bits_Mul a b (by omega) (by omega) w).mono fun e w' ⟨he, hw⟩ => ?_
  subst hw
  refine ⟨?_, Ext.refl _⟩
  rw [he, Nat.div_eq_of_lt (by omega), Nat.mod_eq_of_lt (by omega)]
  simp
set_option maxRecDepth 20000 in
theorem slices_Repeat_Rat_core {x : List Rat} {A_x : Option Addr} {c_x : Nat} {count : Int} {v : Rat} {w : World} (h_x : Sl w A_x c_x 2 (x.map encRat)) (hx : x = [v]) (hc : 1 ≤ count ∧ count ≤ 8) : Calls Try.prog 102 #[.slice A_x x.length c_x, .int .i64 count] w (fun e w' => ∃ (b0 : Nat), e = .returned (.slice (some ⟨b0, 0, none⟩) ((List.replicate (Int.toNat count) v).length) ((List.replicate (Int.toNat count) v).length)) ∧ Blk w' b0 28 ((List.replicate (Int.toNat count) v).flatMap encRat) ∧ w.heap.size ≤ b0 ∧ Ext w w') := by
  refine calls_of_cw (args := [.slice A_x x.length c_x, .int .i64 count]) Try.func102 rfl rfl rfl rfl ?_
  have R0 := Ext.refl w
  have hxl : (x.length : Int) = 1 := by rw [hx]; rfl
  refine CW.seq fun K1 hK1 => ?_
  refine CW.region ?_
  refine LW.pure rfl rfl (RV.assign rfl) ?_
  refine LW.nil (hK1 _ _ ?_)
  refine CW.seq fun K2 hK2 => ?_
  refine CW.seq fun K3 hK3 => ?_
  refine CW.region ?_
  refine LW.pure rfl rfl (RV.move rfl) ?_
  refine LW.pure rfl rfl (RV.lss rfl rfl) ?_
  refine LW.nil (hK3 _ _ ?_)
  refine CW.cond rfl (fun h1 => ?_) (fun h1 => ?_)
  ·
    have h1 := of_decide_eq_true h1
    exfalso; omega
  ·
    have h1 := of_decide_eq_false h1
    refine CW.skip (hK2 _ _ ?_)
    refine CW.seq fun K4 hK4 => ?_
    refine CW.region ?_
    refine LW.pure rfl rfl (RV.move rfl) ?_
    refine LW.pure rfl rfl (RV.len Ts53 rfl) ?_
    refine LW.pure rfl rfl (RV.convII Tu3s Tu115 rfl (IntWalk.u64_in _ (by omega))) ?_
    refine LW.pure rfl rfl (RV.move rfl) ?_
    refine LW.pure rfl rfl (RV.convII Tu3s Tu115 rfl (IntWalk.u64_in _ (by omega))) ?_
    refine LW.go rfl rfl (OW.call Tc110 rfl (slices_Repeat_Rat_mul (x := ((x.length : Nat) : Int)) (y := count) (by omega) (by omega)) ?_)
    rintro _ w1 ⟨rfl, E1⟩
    refine ⟨_, rfl, ?_⟩
    have R0 := R0.trans E1
    rw [show ((x.length : Int) * count) = count from by rw [hxl, Int.one_mul]]
    refine LW.pure rfl rfl (RV.move rfl) ?_
    refine LW.pure rfl rfl (RV.extract rfl rfl) ?_
    refine LW.pure rfl rfl (RV.extract rfl rfl) ?_
    refine LW.pure rfl rfl (RV.assign rfl) ?_
    refine LW.pure rfl rfl (RV.assign rfl) ?_
    refine LW.nil (hK4 _ _ ?_)
    refine CW.seq fun K5 hK5 => ?_
    refine CW.seq fun K6 hK6 => ?_
    refine CW.region ?_
    refine LW.pure rfl rfl (RV.move rfl) ?_
    refine LW.pure rfl rfl (RV.gtr rfl rfl) ?_
    refine LW.pure rfl rfl (RV.move rfl) ?_
    cases h2 : decide (0 < 0)
    ·
      have h2 := of_decide_eq_false h2
      refine LW.pureY rfl rfl rfl rfl (RV.move rfl) ?_
      refine LW.pureY rfl rfl rfl rfl (RV.gtr rfl rfl) ?_
      refine LW.pure rfl rfl (RV.pickF rfl rfl) ?_
      refine LW.nil (hK6 _ _ ?_)
      refine CW.cond rfl (fun h3 => ?_) (fun h3 => ?_)
      ·
        have h3 := of_decide_eq_true h3
        exfalso; omega
      ·
        have h3 := of_decide_eq_false h3
        refine CW.skip (hK5 _ _ ?_)
        refine CW.seq fun K7 hK7 => ?_
        refine CW.region ?_
        refine LW.pure rfl rfl (RV.move rfl) ?_
        refine LW.pure rfl rfl (RV.convII Tu115s Tu3 rfl (IntWalk.i64_in _ (by omega))) ?_
        refine LW.go rfl rfl (OW.makeL (enc := encRat) ((⟨0, 0⟩ : Rat) : Rat) Ts53 rfl rfl rfl rfl rfl (by omega) (by omega) (by omega) fun b1 w2 N1 => ?_)
        have Gb1 : w.heap.size ≤ b1 := N1.ge R0
        have R0 := R0.trans N1.ext
        have Bb1 : Blk w2 b1 28 ((List.replicate (Int.toNat count) ((⟨0, 0⟩ : Rat) : Rat)).flatMap encRat) := N1.blk
        refine LW.pure rfl rfl (RV.assign rfl) ?_
        refine LW.nil (hK7 _ _ ?_)
        refine CW.seq fun K8 hK8 => ?_
        refine CW.region ?_
        refine LW.pure rfl rfl (RV.move rfl) ?_
        refine LW.pure rfl rfl (RV.move rfl) ?_
        have hov : over ((List.replicate (Int.toNat count) ((⟨0, 0⟩ : Rat) : Rat)).flatMap encRat) 0 (encRat v) = (List.replicate 1 v ++ List.replicate (Int.toNat count - 1) ((⟨0, 0⟩ : Rat) : Rat)).flatMap encRat := by
          have h := rep_step (enc := encRat) (k := 2) (fun _ => rfl) v ((⟨0, 0⟩ : Rat) : Rat) (Int.toNat count) 0 1 (by omega) (by omega)
          simpa using h
        refine LW.go rfl rfl (OW.copyM (o := 0) (vs := encRat v) Ts53 rfl (rfl) rfl Bb1 (by rw [len_flatMap (k := 2) (fun _ => rfl)]; simp) (by rw [hx]; have e : min [v].length (Int.toNat count) = 1 := (by simp; omega); rw [e]; rfl) (fun _ => by obtain ⟨a, ha⟩ := (h_x.addr (i := 0) (by omega)); exact ⟨a, ha, fun j u hj => by have := (h_x.ext R0).at_ (j := 0) (x := v) (by rw [hx]; rfl); subst ha; simpa [elemPtr, Addr.add] using this j u hj⟩) (rfl) fun w3 S1 => ?_)
        have R0 := R0.stored S1 Gb1
        have Bb1 : Blk w3 b1 28 ((List.replicate 1 v ++ List.replicate (Int.toNat count - 1) ((⟨0, 0⟩ : Rat) : Rat)).flatMap encRat) := by have h := S1.blk; rw [hov] at h; exact h
        rw [show ((min x.length (Int.toNat count) : Nat) : Int) = ((1 : Nat) : Int) by rw [hx]; simp; omega]
        refine LW.pure rfl rfl (RV.assign rfl) ?_
        refine LW.nil (hK8 _ _ ?_)
        refine CW.seq fun K9 hK9 => ?_
        refine CW.block ?_
        refine CW.loop (fun meas ρ wl1 => ∃ (m : Nat), meas = Int.toNat count - m ∧ ρ = [(4, .slice none 0 0), (7, .slice (some ⟨b1, 0, none⟩) (Int.toNat count) (Int.toNat count)), (8, .int .i64 (↑m))] ∧ Ext w wl1 ∧ Blk wl1 b1 28 ((List.replicate m v ++ List.replicate (Int.toNat count - m) ((⟨0, 0⟩ : Rat) : Rat)).flatMap encRat) ∧ (1 ≤ m ∧ m ≤ Int.toNat count)) (Int.toNat count - 1) ⟨_, ?_, 1, rfl, rfl, R0, Bb1, ?_⟩ ?_
        · exact ⟨rfl, rfl, look_int rfl (by first | rfl | omega | (simp; omega)), trivial⟩
        · omega
        rintro _ _ wl1 ⟨m, rfl, rfl, R0, Bb1, hI1⟩
        refine CW.seq fun K10 hK10 => ?_
        refine CW.seq fun K11 hK11 => ?_
        refine CW.region ?_
        refine LW.pure rfl rfl (RV.move rfl) ?_
        refine LW.pure rfl rfl (RV.move rfl) ?_
        refine LW.pure rfl rfl (RV.len Ts53 rfl) ?_
        refine LW.pure rfl rfl (RV.lss rfl rfl) ?_
        refine LW.nil (hK11 _ _ ?_)
        refine CW.cond rfl (fun h4 => ?_) (fun h4 => ?_)
        ·
          have h4 := of_decide_eq_true h4
          refine CW.skip (hK10 _ _ ?_)
          refine CW.block ?_
          refine CW.draw [7] (fun _ => True) (.cons 0 2 (.cons 1 2 (.cons 2 2 (.cons 3 1 (.cons 4 2 (.cons 5 2 (.cons 6 1 (.cons 7 0 (.cons 8 2 (.cons 9 2 (.nil))))))))))) mixed (by kernel_rfl) fun w4 E2 => ?_
          have R0 := R0.trans E2
          have Bb1 := Bb1.ext E2
          refine DW.thru rfl rfl rfl (fun _ EQ => RV.move rfl) ?_
          refine DW.thru rfl rfl rfl (fun _ EQ => RV.move rfl) ?_
          refine DW.thru rfl rfl rfl (fun _ EQ => RV.move rfl) ?_
          refine DW.fix rfl rfl rfl (fun _ EQ => RV.sliceLoO Ts53 rfl rfl (by omega) (by omega) (by omega)) ?_
          refine DW.thru rfl rfl rfl (fun _ EQ => RV.move rfl) ?_
          refine DW.thru rfl rfl rfl (fun _ EQ => RV.move rfl) ?_
          refine DW.fix rfl rfl rfl (fun _ EQ => RV.sliceHi Ts53 rfl rfl (by omega)) ?_
          have hsrc := rep_src (enc := encRat) (k := 2) (q := min m (Int.toNat count - m)) (fun _ => rfl) (Nat.min_le_left _ _) Bb1
          refine DW.sole rfl rfl rfl (OW.copyM (o := m * 2) (vs := (List.replicate (min m (Int.toNat count - m)) v).flatMap encRat) Ts53 rfl (by simp) rfl Bb1 (by rw [len_flatMap (k := 2) (fun _ => rfl)]; simp <;> omega) (by rw [len_flatMap (k := 2) (fun _ => rfl)]; simp) (fun _ => ⟨_, rfl, fun j u hj => hsrc j u hj⟩) (rep_one (fun _ => rfl) _ _) fun w5 S2 => ?_)
          refine ⟨fun h => absurd h (by decide), S2.modx trivial, ?_⟩
          have R0 := R0.stored S2 Gb1
          have Bb1 : Blk w5 b1 28 ((List.replicate (m + min m (Int.toNat count - m)) v ++ List.replicate (Int.toNat count - (m + min m (Int.toNat count - m))) ((⟨0, 0⟩ : Rat) : Rat)).flatMap encRat) := by have h := S2.blk; rw [rep_step (enc := encRat) (k := 2) (fun _ => rfl) v ((⟨0, 0⟩ : Rat) : Rat) (Int.toNat count) m _ (by omega) (Nat.min_le_right _ _)] at h; exact h
          refine DW.thru rfl rfl rfl (fun _ EQ => RV.add rfl rfl (by omega)) ?_
          refine DW.thru rfl rfl rfl (fun _ EQ => RV.assign rfl) ?_
          refine DW.nil ?_
          refine ⟨_, ?_, _, ?_, m + min m (Int.toNat count - m), rfl, rfl, R0, Bb1, ?_⟩
          · omega
          · exact ⟨rfl, rfl, look_int rfl (by first | rfl | omega | (simp; omega)), trivial⟩
          · omega
        ·
          have h4 := of_decide_eq_false h4
          refine CW.exit (hK9 _ _ ?_)
          refine CW.seq fun K12 hK12 => ?_
          refine CW.region ?_
          refine LW.pure rfl rfl (RV.move rfl) ?_
          refine LW.pure rfl rfl (RV.assign rfl) ?_
          refine LW.nil (hK12 _ _ ?_)
          refine CW.ret ?_
          refine ⟨_, (ResOK.one rfl), ?_⟩
          refine ⟨b1, ?_, ?_, ?_, R0⟩
          · simp
          · have e : m = Int.toNat count := by omega
            subst e; simpa using Bb1
          · exact Gb1
    ·
      have h2 := of_decide_eq_true h2
      exfalso; simp at h2
theorem slices_Repeat_Rat_ok {a0 : List Rat} {a1 : Int} {A_a0 : Option Addr} {c_a0 : Nat} {w : World} {res : List Rat} (h_a0 : Sl w A_a0 c_a0 2 (a0.map encRat)) (F : slices_Repeat_Rat a0 a1 = some res) : Calls Try.prog 102 #[.slice A_a0 a0.length c_a0, .int .i64 a1] w (fun e w' => ∃ (A0 : Option Addr) (c0 : Nat), e = .returned (.slice A0 res.length c0) ∧ Hp w w' [.own A0 c0 28 2 (List.map encRat res)]) := by
  unfold slices_Repeat_Rat at F
  split at F
  · rename_i v
    obtain ⟨hc, F⟩ := gd_some F
    cases F
    refine (slices_Repeat_Rat_core (x := [v]) h_a0 rfl hc).mono fun e w' ⟨b, he, hB, hG, hE⟩ => ⟨some ⟨b, 0, none⟩, (List.replicate (Int.toNat a1) v).length, he, ?_⟩
    exact (Hp.start w).newOwn hE (Blk.own_ hB (fun _ => rfl) (by simp; omega)) (by intro a ha; cases ha; exact hG)
  · cases F
set_option maxRecDepth 20000 in
set_option maxHeartbeats 1000000 in
theorem level_balance_1_ok {cap0 : List Rat} {a0 : Int} {a1 : Int} {A_cap0 : Option Addr} {c_cap0 : Nat} {b_cap0 : Nat} {wb : World} {R : List Ck} {w : World} {res : (List Rat)} (H : Hp wb w ([.own A_cap0 c_cap0 28 2 (List.map encRat cap0), .blk b_cap0 53 [.slice A_cap0 cap0.length c_cap0]] ++ R)) (F : level_balance_1 cap0 a0 a1 = some res) : Calls Try.prog 109 #[.int .i64 a0, .int .i64 a1, .pointer (some (⟨b_cap0, 0, none⟩))] w (fun e w' => e = .returned (.tuple #[]) ∧ res.length = cap0.length ∧ Hp wb w' ([.own A_cap0 c_cap0 28 2 (List.map encRat res), .blk b_cap0 53 [.slice A_cap0 cap0.length c_cap0]] ++ R)) := by
  refine calls_of_cw (args := [.int .i64 a0, .int .i64 a1, .pointer (some (⟨b_cap0, 0, none⟩))]) Try.func109 rfl rfl rfl rfl ?_
  have R0 := H.ext
  unfold level_balance_1 at F
  refine CW.seq fun K1 hK1 => ?_
  refine CW.region ?_
  refine LW.pure rfl rfl (RV.move rfl) ?_
  refine LW.pure rfl rfl (RV.geq rfl rfl) ?_
  refine LW.nil (hK1 _ _ ?_)
  by_cases hp1 : (0 : Int) ≤ a0
  ·
    replace F := ite_y hp1 F
    have hq1 := dec_t hp1
    refine CW.condT rfl hq1 ?_
    obtain ⟨x1, hbx1, hx1, F⟩ := ix_some F
    obtain ⟨hg1, F⟩ := gd_some F
    obtain ⟨x2, hbx2, hx2, F⟩ := ix_some F
    refine CW.region ?_
    refine LW.pure rfl rfl (RV.load1 Tk53 rfl (H.blk 1 rfl).cells rfl) ?_
    refine LW.pure rfl rfl (RV.move rfl) ?_
    refine LW.pure rfl rfl (RV.indexAddr Ts53 rfl rfl hbx1 ((H.own 0 rfl).sl.addr_ hx1)) ?_
    refine LW.pure rfl rfl (RV.fieldAddr Tf28_0 rfl) ?_
    refine LW.pure rfl rfl (RV.load1 Tk3 rfl (((H.own 0 rfl).sl.at_ hx1).off 0) rfl) ?_
    refine LW.pure rfl rfl (RV.move rfl) ?_
    refine LW.pure rfl rfl (RV.add rfl rfl hg1) ?_
    refine LW.pure rfl rfl (RV.indexAddr Ts53 rfl rfl hbx2 ((H.own 0 rfl).sl.addr_ hx2)) ?_
    refine LW.pure rfl rfl (RV.fieldAddr Tf28_0 rfl) ?_
    refine LW.go rfl rfl (OW.storeO (enc := encRat) (vs := [.int .i64 (x1.num + a1)]) 0 ((⟨x1.num + a1, x2.den⟩ : Rat)) Tk3 rfl rfl (H.own 0 rfl) (fun _ => rfl) rfl hx2 rfl rfl (by decide) rfl rfl fun w1 M1 O1 => ?_)
    replace H : Hp wb w1 ([.own A_cap0 c_cap0 28 2 (List.map encRat ((cap0.set (Int.toNat a0) ((⟨x1.num + a1, x2.den⟩ : Rat))))), .blk b_cap0 53 [.slice A_cap0 cap0.length c_cap0]] ++ R) := H.mod 0 rfl M1 O1 (.inl rfl)
    replace R0 := H.ext
    refine LW.nil ?_
    obtain rfl := Option.some.inj F
    refine ⟨_, ResOK.none_, ?_⟩
    exact ⟨(by first | rfl | (simp; done) | (simp; omega)), (by first | rfl | assumption | omega | (simp; done) | (simp; assumption) | (simp; omega)), H⟩
  ·
    replace F := ite_n hp1 F
    have hq1 := dec_f hp1
    refine CW.condF rfl hq1 ?_
    refine CW.skip ?_
    obtain rfl := Option.some.inj F
    refine ⟨_, ResOK.none_, ?_⟩
    exact ⟨(by first | rfl | (simp; done) | (simp; omega)), (by first | rfl | assumption | omega | (simp; done) | (simp; assumption) | (simp; omega)), H⟩
set_option maxRecDepth 20000 in
set_option maxHeartbeats 1000000 in
theorem level_balance_ok {a0 : Survey} {a1 : List Int} {a2 : Int → Option Int} {A_a0_readings : Option Addr} {c_a0_readings : Nat} {A_a1 : Option Addr} {c_a1 : Nat} {f_a2 : Nat} {p_a2 : Array Value} {q_a2 : Array Value} {w : World} {res : (List (List Rat))} (h_a0_readings : Sl w A_a0_readings c_a0_readings 4 (a0.readings.map encReading)) (h_a1 : Sl w A_a1 c_a1 1 (a1.map encN)) (h_a2 : ∀ (x7 : Int) (r : Int), a2 x7 = some r → ∀ w1, Ext w w1 → CallsV Try.prog f_a2 p_a2 q_a2 #[.int .i64 x7] w1 (Rt w1 (.int .i64 r))) (F : level_balance a0 a1 a2 = some res) : Calls Try.prog 97 #[.agg #[.int .i64 a0.points, .slice A_a0_readings a0.readings.length c_a0_readings], .slice A_a1 a1.length c_a1, .func (.func f_a2) p_a2 q_a2] w (fun e w' => ∃ (A1 : Option Addr) (c1 : Nat) (hs0 : List (Option Addr × Nat)), e = .returned (.slice A1 res.length c1) ∧ Hp w w' [.tab A1 c1 53 hs0 28 2 (encM encRat res)]) := by
  refine calls_of_cw (args := [.agg #[.int .i64 a0.points, .slice A_a0_readings a0.readings.length c_a0_readings], .slice A_a1 a1.length c_a1, .func (.func f_a2) p_a2 q_a2]) Try.func97 rfl rfl rfl rfl ?_
  have H := Hp.start w
  have R0 := H.ext
  unfold level_balance at F
  refine CW.seq fun K1 hK1 => ?_
  refine CW.region ?_
  refine LW.go rfl rfl (OW.box rfl fun b1 w2 N1 => ?_)
  replace H := H.new N1 N1.blk
  replace R0 := H.ext
  refine LW.pure rfl rfl (RV.assign rfl) ?_
  refine LW.nil (hK1 _ _ ?_)
  refine CW.seq fun K2 hK2 => ?_
  refine CW.region ?_
  refine LW.pure rfl rfl (RV.assign rfl) ?_
  refine LW.nil (hK2 _ _ ?_)
  refine CW.seqJ (fun ρ wl1 => (∃ (m1 : List (List Rat)) (hsm1 : List (Option Addr × Nat)) (Am1 : Option Addr) (cm1 : Nat), level_balance_k1 m1 = some res ∧ ρ = [(6, .slice none 0 0), (7, .slice Am1 m1.length cm1)] ∧ Hp w wl1 [.tab Am1 cm1 53 hsm1 28 2 (encM encRat m1)])) ?_ ?_
  ·
    rintro _ wl1 ⟨m1, hsm1, Am1, cm1, F, rfl, H⟩
    have R0 := H.ext
    unfold level_balance_k1 at F
    refine CW.seq fun K3 hK3 => ?_
    refine CW.region ?_
    refine LW.pure rfl rfl (RV.move rfl) ?_
    refine LW.pure rfl rfl (RV.assign rfl) ?_
    refine LW.nil (hK3 _ _ ?_)
    refine CW.ret ?_
    obtain rfl := Option.some.inj F
    refine ⟨_, (ResOK.one rfl), ?_⟩
    exact ⟨Am1, cm1, hsm1, (by first | rfl | (simp; done) | (simp; omega)), H⟩
  ·
    intro K4 hK4 jK6752
    refine CW.seq fun K5 hK5 => ?_
    refine CW.region ?_
    refine LW.pure rfl rfl (RV.move rfl) ?_
    refine LW.pure rfl rfl (RV.len Ts39 rfl) ?_
    refine LW.pure rfl rfl (RV.move rfl) ?_
    refine LW.nil (hK5 _ _ ?_)
    refine CW.block ?_
    replace H := H.nilTab encRat 53 28 2
    replace R0 := H.ext
    refine CW.loop (fun meas ρ wl2 => ∃ (t18_1 : Int) (m3 : List (List Rat)) (hsm3 : List (Option Addr × Nat)) (Am3 : Option Addr) (cm3 : Nat), level_balance_L3 a0 a1 a2 meas t18_1 m3 = some res ∧ ρ = [(1, .slice A_a1 a1.length c_a1), (2, .func (.func f_a2) p_a2 q_a2), (3, .pointer (some (⟨b1, 0, none⟩))), (6, .slice none 0 0), (7, .slice Am3 m3.length cm3), (16, .slice A_a1 a1.length c_a1), (17, .int .i64 ((a1.length : Int))), (18, .int .i64 t18_1)] ∧ Hp w wl2 [.tab Am3 cm3 53 hsm3 28 2 (encM encRat m3), .blk b1 24 [.int .i64 a0.points, .slice A_a0_readings a0.readings.length c_a0_readings]]) FU ⟨_, ?_, ((0 : Int)), (([] : List (List Rat))), ([]), none, 0, F, rfl, H⟩ ?_
    · exact ⟨rfl, rfl, rfl, rfl, (look_slice rfl (by first | rfl | (simp; done) | omega | (simp; omega))), rfl, rfl, rfl, trivial⟩
    rintro mk1 _ wl2 ⟨t18_1, m3, hsm3, Am3, cm3, F, rfl, H⟩
    have R0 := H.ext
    replace F := level_balance_L3_s F
    obtain ⟨mk1, rfl, F⟩ := F
    generalize hrec1 : level_balance_L3 a0 a1 a2 mk1 = rec1 at F
    unfold level_balance_B3 at F
    refine CW.seq fun K6 hK6 => ?_
    refine CW.region ?_
    refine LW.pure rfl rfl (RV.lss rfl rfl) ?_
    refine LW.nil (hK6 _ _ ?_)
    refine CW.seq fun K7 hK7 => ?_
    by_cases hp1 : t18_1 < ((a1.length : Int))
    ·
      replace F := ite_y hp1 F
      have hq1 := dec_t hp1
      refine CW.condT rfl hq1 ?_
      refine CW.skip (hK7 _ _ ?_)
      refine CW.seqJ (fun ρ wl3 => (∃ (m2 : List (List Rat)) (hsm2 : List (Option Addr × Nat)) (Am2 : Option Addr) (cm2 : Nat), level_balance_k2 t18_1 rec1 m2 = some res ∧ ρ = [(1, .slice A_a1 a1.length c_a1), (2, .func (.func f_a2) p_a2 q_a2), (3, .pointer (some (⟨b1, 0, none⟩))), (6, .slice none 0 0), (7, .slice Am2 m2.length cm2), (16, .slice A_a1 a1.length c_a1), (17, .int .i64 ((a1.length : Int))), (18, .int .i64 t18_1)] ∧ Hp w wl3 [.tab Am2 cm2 53 hsm2 28 2 (encM encRat m2), .blk b1 24 [.int .i64 a0.points, .slice A_a0_readings a0.readings.length c_a0_readings]])) ?_ ?_
      ·
        rintro _ wl3 ⟨m2, hsm2, Am2, cm2, F, rfl, H⟩
        have R0 := H.ext
        unfold level_balance_k2 at F
        obtain ⟨hg1, F⟩ := gd_some F
        refine CW.region ?_
        refine LW.pure rfl rfl (RV.add rfl rfl hg1) ?_
        refine LW.pure rfl rfl (RV.move rfl) ?_
        refine LW.nil ?_
        subst hrec1
        refine ⟨mk1, Nat.lt_succ_self _, _, ?_, (t18_1 + 1), m2, hsm2, Am2, cm2, F, rfl, H⟩
        exact ⟨rfl, rfl, rfl, rfl, (look_slice rfl (by first | rfl | (simp; done) | omega | (simp; omega))), rfl, rfl, rfl, trivial⟩
      ·
        intro K8 hK8 jK8627
        refine CW.block ?_
        refine CW.seq fun K9 hK9 => ?_
        obtain ⟨x1, hbx1, hx1, F⟩ := ix_some F
        refine CW.region ?_
        refine LW.pure rfl rfl (RV.indexAddr Ts39 rfl rfl hbx1 (h_a1.addr_ hx1)) ?_
        refine LW.pure rfl rfl (RV.load1 Tk3 rfl ((h_a1.at_ hx1).ext R0) rfl) ?_
        refine LW.pure rfl rfl (RV.assign rfl) ?_
        refine LW.nil (hK9 _ _ ?_)
        refine CW.seq fun K10 hK10 => ?_
        obtain ⟨hg2, F⟩ := gd_some F
        obtain ⟨r6, hr6, F⟩ := bnd_some F
        refine CW.region ?_
        refine LW.pure rfl rfl (RV.build (vs := [.int .i64 1]) (cs := [.int .i64 0, .int .i64 1]) rfl (fun _ => by kernel_rfl)) ?_
        refine LW.go rfl rfl (OW.buildSlice (e := 28) (vs := [.agg #[.int .i64 0, .int .i64 1]]) (cs := [.int .i64 0, .int .i64 1]) rfl (fun _ => by kernel_rfl) fun b2 w3 N2 => ?_)
        replace H := H.made' (k := 2) (t := 28) (enc := encRat) (l := ([(⟨0, 1⟩ : Rat)] : List Rat)) N2 N2.blk (fun _ => rfl) rfl (by first | decide | omega | (simp; done) | (simp; omega))
        replace R0 := H.ext
        refine LW.pure rfl rfl (RV.move rfl) ?_
        refine LW.pure rfl rfl (RV.len Ts39 rfl) ?_
        refine LW.pure rfl rfl (RV.add rfl rfl hg2) ?_
        refine LW.go rfl rfl (OW.call Tc102 (evs_cast rfl (by first | rfl | (simp; done) | (simp; omega))) (slices_Repeat_Rat_ok (a0 := ([(⟨0, 1⟩ : Rat)] : List Rat)) (a1 := ((a1.length : Int)) + 1) (H.own 0 rfl).sl hr6) ?_)
        rintro _ w4 ⟨A6649_0, c6649_0, rfl, E1⟩
        refine ⟨_, rfl, ?_⟩
        replace H : Hp w w4 [.own A6649_0 c6649_0 28 2 (List.map encRat r6), .own (some ⟨b2, 0, none⟩) ((([(⟨0, 1⟩ : Rat)] : List Rat)).length) 28 2 (List.map encRat (([(⟨0, 1⟩ : Rat)] : List Rat))), .tab Am3 cm3 53 hsm3 28 2 (encM encRat m3), .blk b1 24 [.int .i64 a0.points, .slice A_a0_readings a0.readings.length c_a0_readings]] := H.append E1
        replace R0 := H.ext
        refine LW.go rfl rfl (OW.alloc Tz53 fun b3 w5 N3 => ?_)
        replace H := H.new N3 N3.blk
        replace R0 := H.ext
        refine LW.go rfl rfl (OW.store Tk53 rfl rfl (H.blk 0 rfl) (off := 0) (vs := [.slice A6649_0 r6.length c6649_0]) rfl rfl rfl rfl rfl fun w6 S1 => ?_)
        replace H : Hp w w6 [.blk b3 53 [.slice A6649_0 r6.length c6649_0], .own A6649_0 c6649_0 28 2 (List.map encRat r6), .own (some ⟨b2, 0, none⟩) ((([(⟨0, 1⟩ : Rat)] : List Rat)).length) 28 2 (List.map encRat (([(⟨0, 1⟩ : Rat)] : List Rat))), .tab Am3 cm3 53 hsm3 28 2 (encM encRat m3), .blk b1 24 [.int .i64 a0.points, .slice A_a0_readings a0.readings.length c_a0_readings]] := H.stored 0 rfl S1
        replace R0 := H.ext
        refine LW.nil (hK10 _ _ ?_)
        refine CW.seq fun K11 hK11 => ?_
        refine CW.region ?_
        refine LW.pure rfl rfl (RV.makeFunc (fs := []) (cs := [.pointer (some (⟨b3, 0, none⟩))]) rfl rfl) ?_
        refine LW.pure rfl rfl (RV.assign rfl) ?_
        refine LW.nil (hK11 _ _ ?_)
        refine CW.seqJ (fun ρ wl4 => (∃ (l1 : List Rat), level_balance_k3 a1 a2 t18_1 m3 rec1 x1 l1 = some res ∧ ρ = [(1, .slice A_a1 a1.length c_a1), (2, .func (.func f_a2) p_a2 q_a2), (3, .pointer (some (⟨b1, 0, none⟩))), (6, .slice none 0 0), (7, .slice Am3 m3.length cm3), (9, .int .i64 x1), (10, .pointer (some (⟨b3, 0, none⟩))), (16, .slice A_a1 a1.length c_a1), (17, .int .i64 ((a1.length : Int))), (18, .int .i64 t18_1)] ∧ Hp w wl4 [.tab Am3 cm3 53 hsm3 28 2 (encM encRat m3), .own A6649_0 c6649_0 28 2 (List.map encRat l1), .blk b1 24 [.int .i64 a0.points, .slice A_a0_readings a0.readings.length c_a0_readings], .blk b3 53 [.slice A6649_0 l1.length c6649_0]])) ?_ ?_
        ·
          rintro _ wl4 ⟨l1, F, rfl, H⟩
          have R0 := H.ext
          unfold level_balance_k3 at F
          refine CW.seq fun K12 hK12 => ?_
          obtain ⟨r1, hr1, F⟩ := bnd_some F
          obtain ⟨x2, hbx2, hx2, F⟩ := ix_some F
          refine CW.draw [8] (fun _ => True) (.cons 0 1 (.cons 1 1 (.cons 2 1 (.cons 3 1 (.cons 4 1 (.cons 5 0 (.cons 6 2 (.cons 7 1 (.cons 8 0 .nil))))))))) mixed (by kernel_rfl) fun w7 E2 => ?_
          replace H := H.grow E2
          replace R0 := H.ext
          refine DW.fix rfl rfl rfl (fun _ EQ => RV.load1 Tk53 rfl ((H.grow EQ).blk 3 rfl).cells rfl) ?_
          refine DW.fix rfl rfl rfl (fun _ EQ => RV.move rfl) ?_
          refine DW.fix rfl rfl rfl (fun _ EQ => RV.len Ts39 rfl) ?_
          refine DW.fix rfl rfl rfl (fun _ EQ => RV.move rfl) ?_
          refine DW.fix rfl rfl rfl (fun _ EQ => RV.move rfl) ?_
          refine DW.sole rfl rfl rfl (OW.callV2 rfl rfl rfl (h_a2 _ _ hr1 _ R0) ?_)
          rintro _ w8 ⟨rfl, E3⟩
          refine ⟨_, rfl, fun _ => E3, ModX.ext E3, ?_⟩
          replace H := H.grow E3
          replace R0 := H.ext
          refine DW.thru rfl rfl rfl (fun _ EQ => RV.indexAddr Ts53 rfl rfl hbx2 ((H.own 1 rfl).sl.addr_ hx2)) ?_
          refine DW.fix rfl rfl rfl (fun _ EQ => RV.fieldAddr Tf28_0 rfl) ?_
          refine DW.sole rfl rfl rfl (OW.storeO (enc := encRat) (vs := [.int .i64 r1]) 0 ((⟨r1, x2.den⟩ : Rat)) Tk3 rfl rfl (H.own 1 rfl) (fun _ => rfl) rfl hx2 rfl rfl (by decide) rfl rfl fun w9 M1 O1 => ?_)
          refine ⟨fun h => absurd h (by decide), M1.modx (fun _ _ => trivial), ?_⟩
          replace H : Hp w w9 [.tab Am3 cm3 53 hsm3 28 2 (encM encRat m3), .own A6649_0 c6649_0 28 2 (List.map encRat ((l1.set (Int.toNat ((a1.length : Int))) ((⟨r1, x2.den⟩ : Rat))))), .blk b1 24 [.int .i64 a0.points, .slice A_a0_readings a0.readings.length c_a0_readings], .blk b3 53 [.slice A6649_0 l1.length c6649_0]] := H.mod 1 rfl M1 O1 (.inl rfl)
          replace R0 := H.ext
          refine DW.nil (hK12 _ _ ?_)
          obtain ⟨hg3, F⟩ := gd_some F
          refine CW.region ?_
          refine LW.pure rfl rfl (RV.move rfl) ?_
          refine LW.pure rfl rfl (RV.load1 Tk53 rfl (H.blk 3 rfl).cells rfl) ?_
          refine LW.go rfl rfl (OW.buildSlice (e := 53) (vs := [.slice A6649_0 l1.length c6649_0]) (cs := [.slice A6649_0 l1.length c6649_0]) rfl (fun _ => by kernel_rfl) fun b4 w10 N4 => ?_)
          have hce1 : l1.length = ((l1.set (Int.toNat ((a1.length : Int))) ((⟨r1, x2.den⟩ : Rat)))).length := by first | omega | (simp; done) | (simp; omega) | rfl
          replace H := H.made' (k := 1) (t := 53) (enc := encH) (l := ([((A6649_0, c6649_0), List.map encRat ((l1.set (Int.toNat ((a1.length : Int))) ((⟨r1, x2.den⟩ : Rat)))))] : List ((Option Addr × Nat) × List (List Value)))) N4 (by have q := N4.blk; simp only [List.flatMap_cons, List.flatMap_nil, encH, List.length_map, List.append_nil, List.cons_append, List.nil_append]; first | done | exact q | (rw [← hce1]; exact q) | (simp only [List.nil_append, List.append_nil, List.cons_append] at hce1 q; rw [← hce1]; exact q)) (fun _ => rfl) rfl (by first | decide | omega | (simp; done) | (simp; omega))
          replace R0 := H.ext
          refine LW.go rfl rfl (OW.appendT (enc := encRat) (m := m3) (l := (l1.set (Int.toNat ((a1.length : Int))) ((⟨r1, x2.den⟩ : Rat)))) Ts101 rfl rfl (H.tab 1 rfl) (H.own 0 rfl).sl rfl hg3 (by decide) fun A2 c2 w11 O2 M2 D1 => ?_)
          replace H : Hp w w11 [.own (some ⟨b4, 0, none⟩) ((([((A6649_0, c6649_0), List.map encRat ((l1.set (Int.toNat ((a1.length : Int))) ((⟨r1, x2.den⟩ : Rat)))))] : List ((Option Addr × Nat) × List (List Value)))).length) 53 1 (List.map encH (([((A6649_0, c6649_0), List.map encRat ((l1.set (Int.toNat ((a1.length : Int))) ((⟨r1, x2.den⟩ : Rat)))))] : List ((Option Addr × Nat) × List (List Value))))), .tab A2 c2 53 ((hsm3 ++ [(A6649_0, c6649_0)])) 28 2 (encM encRat ((m3 ++ [(l1.set (Int.toNat ((a1.length : Int))) ((⟨r1, x2.den⟩ : Rat)))]))), .blk b1 24 [.int .i64 a0.points, .slice A_a0_readings a0.readings.length c_a0_readings], .blk b3 53 [.slice A6649_0 l1.length c6649_0]] := H.tabPush 1 2 (by decide) rfl rfl M2 D1 O2
          replace R0 := H.ext
          refine LW.pure rfl rfl (RV.assign rfl) ?_
          replace H := H.pick (L' := [.tab A2 c2 53 ((hsm3 ++ [(A6649_0, c6649_0)])) 28 2 (encM encRat ((m3 ++ [(l1.set (Int.toNat ((a1.length : Int))) ((⟨r1, x2.den⟩ : Rat)))]))), .blk b1 24 [.int .i64 a0.points, .slice A_a0_readings a0.readings.length c_a0_readings]]) [1, 2] (by decide) rfl
          replace R0 := H.ext
          refine LW.nil (jK8627 _ _ ⟨_, ?_, ⟨((m3 ++ [(l1.set (Int.toNat ((a1.length : Int))) ((⟨r1, x2.den⟩ : Rat)))])), ((hsm3 ++ [(A6649_0, c6649_0)])), A2, c2, F, rfl, H⟩⟩)
          exact ⟨rfl, rfl, rfl, rfl, (look_slice rfl (by first | rfl | (simp; done) | omega | (simp; omega))), rfl, rfl, rfl, trivial⟩
        ·
          intro K13 hK13 jK8816
          refine CW.seq fun K14 hK14 => ?_
          refine CW.region ?_
          refine LW.pure rfl rfl (RV.fieldAddr Tf24_1 rfl) ?_
          refine LW.pure rfl rfl (RV.load1 Tk22 rfl ((H.blk 4 rfl).cells.off 1) rfl) ?_
          refine LW.pure rfl rfl (RV.len Ts22 rfl) ?_
          refine LW.pure rfl rfl (RV.move rfl) ?_
          refine LW.nil (hK14 _ _ ?_)
          refine CW.block ?_
          replace H := H.pick (L' := [.tab Am3 cm3 53 hsm3 28 2 (encM encRat m3), .own A6649_0 c6649_0 28 2 (List.map encRat r6), .blk b1 24 [.int .i64 a0.points, .slice A_a0_readings a0.readings.length c_a0_readings], .blk b3 53 [.slice A6649_0 r6.length c6649_0]]) [3, 1, 4, 0] (by decide) rfl
          replace R0 := H.ext
          refine CW.loop (fun meas ρ wl5 => ∃ (t32_1 : Int) (l5 : List Rat), level_balance_L2 a0 a1 a2 t18_1 m3 rec1 x1 meas t32_1 l5 = some res ∧ ρ = [(1, .slice A_a1 a1.length c_a1), (2, .func (.func f_a2) p_a2 q_a2), (3, .pointer (some (⟨b1, 0, none⟩))), (6, .slice none 0 0), (7, .slice Am3 m3.length cm3), (9, .int .i64 x1), (10, .pointer (some (⟨b3, 0, none⟩))), (11, .func (.func 109) #[] #[.pointer (some (⟨b3, 0, none⟩))]), (16, .slice A_a1 a1.length c_a1), (17, .int .i64 ((a1.length : Int))), (18, .int .i64 t18_1), (30, .slice A_a0_readings a0.readings.length c_a0_readings), (31, .int .i64 ((a0.readings.length : Int))), (32, .int .i64 t32_1)] ∧ Hp w wl5 [.tab Am3 cm3 53 hsm3 28 2 (encM encRat m3), .own A6649_0 c6649_0 28 2 (List.map encRat l5), .blk b1 24 [.int .i64 a0.points, .slice A_a0_readings a0.readings.length c_a0_readings], .blk b3 53 [.slice A6649_0 l5.length c6649_0]]) FU ⟨_, ?_, ((0 : Int)), r6, F, rfl, H⟩ ?_
          · exact ⟨rfl, rfl, rfl, rfl, (look_slice rfl (by first | rfl | (simp; done) | omega | (simp; omega))), rfl, rfl, rfl, rfl, rfl, rfl, rfl, rfl, rfl, trivial⟩
          rintro mk2 _ wl5 ⟨t32_1, l5, F, rfl, H⟩
          have R0 := H.ext
          replace F := level_balance_L2_s F
          obtain ⟨mk2, rfl, F⟩ := F
          generalize hrec2 : level_balance_L2 a0 a1 a2 t18_1 m3 rec1 x1 mk2 = rec2 at F
          unfold level_balance_B2 at F
          refine CW.seq fun K15 hK15 => ?_
          refine CW.region ?_
          refine LW.pure rfl rfl (RV.lss rfl rfl) ?_
          refine LW.nil (hK15 _ _ ?_)
          refine CW.seq fun K16 hK16 => ?_
          by_cases hp2 : t32_1 < ((a0.readings.length : Int))
          ·
            replace F := ite_y hp2 F
            have hq2 := dec_t hp2
            refine CW.condT rfl hq2 ?_
            refine CW.skip (hK16 _ _ ?_)
            refine CW.seqJ (fun ρ wl6 => (∃ (l2 : List Rat), level_balance_k4 t32_1 rec2 l2 = some res ∧ ρ = [(1, .slice A_a1 a1.length c_a1), (2, .func (.func f_a2) p_a2 q_a2), (3, .pointer (some (⟨b1, 0, none⟩))), (6, .slice none 0 0), (7, .slice Am3 m3.length cm3), (9, .int .i64 x1), (10, .pointer (some (⟨b3, 0, none⟩))), (11, .func (.func 109) #[] #[.pointer (some (⟨b3, 0, none⟩))]), (16, .slice A_a1 a1.length c_a1), (17, .int .i64 ((a1.length : Int))), (18, .int .i64 t18_1), (30, .slice A_a0_readings a0.readings.length c_a0_readings), (31, .int .i64 ((a0.readings.length : Int))), (32, .int .i64 t32_1)] ∧ Hp w wl6 [.tab Am3 cm3 53 hsm3 28 2 (encM encRat m3), .own A6649_0 c6649_0 28 2 (List.map encRat l2), .blk b1 24 [.int .i64 a0.points, .slice A_a0_readings a0.readings.length c_a0_readings], .blk b3 53 [.slice A6649_0 l2.length c6649_0]])) ?_ ?_
            ·
              rintro _ wl6 ⟨l2, F, rfl, H⟩
              have R0 := H.ext
              unfold level_balance_k4 at F
              obtain ⟨hg4, F⟩ := gd_some F
              refine CW.region ?_
              refine LW.pure rfl rfl (RV.add rfl rfl hg4) ?_
              refine LW.pure rfl rfl (RV.move rfl) ?_
              refine LW.nil ?_
              subst hrec2
              refine ⟨mk2, Nat.lt_succ_self _, _, ?_, (t32_1 + 1), l2, F, rfl, H⟩
              exact ⟨rfl, rfl, rfl, rfl, (look_slice rfl (by first | rfl | (simp; done) | omega | (simp; omega))), rfl, rfl, rfl, rfl, rfl, rfl, rfl, rfl, rfl, trivial⟩
            ·
              intro K17 hK17 jK8971
              refine CW.block ?_
              refine CW.seq fun K18 hK18 => ?_
              obtain ⟨x3, hbx3, hx3, F⟩ := ix_some F
              refine CW.region ?_
              refine LW.pure rfl rfl (RV.indexAddr Ts22 rfl rfl hbx3 (h_a0_readings.addr_ hx3)) ?_
              refine LW.pure rfl rfl (RV.loadA [.int .i64 x3.from_, .int .i64 x3.to_, .int .i64 x3.rise, .int .i64 x3.weight] Tk46 rfl ((h_a0_readings.at_ hx3).ext R0) rfl rfl) ?_
              refine LW.go rfl rfl (OW.alloc Tz46 fun b5 w12 N5 => ?_)
              replace H := H.new N5 N5.blk
              replace R0 := H.ext
              refine LW.go rfl rfl (OW.store Tk46 rfl rfl (H.blk 0 rfl) (off := 0) (vs := [.int .i64 x3.from_, .int .i64 x3.to_, .int .i64 x3.rise, .int .i64 x3.weight]) rfl rfl rfl rfl rfl fun w13 S2 => ?_)
              replace H : Hp w w13 [.blk b5 46 [.int .i64 x3.from_, .int .i64 x3.to_, .int .i64 x3.rise, .int .i64 x3.weight], .tab Am3 cm3 53 hsm3 28 2 (encM encRat m3), .own A6649_0 c6649_0 28 2 (List.map encRat l5), .blk b1 24 [.int .i64 a0.points, .slice A_a0_readings a0.readings.length c_a0_readings], .blk b3 53 [.slice A6649_0 l5.length c6649_0]] := H.stored 0 rfl S2
              replace R0 := H.ext
              refine LW.nil (hK18 _ _ ?_)
              refine CW.seq fun K19 hK19 => ?_
              refine CW.region ?_
              refine LW.pure rfl rfl (RV.fieldAddr Tf46_0 rfl) ?_
              refine LW.pure rfl rfl (RV.load1 Tk3 rfl ((H.blk 0 rfl).cells.off 0) rfl) ?_
              refine LW.pure rfl rfl (RV.fieldAddr Tf46_1 rfl) ?_
              refine LW.pure rfl rfl (RV.load1 Tk3 rfl ((H.blk 0 rfl).cells.off 1) rfl) ?_
              refine LW.pure rfl rfl (RV.build (vs := [.int .i64 x3.from_, .int .i64 x3.to_]) (cs := [.int .i64 x3.from_, .int .i64 x3.to_]) rfl (fun _ => by kernel_rfl)) ?_
              refine LW.pure rfl rfl (RV.fieldAddr Tf46_1 rfl) ?_
              refine LW.pure rfl rfl (RV.load1 Tk3 rfl ((H.blk 0 rfl).cells.off 1) rfl) ?_
              refine LW.pure rfl rfl (RV.fieldAddr Tf46_0 rfl) ?_
              refine LW.pure rfl rfl (RV.load1 Tk3 rfl ((H.blk 0 rfl).cells.off 0) rfl) ?_
              refine LW.pure rfl rfl (RV.build (vs := [.int .i64 x3.to_, .int .i64 x3.from_]) (cs := [.int .i64 x3.to_, .int .i64 x3.from_]) rfl (fun _ => by kernel_rfl)) ?_
              refine LW.pure rfl rfl (RV.build (vs := [.agg #[.int .i64 x3.from_, .int .i64 x3.to_], .agg #[.int .i64 x3.to_, .int .i64 x3.from_]]) (cs := [.int .i64 x3.from_, .int .i64 x3.to_, .int .i64 x3.to_, .int .i64 x3.from_]) rfl (fun _ => by kernel_rfl)) ?_
              refine LW.pure rfl rfl (RV.move rfl) ?_
              refine LW.nil (hK19 _ _ ?_)
              refine CW.block ?_
              replace H := H.pick (L' := [.tab Am3 cm3 53 hsm3 28 2 (encM encRat m3), .own A6649_0 c6649_0 28 2 (List.map encRat l5), .blk b1 24 [.int .i64 a0.points, .slice A_a0_readings a0.readings.length c_a0_readings], .blk b3 53 [.slice A6649_0 l5.length c6649_0], .blk b5 46 [.int .i64 x3.from_, .int .i64 x3.to_, .int .i64 x3.rise, .int .i64 x3.weight]]) [1, 2, 3, 4, 0] (by decide) rfl
              replace R0 := H.ext
              refine CW.loop (fun meas ρ wl7 => ∃ (t47_1 : Int) (l4 : List Rat), level_balance_L1 a1 x1 t32_1 rec2 x3 meas t47_1 l4 = some res ∧ ρ = [(1, .slice A_a1 a1.length c_a1), (2, .func (.func f_a2) p_a2 q_a2), (3, .pointer (some (⟨b1, 0, none⟩))), (6, .slice none 0 0), (7, .slice Am3 m3.length cm3), (9, .int .i64 x1), (10, .pointer (some (⟨b3, 0, none⟩))), (11, .func (.func 109) #[] #[.pointer (some (⟨b3, 0, none⟩))]), (13, .pointer (some (⟨b5, 0, none⟩))), (16, .slice A_a1 a1.length c_a1), (17, .int .i64 ((a1.length : Int))), (18, .int .i64 t18_1), (30, .slice A_a0_readings a0.readings.length c_a0_readings), (31, .int .i64 ((a0.readings.length : Int))), (32, .int .i64 t32_1), (46, .agg #[.int .i64 x3.from_, .int .i64 x3.to_, .int .i64 x3.to_, .int .i64 x3.from_]), (47, .int .i64 t47_1)] ∧ Hp w wl7 [.tab Am3 cm3 53 hsm3 28 2 (encM encRat m3), .own A6649_0 c6649_0 28 2 (List.map encRat l4), .blk b1 24 [.int .i64 a0.points, .slice A_a0_readings a0.readings.length c_a0_readings], .blk b3 53 [.slice A6649_0 l4.length c6649_0], .blk b5 46 [.int .i64 x3.from_, .int .i64 x3.to_, .int .i64 x3.rise, .int .i64 x3.weight]]) FU ⟨_, ?_, ((0 : Int)), l5, F, rfl, H⟩ ?_
              · exact ⟨rfl, rfl, rfl, rfl, (look_slice rfl (by first | rfl | (simp; done) | omega | (simp; omega))), rfl, rfl, rfl, rfl, rfl, rfl, rfl, rfl, rfl, rfl, rfl, rfl, trivial⟩
              rintro mk3 _ wl7 ⟨t47_1, l4, F, rfl, H⟩
              have R0 := H.ext
              replace F := level_balance_L1_s F
              obtain ⟨mk3, rfl, F⟩ := F
              generalize hrec3 : level_balance_L1 a1 x1 t32_1 rec2 x3 mk3 = rec3 at F
              unfold level_balance_B1 at F
              refine CW.seq fun K20 hK20 => ?_
              refine CW.region ?_
              refine LW.pure rfl rfl (RV.lss rfl rfl) ?_
              refine LW.nil (hK20 _ _ ?_)
              refine CW.seq fun K21 hK21 => ?_
              by_cases hp3 : t47_1 < 2
              ·
                replace F := ite_y hp3 F
                have hq3 := dec_t hp3
                refine CW.condT rfl hq3 ?_
                refine CW.skip (hK21 _ _ ?_)
                refine CW.seqJ (fun ρ wl8 => (∃ (l3 : List Rat), level_balance_k5 t47_1 rec3 l3 = some res ∧ ρ = [(1, .slice A_a1 a1.length c_a1), (2, .func (.func f_a2) p_a2 q_a2), (3, .pointer (some (⟨b1, 0, none⟩))), (6, .slice none 0 0), (7, .slice Am3 m3.length cm3), (9, .int .i64 x1), (10, .pointer (some (⟨b3, 0, none⟩))), (11, .func (.func 109) #[] #[.pointer (some (⟨b3, 0, none⟩))]), (13, .pointer (some (⟨b5, 0, none⟩))), (16, .slice A_a1 a1.length c_a1), (17, .int .i64 ((a1.length : Int))), (18, .int .i64 t18_1), (30, .slice A_a0_readings a0.readings.length c_a0_readings), (31, .int .i64 ((a0.readings.length : Int))), (32, .int .i64 t32_1), (46, .agg #[.int .i64 x3.from_, .int .i64 x3.to_, .int .i64 x3.to_, .int .i64 x3.from_]), (47, .int .i64 t47_1)] ∧ Hp w wl8 [.tab Am3 cm3 53 hsm3 28 2 (encM encRat m3), .own A6649_0 c6649_0 28 2 (List.map encRat l3), .blk b1 24 [.int .i64 a0.points, .slice A_a0_readings a0.readings.length c_a0_readings], .blk b3 53 [.slice A6649_0 l3.length c6649_0], .blk b5 46 [.int .i64 x3.from_, .int .i64 x3.to_, .int .i64 x3.rise, .int .i64 x3.weight]])) ?_ ?_
                ·
                  rintro _ wl8 ⟨l3, F, rfl, H⟩
                  have R0 := H.ext
                  unfold level_balance_k5 at F
                  obtain ⟨hg5, F⟩ := gd_some F
                  refine CW.region ?_
                  refine LW.pure rfl rfl (RV.add rfl rfl hg5) ?_
                  refine LW.pure rfl rfl (RV.move rfl) ?_
                  refine LW.nil ?_
                  subst hrec3
                  refine ⟨mk3, Nat.lt_succ_self _, _, ?_, (t47_1 + 1), l3, F, rfl, H⟩
                  exact ⟨rfl, rfl, rfl, rfl, (look_slice rfl (by first | rfl | (simp; done) | omega | (simp; omega))), rfl, rfl, rfl, rfl, rfl, rfl, rfl, rfl, rfl, rfl, rfl, rfl, trivial⟩
                ·
                  intro K22 hK22 jK8997
                  refine CW.block ?_
                  refine CW.seq fun K23 hK23 => ?_
                  obtain ⟨x4, hbx4, hx4, F⟩ := ix_some F
                  refine CW.region ?_
                  refine LW.pure rfl rfl (RV.indexV (enc := encArr2) (l := ([(⟨x3.from_, x3.to_⟩ : Arr2), (⟨x3.to_, x3.from_⟩ : Arr2)] : List Arr2)) (vs := [.int .i64 x3.from_, .int .i64 x3.to_, .int .i64 x3.to_, .int .i64 x3.from_]) Ta114 Tk113 rfl rfl (fun _ => rfl) rfl rfl hbx4.1 hx4) ?_
                  refine LW.go rfl rfl (OW.alloc Tz113 fun b6 w14 N6 => ?_)
                  replace H := H.made' (k := 1) (t := 113) (enc := encN) (l := ([0, 0] : List Int)) N6 N6.blk (fun _ => rfl) rfl (by first | decide | (simp; done) | (simp; omega))
                  replace R0 := H.ext
                  refine LW.go rfl rfl (OW.storeArr (l' := ([x4.at0, x4.at1] : List Int)) (vs := [.int .i64 x4.at0, .int .i64 x4.at1]) Tk113 rfl rfl (H.own 0 rfl) (fun _ => rfl) (by first | rfl | omega | (simp; done) | (simp; omega)) rfl rfl rfl rfl fun w15 M3 O3 => ?_)
                  replace H : Hp w w15 [.own (some ⟨b6, 0, none⟩) 2 113 1 (List.map encN (([x4.at0, x4.at1] : List Int))), .tab Am3 cm3 53 hsm3 28 2 (encM encRat m3), .own A6649_0 c6649_0 28 2 (List.map encRat l4), .blk b1 24 [.int .i64 a0.points, .slice A_a0_readings a0.readings.length c_a0_readings], .blk b3 53 [.slice A6649_0 l4.length c6649_0], .blk b5 46 [.int .i64 x3.from_, .int .i64 x3.to_, .int .i64 x3.rise, .int .i64 x3.weight]] := H.mod 0 rfl M3 O3 (.inl rfl)
                  replace R0 := H.ext
                  refine LW.nil (hK23 _ _ ?_)
                  refine CW.seq fun K24 hK24 => ?_
                  obtain ⟨x5, hbx5, hx5, F⟩ := ix_some F
                  refine CW.region ?_
                  refine LW.pure rfl rfl (RV.indexArr Ta113 rfl rfl ⟨hbx5.1, (by first | exact hbx5.2 | omega | (have q := hbx5.2; simp at q; omega))⟩) ?_
                  refine LW.pure rfl rfl (RV.load1 Tk3 rfl ((H.own 0 rfl).sl.at_ hx5) rfl) ?_
                  refine LW.pure rfl rfl (RV.move rfl) ?_
                  refine LW.pure rfl rfl (RV.eqi rfl rfl) ?_
                  refine LW.nil (hK24 _ _ ?_)
                  by_cases hp4 : x5 = x1
                  ·
                    replace F := ite_y hp4 F
                    have hq4 := dec_t hp4
                    refine CW.condT rfl hq4 ?_
                    refine CW.seq fun K25 hK25 => ?_
                    obtain ⟨r2, hr2, F⟩ := bnd_some F
                    obtain ⟨r3, hr3, F⟩ := bnd_some F
                    refine CW.draw [6] (fun _ => True) (.cons 0 1 (.cons 1 2 (.cons 2 2 (.cons 4 2 (.cons 5 1 (.cons 3 0 (.cons 6 0 .nil))))))) mixed (by kernel_rfl) fun w16 E4 => ?_
                    replace H := H.grow E4
                    replace R0 := H.ext
                    refine DW.fix rfl rfl rfl (fun _ EQ => RV.move rfl) ?_
                    refine DW.thru rfl rfl rfl (fun _ EQ => RV.move rfl) ?_
                    refine DW.thru rfl rfl rfl (fun _ EQ => RV.move rfl) ?_
                    refine DW.thru rfl rfl rfl (fun _ EQ => RV.fieldAddr Tf46_3 rfl) ?_
                    refine DW.fix rfl rfl rfl (fun _ EQ => RV.load1 Tk3 rfl (((H.grow EQ).blk 5 rfl).cells.off 3) rfl) ?_
                    refine DW.sole rfl rfl rfl (OW.call Tc94 rfl (slices_Index_int_ok (a0 := a1) (a1 := x1) (h_a1.ext R0) hr2) ?_)
                    rintro _ w17 ⟨rfl, E5⟩
                    refine ⟨_, rfl, fun _ => E5, ModX.ext E5, ?_⟩
                    replace H := H.grow E5
                    replace R0 := H.ext
                    replace H := H.pick (L' := [.own A6649_0 c6649_0 28 2 (List.map encRat l4), .blk b3 53 [.slice A6649_0 l4.length c6649_0], .own (some ⟨b6, 0, none⟩) 2 113 1 (List.map encN (([x4.at0, x4.at1] : List Int))), .tab Am3 cm3 53 hsm3 28 2 (encM encRat m3), .blk b1 24 [.int .i64 a0.points, .slice A_a0_readings a0.readings.length c_a0_readings], .blk b5 46 [.int .i64 x3.from_, .int .i64 x3.to_, .int .i64 x3.rise, .int .i64 x3.weight]]) [2, 4, 0, 1, 3, 5] (by decide) rfl
                    replace R0 := H.ext
                    obtain ⟨Ex1, HE1, Hz1⟩ := Hp.freeze2 (a := .own A6649_0 c6649_0 28 2 (List.map encRat l4)) (L := [.own (some ⟨b6, 0, none⟩) 2 113 1 (List.map encN (([x4.at0, x4.at1] : List Int))), .tab Am3 cm3 53 hsm3 28 2 (encM encRat m3), .blk b1 24 [.int .i64 a0.points, .slice A_a0_readings a0.readings.length c_a0_readings], .blk b5 46 [.int .i64 x3.from_, .int .i64 x3.to_, .int .i64 x3.rise, .int .i64 x3.weight]]) H
                    refine DW.sole rfl rfl rfl (OW.callV2 rfl rfl rfl (CallsV.cap Tc109 (by simp) (level_balance_1_ok (cap0 := l4) (a0 := r2) (a1 := x3.weight) (R := Ex1) HE1 hr3)) ?_)
                    rintro _ w18 ⟨rfl, hlm6937_cap0, Hq1⟩
                    obtain ⟨Hq1, hz1s, hz1k⟩ := Hz1 w18 (.own A6649_0 c6649_0 28 2 (List.map encRat r3)) [] rfl Hq1
                    refine ⟨_, rfl, fun h => absurd h (by decide), ModX.frz hz1s hz1k (fun _ _ => trivial), ?_⟩
                    replace H : Hp w w18 [.own A6649_0 c6649_0 28 2 (List.map encRat r3), .blk b3 53 [.slice A6649_0 l4.length c6649_0], .own (some ⟨b6, 0, none⟩) 2 113 1 (List.map encN (([x4.at0, x4.at1] : List Int))), .tab Am3 cm3 53 hsm3 28 2 (encM encRat m3), .blk b1 24 [.int .i64 a0.points, .slice A_a0_readings a0.readings.length c_a0_readings], .blk b5 46 [.int .i64 x3.from_, .int .i64 x3.to_, .int .i64 x3.rise, .int .i64 x3.weight]] := Hq1
                    replace R0 := H.ext
                    refine DW.nil (hK25 _ _ ?_)
                    obtain ⟨x6, hbx6, hx6, F⟩ := ix_some F
                    obtain ⟨r4, hr4, F⟩ := bnd_some F
                    obtain ⟨hg6, F⟩ := gd_some F
                    obtain ⟨r5, hr5, F⟩ := bnd_some F
                    have H0 := H
                    have hz : w18.heap.size ≤ w18.heap.size := Nat.le_refl _
                    refine CW.draw [8] (XB w18 [.own A6649_0 c6649_0 28 2 (List.map encRat r3), .blk b3 53 [.slice A6649_0 l4.length c6649_0], .own (some ⟨b6, 0, none⟩) 2 113 1 (List.map encN (([x4.at0, x4.at1] : List Int))), .tab Am3 cm3 53 hsm3 28 2 (encM encRat m3), .blk b1 24 [.int .i64 a0.points, .slice A_a0_readings a0.readings.length c_a0_readings], .blk b5 46 [.int .i64 x3.from_, .int .i64 x3.to_, .int .i64 x3.rise, .int .i64 x3.weight]] [0, 1]) (.cons 0 1 (.cons 1 2 (.cons 2 2 (.cons 3 2 (.cons 5 2 (.cons 6 2 (.cons 7 1 (.cons 4 0 (.cons 8 0 .nil))))))))) mixed (by kernel_rfl) fun w19 E6 => ?_
                    replace H := H.grow E6
                    replace R0 := H.ext
                    replace hz := Nat.le_trans hz (Ext.size E6)
                    refine DW.fix rfl rfl rfl (fun _ EQ => RV.move rfl) ?_
                    refine DW.thru rfl rfl rfl (fun _ EQ => RV.move rfl) ?_
                    refine DW.thru rfl rfl rfl (fun _ EQ => RV.indexArr Ta113 rfl rfl ⟨hbx6.1, (by first | exact hbx6.2 | omega | (have q := hbx6.2; simp at q; omega))⟩) ?_
                    refine DW.thru rfl rfl rfl (fun _ EQ => RV.load1 Tk3 rfl ((H.thruO 2 rfl EQ (H0.notX [0, 1] 2 rfl (by decide))).sl.at_ hx6) rfl) ?_
                    refine DW.thru rfl rfl rfl (fun _ EQ => RV.fieldAddr Tf46_3 rfl) ?_
                    refine DW.thru rfl rfl rfl (fun _ EQ => RV.load1 Tk3 rfl ((H.thruB 5 rfl EQ (H0.notX [0, 1] 5 rfl (by decide))).cells.off 3) rfl) ?_
                    refine DW.fix rfl rfl rfl (fun _ EQ => RV.neg rfl hg6) ?_
                    refine DW.sole rfl rfl rfl (OW.call Tc94 rfl (slices_Index_int_ok (a0 := a1) (a1 := x6) (h_a1.ext R0) hr4) ?_)
                    rintro _ w20 ⟨rfl, E7⟩
                    refine ⟨_, rfl, fun _ => E7, ModX.ext E7, ?_⟩
                    replace H := H.grow E7
                    replace R0 := H.ext
                    replace hz := Nat.le_trans hz (Ext.size E7)
                    replace H := H.pick (L' := [.own A6649_0 c6649_0 28 2 (List.map encRat r3), .blk b3 53 [.slice A6649_0 l4.length c6649_0], .own (some ⟨b6, 0, none⟩) 2 113 1 (List.map encN (([x4.at0, x4.at1] : List Int))), .tab Am3 cm3 53 hsm3 28 2 (encM encRat m3), .blk b1 24 [.int .i64 a0.points, .slice A_a0_readings a0.readings.length c_a0_readings], .blk b5 46 [.int .i64 x3.from_, .int .i64 x3.to_, .int .i64 x3.rise, .int .i64 x3.weight]]) [0, 1, 2, 3, 4, 5] (by decide) rfl
                    replace R0 := H.ext
                    have hce2 : l4.length = r3.length := by first | omega | (simp; done) | (simp; omega) | rfl | assumption
                    replace H := H.cast (L' := [.own A6649_0 c6649_0 28 2 (List.map encRat r3), .blk b3 53 [.slice A6649_0 r3.length c6649_0], .own (some ⟨b6, 0, none⟩) 2 113 1 (List.map encN (([x4.at0, x4.at1] : List Int))), .tab Am3 cm3 53 hsm3 28 2 (encM encRat m3), .blk b1 24 [.int .i64 a0.points, .slice A_a0_readings a0.readings.length c_a0_readings], .blk b5 46 [.int .i64 x3.from_, .int .i64 x3.to_, .int .i64 x3.rise, .int .i64 x3.weight]]) (by first | (rw [hce2]; done) | simp [hce2] | rfl)
                    obtain ⟨Ex2, HE2, Hz2⟩ := Hp.freeze2 (a := .own A6649_0 c6649_0 28 2 (List.map encRat r3)) (L := [.own (some ⟨b6, 0, none⟩) 2 113 1 (List.map encN (([x4.at0, x4.at1] : List Int))), .tab Am3 cm3 53 hsm3 28 2 (encM encRat m3), .blk b1 24 [.int .i64 a0.points, .slice A_a0_readings a0.readings.length c_a0_readings], .blk b5 46 [.int .i64 x3.from_, .int .i64 x3.to_, .int .i64 x3.rise, .int .i64 x3.weight]]) H
                    refine DW.sole rfl rfl rfl (OW.callV2 rfl rfl rfl (CallsV.cap Tc109 (by simp) (level_balance_1_ok (cap0 := r3) (a0 := r4) (a1 := -x3.weight) (R := Ex2) HE2 hr5)) ?_)
                    rintro _ w21 ⟨rfl, hlm6943_cap0, Hq2⟩
                    obtain ⟨Hq2, hz2s, hz2k⟩ := Hz2 w21 (.own A6649_0 c6649_0 28 2 (List.map encRat r5)) [] rfl Hq2
                    refine ⟨_, rfl, fun h => absurd h (by decide), ModX.frz hz2s hz2k (XB.own_ 0 (by decide) rfl), ?_⟩
                    replace H : Hp w w21 [.own A6649_0 c6649_0 28 2 (List.map encRat r5), .blk b3 53 [.slice A6649_0 r3.length c6649_0], .own (some ⟨b6, 0, none⟩) 2 113 1 (List.map encN (([x4.at0, x4.at1] : List Int))), .tab Am3 cm3 53 hsm3 28 2 (encM encRat m3), .blk b1 24 [.int .i64 a0.points, .slice A_a0_readings a0.readings.length c_a0_readings], .blk b5 46 [.int .i64 x3.from_, .int .i64 x3.to_, .int .i64 x3.rise, .int .i64 x3.weight]] := Hq2
                    replace R0 := H.ext
                    replace hz := Nat.le_trans hz hz2s
                    replace H := H.pick (L' := [.tab Am3 cm3 53 hsm3 28 2 (encM encRat m3), .own A6649_0 c6649_0 28 2 (List.map encRat r5), .blk b1 24 [.int .i64 a0.points, .slice A_a0_readings a0.readings.length c_a0_readings], .blk b3 53 [.slice A6649_0 r3.length c6649_0], .blk b5 46 [.int .i64 x3.from_, .int .i64 x3.to_, .int .i64 x3.rise, .int .i64 x3.weight]]) [3, 0, 4, 1, 5] (by decide) rfl
                    replace R0 := H.ext
                    have hce3 : r3.length = r5.length := by first | omega | (simp; done) | (simp; omega) | rfl | assumption
                    replace H := H.cast (L' := [.tab Am3 cm3 53 hsm3 28 2 (encM encRat m3), .own A6649_0 c6649_0 28 2 (List.map encRat r5), .blk b1 24 [.int .i64 a0.points, .slice A_a0_readings a0.readings.length c_a0_readings], .blk b3 53 [.slice A6649_0 r5.length c6649_0], .blk b5 46 [.int .i64 x3.from_, .int .i64 x3.to_, .int .i64 x3.rise, .int .i64 x3.weight]]) (by first | (rw [hce3]; done) | simp [hce3] | rfl)
                    refine DW.nil (jK8997 _ _ ⟨_, ?_, ⟨r5, F, rfl, H⟩⟩)
                    exact ⟨rfl, rfl, rfl, rfl, (look_slice rfl (by first | rfl | (simp; done) | omega | (simp; omega))), rfl, rfl, rfl, rfl, rfl, rfl, rfl, rfl, rfl, rfl, rfl, rfl, trivial⟩
                  ·
                    replace F := ite_n hp4 F
                    have hq4 := dec_f hp4
                    refine CW.condF rfl hq4 ?_
                    replace H := H.pick (L' := [.tab Am3 cm3 53 hsm3 28 2 (encM encRat m3), .own A6649_0 c6649_0 28 2 (List.map encRat l4), .blk b1 24 [.int .i64 a0.points, .slice A_a0_readings a0.readings.length c_a0_readings], .blk b3 53 [.slice A6649_0 l4.length c6649_0], .blk b5 46 [.int .i64 x3.from_, .int .i64 x3.to_, .int .i64 x3.rise, .int .i64 x3.weight]]) [1, 2, 3, 4, 5] (by decide) rfl
                    replace R0 := H.ext
                    refine CW.skip (jK8997 _ _ ⟨_, ?_, ⟨l4, F, rfl, H⟩⟩)
                    exact ⟨rfl, rfl, rfl, rfl, (look_slice rfl (by first | rfl | (simp; done) | omega | (simp; omega))), rfl, rfl, rfl, rfl, rfl, rfl, rfl, rfl, rfl, rfl, rfl, rfl, trivial⟩
              ·
                replace F := ite_n hp3 F
                have hq3 := dec_f hp3
                refine CW.condF rfl hq3 ?_
                replace H := H.pick (L' := [.tab Am3 cm3 53 hsm3 28 2 (encM encRat m3), .own A6649_0 c6649_0 28 2 (List.map encRat l4), .blk b1 24 [.int .i64 a0.points, .slice A_a0_readings a0.readings.length c_a0_readings], .blk b3 53 [.slice A6649_0 l4.length c6649_0]]) [0, 1, 2, 3] (by decide) rfl
                replace R0 := H.ext
                refine CW.exit (jK8971 _ _ ⟨_, ?_, ⟨l4, F, rfl, H⟩⟩)
                exact ⟨rfl, rfl, rfl, rfl, (look_slice rfl (by first | rfl | (simp; done) | omega | (simp; omega))), rfl, rfl, rfl, rfl, rfl, rfl, rfl, rfl, rfl, trivial⟩
          ·
            replace F := ite_n hp2 F
            have hq2 := dec_f hp2
            refine CW.condF rfl hq2 ?_
            refine CW.exit (jK8816 _ _ ⟨_, ?_, ⟨l5, F, rfl, H⟩⟩)
            exact ⟨rfl, rfl, rfl, rfl, (look_slice rfl (by first | rfl | (simp; done) | omega | (simp; omega))), rfl, rfl, rfl, rfl, rfl, trivial⟩
    ·
      replace F := ite_n hp1 F
      have hq1 := dec_f hp1
      refine CW.condF rfl hq1 ?_
      replace H := H.pick (L' := [.tab Am3 cm3 53 hsm3 28 2 (encM encRat m3)]) [0] (by decide) rfl
      replace R0 := H.ext
      refine CW.exit (jK6752 _ _ ⟨_, ?_, ⟨m3, hsm3, Am3, cm3, F, rfl, H⟩⟩)
      exact ⟨rfl, (look_slice rfl (by first | rfl | (simp; done) | omega | (simp; omega))), trivial⟩
end Go.D1

set_option linter.unusedVariables false
set_option linter.unusedSimpArgs false
namespace Go.D1
open Go.Tb Go.Proofs Go.RowKit
theorem Tc73 : callable Try.prog 73 = true := by kernel_rfl
theorem Tc78 : callable Try.prog 78 = true := by kernel_rfl
theorem Tc80 : callable Try.prog 80 = true := by kernel_rfl
theorem Tf28_1 : tyF Try.prog 28 1 = some 1 := by kernel_rfl
theorem Tk28 : tyK Try.prog 28 = some (true, 2) := by kernel_rfl
theorem Tz28 : tyZ Try.prog 28 = some (.agg #[.int .i64 0, .int .i64 0]) := by kernel_rfl
set_option maxRecDepth 20000 in
set_option maxHeartbeats 1000000 in
theorem level_gcd_ok {a0 : Int} {a1 : Int} {w : World} {res : Int} (F : level_gcd a0 a1 = some res) : Calls Try.prog 78 #[.int .i64 a0, .int .i64 a1] w (Rt w (.int .i64 res)) := by
  refine calls_of_cw (args := [.int .i64 a0, .int .i64 a1]) Try.func78 rfl rfl rfl rfl ?_
  have H := Hp.start w
  have R0 := H.ext
  unfold level_gcd at F
  refine CW.seq fun K1 hK1 => ?_
  refine CW.region ?_
  refine LW.pure rfl rfl (RV.assign rfl) ?_
  refine LW.nil (hK1 _ _ ?_)
  refine CW.seqJ (fun ρ wl1 => (∃ (t0_1 : Int), level_gcd_k1 t0_1 = some res ∧ ρ = [(0, .int .i64 t0_1), (4, .int .i64 0)] ∧ Hp w wl1 [])) ?_ ?_
  ·
    rintro _ wl1 ⟨t0_1, F, rfl, H⟩
    have R0 := H.ext
    unfold level_gcd_k1 at F
    refine CW.seq fun K2 hK2 => ?_
    obtain ⟨hg1, F⟩ := gd_some F
    refine CW.region ?_
    refine LW.pure rfl rfl (RV.move rfl) ?_
    refine LW.pure rfl rfl (RV.move rfl) ?_
    refine LW.pure rfl rfl (RV.neg rfl hg1) ?_
    refine LW.pure rfl rfl (RV.max2 rfl rfl) ?_
    refine LW.pure rfl rfl (RV.assign rfl) ?_
    refine LW.nil (hK2 _ _ ?_)
    refine CW.ret ?_
    obtain rfl := Option.some.inj F
    refine ⟨_, (ResOK.one rfl), ?_⟩
    refine ⟨(by first | rfl | simp), R0⟩
  ·
    intro K3 hK3 jK24
    refine CW.block ?_
    refine CW.loop (fun meas ρ wl2 => ∃ (t0_2 : Int) (t1_1 : Int), level_gcd_L1 meas t0_2 t1_1 = some res ∧ ρ = [(0, .int .i64 t0_2), (1, .int .i64 t1_1), (4, .int .i64 0)] ∧ Hp w wl2 []) FU ⟨_, ?_, a0, a1, F, rfl, H⟩ ?_
    · exact ⟨rfl, rfl, rfl, trivial⟩
    rintro mk1 _ wl2 ⟨t0_2, t1_1, F, rfl, H⟩
    have R0 := H.ext
    replace F := level_gcd_L1_s F
    obtain ⟨mk1, rfl, F⟩ := F
    generalize hrec1 : level_gcd_L1 mk1 = rec1 at F
    unfold level_gcd_B1 at F
    refine CW.seq fun K4 hK4 => ?_
    refine CW.seq fun K5 hK5 => ?_
    refine CW.region ?_
    refine LW.pure rfl rfl (RV.move rfl) ?_
    refine LW.pure rfl rfl (RV.nei rfl rfl) ?_
    refine LW.nil (hK5 _ _ ?_)
    by_cases hp1 : t1_1 = 0
    ·
      replace F := ite_y hp1 F
      have hq1 := dec_t hp1
      refine CW.condF rfl (not_f hq1) ?_
      refine CW.exit (jK24 _ _ ⟨_, ?_, ⟨t0_2, F, rfl, H⟩⟩)
      exact ⟨rfl, rfl, trivial⟩
    ·
      replace F := ite_n hp1 F
      have hq1 := dec_f hp1
      refine CW.condT rfl (not_t hq1) ?_
      refine CW.skip (hK4 _ _ ?_)
      refine CW.block ?_
      obtain ⟨hg2, F⟩ := gd_some F
      refine CW.draw [] (fun _ => True) (.cons 0 1 (.cons 1 1 (.cons 2 1 (.cons 3 1 (.cons 4 1 (.cons 5 1 .nil)))))) mixed (by kernel_rfl) fun w1 E1 => ?_
      replace H := H.grow E1
      replace R0 := H.ext
      refine DW.fix rfl rfl rfl (fun _ EQ => RV.move rfl) ?_
      refine DW.fix rfl rfl rfl (fun _ EQ => RV.move rfl) ?_
      refine DW.fix rfl rfl rfl (fun _ EQ => RV.move rfl) ?_
      refine DW.fix rfl rfl rfl (fun _ EQ => RV.rem rfl rfl hg2) ?_
      refine DW.fix rfl rfl rfl (fun _ EQ => RV.assign rfl) ?_
      refine DW.fix rfl rfl rfl (fun _ EQ => RV.assign rfl) ?_
      refine DW.nil ?_
      subst hrec1
      refine ⟨mk1, Nat.lt_succ_self _, _, ?_, t1_1, (Int.tmod t0_2 t1_1), F, rfl, H⟩
      exact ⟨rfl, rfl, rfl, trivial⟩
set_option maxRecDepth 20000 in
set_option maxHeartbeats 1000000 in
theorem level_ratio_ok {a0 : Int} {a1 : Int} {w : World} {res : Rat} (F : level_ratio a0 a1 = some res) : Calls Try.prog 80 #[.int .i64 a0, .int .i64 a1] w (Rt w (.agg #[.int .i64 res.num, .int .i64 res.den])) := by
  refine calls_of_cw (args := [.int .i64 a0, .int .i64 a1]) Try.func80 rfl rfl rfl rfl ?_
  have H := Hp.start w
  have R0 := H.ext
  unfold level_ratio at F
  refine CW.seq fun K1 hK1 => ?_
  refine CW.region ?_
  refine LW.go rfl rfl (OW.alloc Tz28 fun b1 w1 N1 => ?_)
  replace H := H.new N1 N1.blk
  replace R0 := H.ext
  refine LW.nil (hK1 _ _ ?_)
  refine CW.seq fun K2 hK2 => ?_
  obtain ⟨r1, hr1, F⟩ := bnd_some F
  refine CW.region ?_
  refine LW.pure rfl rfl (RV.move rfl) ?_
  refine LW.pure rfl rfl (RV.move rfl) ?_
  refine LW.go rfl rfl (OW.call Tc78 rfl (level_gcd_ok (a0 := a0) (a1 := a1) hr1) ?_)
  rintro _ w2 ⟨rfl, E1⟩
  refine ⟨_, rfl, ?_⟩
  replace H := H.grow E1
  replace R0 := H.ext
  refine LW.pure rfl rfl (RV.assign rfl) ?_
  refine LW.nil (hK2 _ _ ?_)
  refine CW.seqJ (fun ρ wl1 => (∃ (t5_1 : Int), level_ratio_k1 a0 a1 t5_1 = some res ∧ ρ = [(0, .int .i64 a0), (1, .int .i64 a1), (4, .pointer (some (⟨b1, 0, none⟩))), (5, .int .i64 t5_1)] ∧ Hp w wl1 [.blk b1 28 [.int .i64 0, .int .i64 0]])) ?_ ?_
  ·
    rintro _ wl1 ⟨t5_1, F, rfl, H⟩
    have R0 := H.ext
    unfold level_ratio_k1 at F
    refine CW.seq fun K3 hK3 => ?_
    obtain ⟨hg1, F⟩ := gd_some F
    obtain ⟨hg2, F⟩ := gd_some F
    refine CW.draw [7] (fun _ => True) (.cons 0 1 (.cons 1 1 (.cons 2 1 (.cons 3 1 (.cons 4 1 (.cons 5 1 (.cons 6 1 (.cons 7 0 .nil)))))))) mixed (by kernel_rfl) fun w3 E2 => ?_
    replace H := H.grow E2
    replace R0 := H.ext
    refine DW.fix rfl rfl rfl (fun _ EQ => RV.move rfl) ?_
    refine DW.fix rfl rfl rfl (fun _ EQ => RV.move rfl) ?_
    refine DW.fix rfl rfl rfl (fun _ EQ => RV.quo rfl rfl hg1) ?_
    refine DW.fix rfl rfl rfl (fun _ EQ => RV.move rfl) ?_
    refine DW.fix rfl rfl rfl (fun _ EQ => RV.move rfl) ?_
    refine DW.fix rfl rfl rfl (fun _ EQ => RV.quo rfl rfl hg2) ?_
    refine DW.fix rfl rfl rfl (fun _ EQ => RV.build (vs := [.int .i64 (Int.tdiv a0 t5_1), .int .i64 (Int.tdiv a1 t5_1)]) (cs := [.int .i64 (Int.tdiv a0 t5_1), .int .i64 (Int.tdiv a1 t5_1)]) rfl (fun _ => by kernel_rfl)) ?_
    refine DW.sole rfl rfl rfl (OW.store Tk28 rfl rfl (H.blk 0 rfl) (off := 0) (vs := [.int .i64 (Int.tdiv a0 t5_1), .int .i64 (Int.tdiv a1 t5_1)]) rfl rfl rfl rfl rfl fun w4 S1 => ?_)
    refine ⟨fun h => absurd h (by decide), S1.modx trivial, ?_⟩
    replace H : Hp w w4 [.blk b1 28 [.int .i64 (Int.tdiv a0 t5_1), .int .i64 (Int.tdiv a1 t5_1)]] := H.stored 0 rfl S1
    replace R0 := H.ext
    refine DW.nil (hK3 _ _ ?_)
    refine CW.ret ?_
    obtain rfl := Option.some.inj F
    refine ⟨_, (ResOK.cell1 ⟨_, rfl, run_loadVar_agg Tk28 (H.blk 0 rfl).cells (us := [.int .i64 (Int.tdiv a0 t5_1), .int .i64 (Int.tdiv a1 t5_1)]) rfl rfl⟩), ?_⟩
    refine ⟨(by first | rfl | simp), R0⟩
  ·
    intro K4 hK4 jK11
    refine CW.seq fun K5 hK5 => ?_
    refine CW.region ?_
    refine LW.pure rfl rfl (RV.move rfl) ?_
    refine LW.pure rfl rfl (RV.lss rfl rfl) ?_
    refine LW.nil (hK5 _ _ ?_)
    by_cases hp1 : a1 < 0
    ·
      replace F := ite_y hp1 F
      have hq1 := dec_t hp1
      refine CW.condT rfl hq1 ?_
      obtain ⟨hg3, F⟩ := gd_some F
      refine CW.region ?_
      refine LW.pure rfl rfl (RV.move rfl) ?_
      refine LW.pure rfl rfl (RV.neg rfl hg3) ?_
      refine LW.pure rfl rfl (RV.assign rfl) ?_
      refine LW.nil (jK11 _ _ ⟨_, ?_, ⟨(-r1), F, rfl, H⟩⟩)
      exact ⟨rfl, rfl, rfl, rfl, trivial⟩
    ·
      replace F := ite_n hp1 F
      have hq1 := dec_f hp1
      refine CW.condF rfl hq1 ?_
      refine CW.skip (jK11 _ _ ⟨_, ?_, ⟨r1, F, rfl, H⟩⟩)
      exact ⟨rfl, rfl, rfl, rfl, trivial⟩
set_option maxRecDepth 20000 in
set_option maxHeartbeats 1000000 in
theorem level_mul_ok {a0 : Rat} {a1 : Rat} {w : World} {res : Rat} (F : level_mul a0 a1 = some res) : Calls Try.prog 73 #[.agg #[.int .i64 a0.num, .int .i64 a0.den], .agg #[.int .i64 a1.num, .int .i64 a1.den]] w (Rt w (.agg #[.int .i64 res.num, .int .i64 res.den])) := by
  refine calls_of_cw (args := [.agg #[.int .i64 a0.num, .int .i64 a0.den], .agg #[.int .i64 a1.num, .int .i64 a1.den]]) Try.func73 rfl rfl rfl rfl ?_
  have H := Hp.start w
  have R0 := H.ext
  unfold level_mul at F
  refine CW.seq fun K1 hK1 => ?_
  refine CW.region ?_
  refine LW.go rfl rfl (OW.box rfl fun b1 w1 N1 => ?_)
  replace H := H.new N1 N1.blk
  replace R0 := H.ext
  refine LW.go rfl rfl (OW.box rfl fun b2 w2 N2 => ?_)
  replace H := H.new N2 N2.blk
  replace R0 := H.ext
  refine LW.go rfl rfl (OW.alloc Tz28 fun b3 w3 N3 => ?_)
  replace H := H.new N3 N3.blk
  replace R0 := H.ext
  refine LW.nil (hK1 _ _ ?_)
  refine CW.seqJ (fun ρ wl1 => (∃ (c1_0_1 : Int) (c1_1_1 : Int) (c2_0_1 : Int) (c2_1_1 : Int) (bk1 : Nat) (bk2 : Nat), level_mul_k1 c1_0_1 c1_1_1 c2_0_1 c2_1_1 = some res ∧ ρ = [(4, .pointer (some (⟨b3, 0, none⟩))), (5, .pointer (some (⟨bk1, 0, none⟩))), (6, .pointer (some (⟨bk2, 0, none⟩)))] ∧ Hp w wl1 [.blk b3 28 [.int .i64 0, .int .i64 0], .blk bk1 28 [.int .i64 c1_0_1, .int .i64 c1_1_1], .blk bk2 28 [.int .i64 c2_0_1, .int .i64 c2_1_1]])) ?_ ?_
  ·
    rintro _ wl1 ⟨c1_0_1, c1_1_1, c2_0_1, c2_1_1, bk1, bk2, F, rfl, H⟩
    have R0 := H.ext
    unfold level_mul_k1 at F
    refine CW.seq fun K2 hK2 => ?_
    obtain ⟨hg1, F⟩ := gd_some F
    obtain ⟨hg2, F⟩ := gd_some F
    refine CW.region ?_
    refine LW.pure rfl rfl (RV.fieldAddr Tf28_0 rfl) ?_
    refine LW.pure rfl rfl (RV.load1 Tk3 rfl ((H.blk 1 rfl).cells.off 0) rfl) ?_
    refine LW.pure rfl rfl (RV.fieldAddr Tf28_0 rfl) ?_
    refine LW.pure rfl rfl (RV.load1 Tk3 rfl ((H.blk 2 rfl).cells.off 0) rfl) ?_
    refine LW.pure rfl rfl (RV.mul rfl rfl hg1) ?_
    refine LW.pure rfl rfl (RV.fieldAddr Tf28_1 rfl) ?_
    refine LW.pure rfl rfl (RV.load1 Tk3 rfl ((H.blk 1 rfl).cells.off 1) rfl) ?_
    refine LW.pure rfl rfl (RV.fieldAddr Tf28_1 rfl) ?_
    refine LW.pure rfl rfl (RV.load1 Tk3 rfl ((H.blk 2 rfl).cells.off 1) rfl) ?_
    refine LW.pure rfl rfl (RV.mul rfl rfl hg2) ?_
    refine LW.pure rfl rfl (RV.build (vs := [.int .i64 (c1_0_1 * c2_0_1), .int .i64 (c1_1_1 * c2_1_1)]) (cs := [.int .i64 (c1_0_1 * c2_0_1), .int .i64 (c1_1_1 * c2_1_1)]) rfl (fun _ => by kernel_rfl)) ?_
    refine LW.go rfl rfl (OW.store Tk28 rfl rfl (H.blk 0 rfl) (off := 0) (vs := [.int .i64 (c1_0_1 * c2_0_1), .int .i64 (c1_1_1 * c2_1_1)]) rfl rfl rfl rfl rfl fun w4 S1 => ?_)
    replace H : Hp w w4 [.blk b3 28 [.int .i64 (c1_0_1 * c2_0_1), .int .i64 (c1_1_1 * c2_1_1)], .blk bk1 28 [.int .i64 c1_0_1, .int .i64 c1_1_1], .blk bk2 28 [.int .i64 c2_0_1, .int .i64 c2_1_1]] := H.stored 0 rfl S1
    replace R0 := H.ext
    refine LW.nil (hK2 _ _ ?_)
    refine CW.ret ?_
    obtain rfl := Option.some.inj F
    refine ⟨_, (ResOK.cell1 ⟨_, rfl, run_loadVar_agg Tk28 (H.blk 0 rfl).cells (us := [.int .i64 (c1_0_1 * c2_0_1), .int .i64 (c1_1_1 * c2_1_1)]) rfl rfl⟩), ?_⟩
    refine ⟨(by first | rfl | simp), R0⟩
  ·
    intro K3 hK3 jK6
    obtain ⟨r1, hr1, F⟩ := bnd_some F
    obtain ⟨r2, hr2, F⟩ := bnd_some F
    have H0 := H
    have hz : w3.heap.size ≤ w3.heap.size := Nat.le_refl _
    refine CW.draw [12, 13] (XB w3 [.blk b3 28 [.int .i64 0, .int .i64 0], .blk b2 28 [.int .i64 a1.num, .int .i64 a1.den], .blk b1 28 [.int .i64 a0.num, .int .i64 a0.den]] []) (.cons 0 1 (.cons 1 1 (.cons 2 1 (.cons 3 1 (.cons 5 2 (.cons 6 2 (.cons 7 2 (.cons 8 2 (.alt 4 (.alt 9 (.alt 10 (.cons 11 0 (.cons 12 0 (.cons 13 0 .nil))) (.cons 11 0 (.cons 10 0 (.cons 12 0 (.cons 13 0 .nil))))) (.alt 10 (.alt 9 (.cons 11 0 (.cons 12 0 (.cons 13 0 .nil))) (.cons 11 0 (.cons 9 0 (.cons 12 0 (.cons 13 0 .nil))))) (.cons 11 0 (.alt 9 (.cons 10 0 (.cons 12 0 (.cons 13 0 .nil))) (.cons 10 0 (.cons 9 0 (.cons 12 0 (.cons 13 0 .nil)))))))) (.alt 10 (.alt 4 (.alt 9 (.cons 11 0 (.cons 12 0 (.cons 13 0 .nil))) (.cons 11 0 (.cons 9 0 (.cons 12 0 (.cons 13 0 .nil))))) (.cons 11 0 (.cons 4 0 (.cons 9 0 (.cons 12 0 (.cons 13 0 .nil)))))) (.cons 11 0 (.alt 4 (.alt 9 (.cons 10 0 (.cons 12 0 (.cons 13 0 .nil))) (.cons 10 0 (.cons 9 0 (.cons 12 0 (.cons 13 0 .nil))))) (.cons 10 0 (.cons 4 0 (.cons 9 0 (.cons 12 0 (.cons 13 0 .nil))))))))))))))))) mixed (by kernel_rfl) fun w5 E1 => ?_
    replace H := H.grow E1
    replace R0 := H.ext
    replace hz := Nat.le_trans hz (Ext.size E1)
    refine DW.fix rfl rfl rfl (fun _ EQ => RV.fieldAddr Tf28_0 rfl) ?_
    refine DW.fix rfl rfl rfl (fun _ EQ => RV.load1 Tk3 rfl (((H.grow EQ).blk 2 rfl).cells.off 0) rfl) ?_
    refine DW.fix rfl rfl rfl (fun _ EQ => RV.fieldAddr Tf28_1 rfl) ?_
    refine DW.fix rfl rfl rfl (fun _ EQ => RV.load1 Tk3 rfl (((H.grow EQ).blk 1 rfl).cells.off 1) rfl) ?_
    refine DW.thru rfl rfl rfl (fun _ EQ => RV.fieldAddr Tf28_0 rfl) ?_
    refine DW.thru rfl rfl rfl (fun _ EQ => RV.load1 Tk3 rfl ((H.thruB 1 rfl EQ (H0.notX [] 1 rfl (by decide))).cells.off 0) rfl) ?_
    refine DW.thru rfl rfl rfl (fun _ EQ => RV.fieldAddr Tf28_1 rfl) ?_
    refine DW.thru rfl rfl rfl (fun _ EQ => RV.load1 Tk3 rfl ((H.thruB 2 rfl EQ (H0.notX [] 2 rfl (by decide))).cells.off 1) rfl) ?_
    refine DW.alt ?_ ?_
    ·
      refine DW.sole rfl rfl rfl (OW.call Tc80 rfl (level_ratio_ok (a0 := a0.num) (a1 := a1.den) hr1) ?_)
      rintro _ w6 ⟨rfl, E2⟩
      refine ⟨_, rfl, fun _ => E2, ModX.ext E2, ?_⟩
      replace H := H.grow E2
      replace R0 := H.ext
      replace hz := Nat.le_trans hz (Ext.size E2)
      refine DW.alt ?_ ?_
      ·
        refine DW.sole rfl rfl rfl (OW.call Tc80 rfl (level_ratio_ok (a0 := a1.num) (a1 := a0.den) hr2) ?_)
        rintro _ w7 ⟨rfl, E3⟩
        refine ⟨_, rfl, fun _ => E3, ModX.ext E3, ?_⟩
        replace H := H.grow E3
        replace R0 := H.ext
        replace hz := Nat.le_trans hz (Ext.size E3)
        refine DW.alt ?_ ?_
        ·
          refine DW.sole rfl rfl rfl (OW.alloc Tz28 fun b4 w8 N4 => ?_)
          refine ⟨fun _ => N4.ext, ModX.ext N4.ext, ?_⟩
          have G0_b4 : w3.heap.size ≤ b4 := by rw [N4.at_]; exact hz
          replace H := H.new N4 N4.blk
          replace R0 := H.ext
          replace hz := Nat.le_trans hz (Ext.size N4.ext)
          refine DW.sole rfl rfl rfl (OW.alloc Tz28 fun b5 w9 N5 => ?_)
          refine ⟨fun _ => N5.ext, ModX.ext N5.ext, ?_⟩
          have G0_b5 : w3.heap.size ≤ b5 := by rw [N5.at_]; exact hz
          replace H := H.new N5 N5.blk
          replace R0 := H.ext
          replace hz := Nat.le_trans hz (Ext.size N5.ext)
          refine DW.sole rfl rfl rfl (OW.store Tk28 rfl rfl (H.blk 1 rfl) (off := 0) (vs := [.int .i64 r1.num, .int .i64 r1.den]) rfl rfl rfl rfl rfl fun w10 S2 => ?_)
          refine ⟨fun h => absurd h (by decide), S2.modx (.inl G0_b4), ?_⟩
          replace H : Hp w w10 [.blk b5 28 [.int .i64 0, .int .i64 0], .blk b4 28 [.int .i64 r1.num, .int .i64 r1.den], .blk b3 28 [.int .i64 0, .int .i64 0], .blk b2 28 [.int .i64 a1.num, .int .i64 a1.den], .blk b1 28 [.int .i64 a0.num, .int .i64 a0.den]] := H.stored 1 rfl S2
          replace R0 := H.ext
          replace hz := Nat.le_trans hz (Nat.le_of_eq S2.size.symm)
          refine DW.sole rfl rfl rfl (OW.store Tk28 rfl rfl (H.blk 0 rfl) (off := 0) (vs := [.int .i64 r2.num, .int .i64 r2.den]) rfl rfl rfl rfl rfl fun w11 S3 => ?_)
          refine ⟨fun h => absurd h (by decide), S3.modx (.inl G0_b5), ?_⟩
          replace H : Hp w w11 [.blk b5 28 [.int .i64 r2.num, .int .i64 r2.den], .blk b4 28 [.int .i64 r1.num, .int .i64 r1.den], .blk b3 28 [.int .i64 0, .int .i64 0], .blk b2 28 [.int .i64 a1.num, .int .i64 a1.den], .blk b1 28 [.int .i64 a0.num, .int .i64 a0.den]] := H.stored 0 rfl S3
          replace R0 := H.ext
          replace hz := Nat.le_trans hz (Nat.le_of_eq S3.size.symm)
          replace H := H.pick (L' := [.blk b3 28 [.int .i64 0, .int .i64 0], .blk b4 28 [.int .i64 r1.num, .int .i64 r1.den], .blk b5 28 [.int .i64 r2.num, .int .i64 r2.den]]) [2, 1, 0] (by decide) rfl
          replace R0 := H.ext
          refine DW.nil (jK6 _ _ ⟨_, ?_, ⟨r1.num, r1.den, r2.num, r2.den, b4, b5, F, rfl, H⟩⟩)
          exact ⟨rfl, rfl, rfl, trivial⟩
        ·
          refine DW.sole rfl rfl rfl (OW.alloc Tz28 fun b6 w12 N6 => ?_)
          refine ⟨fun _ => N6.ext, ModX.ext N6.ext, ?_⟩
          have G0_b6 : w3.heap.size ≤ b6 := by rw [N6.at_]; exact hz
          replace H := H.new N6 N6.blk
          replace R0 := H.ext
          replace hz := Nat.le_trans hz (Ext.size N6.ext)
          refine DW.sole rfl rfl rfl (OW.alloc Tz28 fun b7 w13 N7 => ?_)
          refine ⟨fun _ => N7.ext, ModX.ext N7.ext, ?_⟩
          have G0_b7 : w3.heap.size ≤ b7 := by rw [N7.at_]; exact hz
          replace H := H.new N7 N7.blk
          replace R0 := H.ext
          replace hz := Nat.le_trans hz (Ext.size N7.ext)
          refine DW.sole rfl rfl rfl (OW.store Tk28 rfl rfl (H.blk 0 rfl) (off := 0) (vs := [.int .i64 r1.num, .int .i64 r1.den]) rfl rfl rfl rfl rfl fun w14 S4 => ?_)
          refine ⟨fun h => absurd h (by decide), S4.modx (.inl G0_b7), ?_⟩
          replace H : Hp w w14 [.blk b7 28 [.int .i64 r1.num, .int .i64 r1.den], .blk b6 28 [.int .i64 0, .int .i64 0], .blk b3 28 [.int .i64 0, .int .i64 0], .blk b2 28 [.int .i64 a1.num, .int .i64 a1.den], .blk b1 28 [.int .i64 a0.num, .int .i64 a0.den]] := H.stored 0 rfl S4
          replace R0 := H.ext
          replace hz := Nat.le_trans hz (Nat.le_of_eq S4.size.symm)
          refine DW.sole rfl rfl rfl (OW.store Tk28 rfl rfl (H.blk 1 rfl) (off := 0) (vs := [.int .i64 r2.num, .int .i64 r2.den]) rfl rfl rfl rfl rfl fun w15 S5 => ?_)
          refine ⟨fun h => absurd h (by decide), S5.modx (.inl G0_b6), ?_⟩
          replace H : Hp w w15 [.blk b7 28 [.int .i64 r1.num, .int .i64 r1.den], .blk b6 28 [.int .i64 r2.num, .int .i64 r2.den], .blk b3 28 [.int .i64 0, .int .i64 0], .blk b2 28 [.int .i64 a1.num, .int .i64 a1.den], .blk b1 28 [.int .i64 a0.num, .int .i64 a0.den]] := H.stored 1 rfl S5
          replace R0 := H.ext
          replace hz := Nat.le_trans hz (Nat.le_of_eq S5.size.symm)
          replace H := H.pick (L' := [.blk b3 28 [.int .i64 0, .int .i64 0], .blk b7 28 [.int .i64 r1.num, .int .i64 r1.den], .blk b6 28 [.int .i64 r2.num, .int .i64 r2.den]]) [2, 0, 1] (by decide) rfl
          replace R0 := H.ext
          refine DW.nil (jK6 _ _ ⟨_, ?_, ⟨r1.num, r1.den, r2.num, r2.den, b7, b6, F, rfl, H⟩⟩)
          exact ⟨rfl, rfl, rfl, trivial⟩
      ·
        refine DW.alt ?_ ?_
        ·
          refine DW.sole rfl rfl rfl (OW.alloc Tz28 fun b8 w16 N8 => ?_)
          refine ⟨fun _ => N8.ext, ModX.ext N8.ext, ?_⟩
          have G0_b8 : w3.heap.size ≤ b8 := by rw [N8.at_]; exact hz
          replace H := H.new N8 N8.blk
          replace R0 := H.ext
          replace hz := Nat.le_trans hz (Ext.size N8.ext)
          refine DW.alt ?_ ?_
          ·
            refine DW.sole rfl rfl rfl (OW.call Tc80 rfl (level_ratio_ok (a0 := a1.num) (a1 := a0.den) hr2) ?_)
            rintro _ w17 ⟨rfl, E4⟩
            refine ⟨_, rfl, fun _ => E4, ModX.ext E4, ?_⟩
            replace H := H.grow E4
            replace R0 := H.ext
            replace hz := Nat.le_trans hz (Ext.size E4)
            refine DW.sole rfl rfl rfl (OW.alloc Tz28 fun b9 w18 N9 => ?_)
            refine ⟨fun _ => N9.ext, ModX.ext N9.ext, ?_⟩
            have G0_b9 : w3.heap.size ≤ b9 := by rw [N9.at_]; exact hz
            replace H := H.new N9 N9.blk
            replace R0 := H.ext
            replace hz := Nat.le_trans hz (Ext.size N9.ext)
            refine DW.sole rfl rfl rfl (OW.store Tk28 rfl rfl (H.blk 1 rfl) (off := 0) (vs := [.int .i64 r1.num, .int .i64 r1.den]) rfl rfl rfl rfl rfl fun w19 S6 => ?_)
            refine ⟨fun h => absurd h (by decide), S6.modx (.inl G0_b8), ?_⟩
            replace H : Hp w w19 [.blk b9 28 [.int .i64 0, .int .i64 0], .blk b8 28 [.int .i64 r1.num, .int .i64 r1.den], .blk b3 28 [.int .i64 0, .int .i64 0], .blk b2 28 [.int .i64 a1.num, .int .i64 a1.den], .blk b1 28 [.int .i64 a0.num, .int .i64 a0.den]] := H.stored 1 rfl S6
            replace R0 := H.ext
            replace hz := Nat.le_trans hz (Nat.le_of_eq S6.size.symm)
            refine DW.sole rfl rfl rfl (OW.store Tk28 rfl rfl (H.blk 0 rfl) (off := 0) (vs := [.int .i64 r2.num, .int .i64 r2.den]) rfl rfl rfl rfl rfl fun w20 S7 => ?_)
            refine ⟨fun h => absurd h (by decide), S7.modx (.inl G0_b9), ?_⟩
            replace H : Hp w w20 [.blk b9 28 [.int .i64 r2.num, .int .i64 r2.den], .blk b8 28 [.int .i64 r1.num, .int .i64 r1.den], .blk b3 28 [.int .i64 0, .int .i64 0], .blk b2 28 [.int .i64 a1.num, .int .i64 a1.den], .blk b1 28 [.int .i64 a0.num, .int .i64 a0.den]] := H.stored 0 rfl S7
            replace R0 := H.ext
            replace hz := Nat.le_trans hz (Nat.le_of_eq S7.size.symm)
            replace H := H.pick (L' := [.blk b3 28 [.int .i64 0, .int .i64 0], .blk b8 28 [.int .i64 r1.num, .int .i64 r1.den], .blk b9 28 [.int .i64 r2.num, .int .i64 r2.den]]) [2, 1, 0] (by decide) rfl
            replace R0 := H.ext
            refine DW.nil (jK6 _ _ ⟨_, ?_, ⟨r1.num, r1.den, r2.num, r2.den, b8, b9, F, rfl, H⟩⟩)
            exact ⟨rfl, rfl, rfl, trivial⟩
          ·
            refine DW.sole rfl rfl rfl (OW.alloc Tz28 fun b10 w21 N10 => ?_)
            refine ⟨fun _ => N10.ext, ModX.ext N10.ext, ?_⟩
            have G0_b10 : w3.heap.size ≤ b10 := by rw [N10.at_]; exact hz
            replace H := H.new N10 N10.blk
            replace R0 := H.ext
            replace hz := Nat.le_trans hz (Ext.size N10.ext)
            refine DW.sole rfl rfl rfl (OW.call Tc80 rfl (level_ratio_ok (a0 := a1.num) (a1 := a0.den) hr2) ?_)
            rintro _ w22 ⟨rfl, E5⟩
            refine ⟨_, rfl, fun _ => E5, ModX.ext E5, ?_⟩
            replace H := H.grow E5
            replace R0 := H.ext
            replace hz := Nat.le_trans hz (Ext.size E5)
            refine DW.sole rfl rfl rfl (OW.store Tk28 rfl rfl (H.blk 1 rfl) (off := 0) (vs := [.int .i64 r1.num, .int .i64 r1.den]) rfl rfl rfl rfl rfl fun w23 S8 => ?_)
            refine ⟨fun h => absurd h (by decide), S8.modx (.inl G0_b8), ?_⟩
            replace H : Hp w w23 [.blk b10 28 [.int .i64 0, .int .i64 0], .blk b8 28 [.int .i64 r1.num, .int .i64 r1.den], .blk b3 28 [.int .i64 0, .int .i64 0], .blk b2 28 [.int .i64 a1.num, .int .i64 a1.den], .blk b1 28 [.int .i64 a0.num, .int .i64 a0.den]] := H.stored 1 rfl S8
            replace R0 := H.ext
            replace hz := Nat.le_trans hz (Nat.le_of_eq S8.size.symm)
            refine DW.sole rfl rfl rfl (OW.store Tk28 rfl rfl (H.blk 0 rfl) (off := 0) (vs := [.int .i64 r2.num, .int .i64 r2.den]) rfl rfl rfl rfl rfl fun w24 S9 => ?_)
            refine ⟨fun h => absurd h (by decide), S9.modx (.inl G0_b10), ?_⟩
            replace H : Hp w w24 [.blk b10 28 [.int .i64 r2.num, .int .i64 r2.den], .blk b8 28 [.int .i64 r1.num, .int .i64 r1.den], .blk b3 28 [.int .i64 0, .int .i64 0], .blk b2 28 [.int .i64 a1.num, .int .i64 a1.den], .blk b1 28 [.int .i64 a0.num, .int .i64 a0.den]] := H.stored 0 rfl S9
            replace R0 := H.ext
            replace hz := Nat.le_trans hz (Nat.le_of_eq S9.size.symm)
            replace H := H.pick (L' := [.blk b3 28 [.int .i64 0, .int .i64 0], .blk b8 28 [.int .i64 r1.num, .int .i64 r1.den], .blk b10 28 [.int .i64 r2.num, .int .i64 r2.den]]) [2, 1, 0] (by decide) rfl
            replace R0 := H.ext
            refine DW.nil (jK6 _ _ ⟨_, ?_, ⟨r1.num, r1.den, r2.num, r2.den, b8, b10, F, rfl, H⟩⟩)
            exact ⟨rfl, rfl, rfl, trivial⟩
        ·
          refine DW.sole rfl rfl rfl (OW.alloc Tz28 fun b11 w25 N11 => ?_)
          refine ⟨fun _ => N11.ext, ModX.ext N11.ext, ?_⟩
          have G0_b11 : w3.heap.size ≤ b11 := by rw [N11.at_]; exact hz
          replace H := H.new N11 N11.blk
          replace R0 := H.ext
          replace hz := Nat.le_trans hz (Ext.size N11.ext)
          refine DW.alt ?_ ?_
          ·
            refine DW.sole rfl rfl rfl (OW.call Tc80 rfl (level_ratio_ok (a0 := a1.num) (a1 := a0.den) hr2) ?_)
            rintro _ w26 ⟨rfl, E6⟩
            refine ⟨_, rfl, fun _ => E6, ModX.ext E6, ?_⟩
            replace H := H.grow E6
            replace R0 := H.ext
            replace hz := Nat.le_trans hz (Ext.size E6)
            refine DW.sole rfl rfl rfl (OW.alloc Tz28 fun b12 w27 N12 => ?_)
            refine ⟨fun _ => N12.ext, ModX.ext N12.ext, ?_⟩
            have G0_b12 : w3.heap.size ≤ b12 := by rw [N12.at_]; exact hz
            replace H := H.new N12 N12.blk
            replace R0 := H.ext
            replace hz := Nat.le_trans hz (Ext.size N12.ext)
            refine DW.sole rfl rfl rfl (OW.store Tk28 rfl rfl (H.blk 0 rfl) (off := 0) (vs := [.int .i64 r1.num, .int .i64 r1.den]) rfl rfl rfl rfl rfl fun w28 S10 => ?_)
            refine ⟨fun h => absurd h (by decide), S10.modx (.inl G0_b12), ?_⟩
            replace H : Hp w w28 [.blk b12 28 [.int .i64 r1.num, .int .i64 r1.den], .blk b11 28 [.int .i64 0, .int .i64 0], .blk b3 28 [.int .i64 0, .int .i64 0], .blk b2 28 [.int .i64 a1.num, .int .i64 a1.den], .blk b1 28 [.int .i64 a0.num, .int .i64 a0.den]] := H.stored 0 rfl S10
            replace R0 := H.ext
            replace hz := Nat.le_trans hz (Nat.le_of_eq S10.size.symm)
            refine DW.sole rfl rfl rfl (OW.store Tk28 rfl rfl (H.blk 1 rfl) (off := 0) (vs := [.int .i64 r2.num, .int .i64 r2.den]) rfl rfl rfl rfl rfl fun w29 S11 => ?_)
            refine ⟨fun h => absurd h (by decide), S11.modx (.inl G0_b11), ?_⟩
            replace H : Hp w w29 [.blk b12 28 [.int .i64 r1.num, .int .i64 r1.den], .blk b11 28 [.int .i64 r2.num, .int .i64 r2.den], .blk b3 28 [.int .i64 0, .int .i64 0], .blk b2 28 [.int .i64 a1.num, .int .i64 a1.den], .blk b1 28 [.int .i64 a0.num, .int .i64 a0.den]] := H.stored 1 rfl S11
            replace R0 := H.ext
            replace hz := Nat.le_trans hz (Nat.le_of_eq S11.size.symm)
            replace H := H.pick (L' := [.blk b3 28 [.int .i64 0, .int .i64 0], .blk b12 28 [.int .i64 r1.num, .int .i64 r1.den], .blk b11 28 [.int .i64 r2.num, .int .i64 r2.den]]) [2, 0, 1] (by decide) rfl
            replace R0 := H.ext
            refine DW.nil (jK6 _ _ ⟨_, ?_, ⟨r1.num, r1.den, r2.num, r2.den, b12, b11, F, rfl, H⟩⟩)
            exact ⟨rfl, rfl, rfl, trivial⟩
          ·
            refine DW.sole rfl rfl rfl (OW.alloc Tz28 fun b13 w30 N13 => ?_)
            refine ⟨fun _ => N13.ext, ModX.ext N13.ext, ?_⟩
            have G0_b13 : w3.heap.size ≤ b13 := by rw [N13.at_]; exact hz
            replace H := H.new N13 N13.blk
            replace R0 := H.ext
            replace hz := Nat.le_trans hz (Ext.size N13.ext)
            refine DW.sole rfl rfl rfl (OW.call Tc80 rfl (level_ratio_ok (a0 := a1.num) (a1 := a0.den) hr2) ?_)
            rintro _ w31 ⟨rfl, E7⟩
            refine ⟨_, rfl, fun _ => E7, ModX.ext E7, ?_⟩
            replace H := H.grow E7
            replace R0 := H.ext
            replace hz := Nat.le_trans hz (Ext.size E7)
            refine DW.sole rfl rfl rfl (OW.store Tk28 rfl rfl (H.blk 0 rfl) (off := 0) (vs := [.int .i64 r1.num, .int .i64 r1.den]) rfl rfl rfl rfl rfl fun w32 S12 => ?_)
            refine ⟨fun h => absurd h (by decide), S12.modx (.inl G0_b13), ?_⟩
            replace H : Hp w w32 [.blk b13 28 [.int .i64 r1.num, .int .i64 r1.den], .blk b11 28 [.int .i64 0, .int .i64 0], .blk b3 28 [.int .i64 0, .int .i64 0], .blk b2 28 [.int .i64 a1.num, .int .i64 a1.den], .blk b1 28 [.int .i64 a0.num, .int .i64 a0.den]] := H.stored 0 rfl S12
            replace R0 := H.ext
            replace hz := Nat.le_trans hz (Nat.le_of_eq S12.size.symm)
            refine DW.sole rfl rfl rfl (OW.store Tk28 rfl rfl (H.blk 1 rfl) (off := 0) (vs := [.int .i64 r2.num, .int .i64 r2.den]) rfl rfl rfl rfl rfl fun w33 S13 => ?_)
            refine ⟨fun h => absurd h (by decide), S13.modx (.inl G0_b11), ?_⟩
            replace H : Hp w w33 [.blk b13 28 [.int .i64 r1.num, .int .i64 r1.den], .blk b11 28 [.int .i64 r2.num, .int .i64 r2.den], .blk b3 28 [.int .i64 0, .int .i64 0], .blk b2 28 [.int .i64 a1.num, .int .i64 a1.den], .blk b1 28 [.int .i64 a0.num, .int .i64 a0.den]] := H.stored 1 rfl S13
            replace R0 := H.ext
            replace hz := Nat.le_trans hz (Nat.le_of_eq S13.size.symm)
            replace H := H.pick (L' := [.blk b3 28 [.int .i64 0, .int .i64 0], .blk b13 28 [.int .i64 r1.num, .int .i64 r1.den], .blk b11 28 [.int .i64 r2.num, .int .i64 r2.den]]) [2, 0, 1] (by decide) rfl
            replace R0 := H.ext
            refine DW.nil (jK6 _ _ ⟨_, ?_, ⟨r1.num, r1.den, r2.num, r2.den, b13, b11, F, rfl, H⟩⟩)
            exact ⟨rfl, rfl, rfl, trivial⟩
    ·
      refine DW.alt ?_ ?_
      ·
        refine DW.sole rfl rfl rfl (OW.alloc Tz28 fun b14 w34 N14 => ?_)
        refine ⟨fun _ => N14.ext, ModX.ext N14.ext, ?_⟩
        have G0_b14 : w3.heap.size ≤ b14 := by rw [N14.at_]; exact hz
        replace H := H.new N14 N14.blk
        replace R0 := H.ext
        replace hz := Nat.le_trans hz (Ext.size N14.ext)
        refine DW.alt ?_ ?_
        ·
          refine DW.sole rfl rfl rfl (OW.call Tc80 rfl (level_ratio_ok (a0 := a0.num) (a1 := a1.den) hr1) ?_)
          rintro _ w35 ⟨rfl, E8⟩
          refine ⟨_, rfl, fun _ => E8, ModX.ext E8, ?_⟩
          replace H := H.grow E8
          replace R0 := H.ext
          replace hz := Nat.le_trans hz (Ext.size E8)
          refine DW.alt ?_ ?_
          ·
            refine DW.sole rfl rfl rfl (OW.call Tc80 rfl (level_ratio_ok (a0 := a1.num) (a1 := a0.den) hr2) ?_)
            rintro _ w36 ⟨rfl, E9⟩
            refine ⟨_, rfl, fun _ => E9, ModX.ext E9, ?_⟩
            replace H := H.grow E9
            replace R0 := H.ext
            replace hz := Nat.le_trans hz (Ext.size E9)
            refine DW.sole rfl rfl rfl (OW.alloc Tz28 fun b15 w37 N15 => ?_)
            refine ⟨fun _ => N15.ext, ModX.ext N15.ext, ?_⟩
            have G0_b15 : w3.heap.size ≤ b15 := by rw [N15.at_]; exact hz
            replace H := H.new N15 N15.blk
            replace R0 := H.ext
            replace hz := Nat.le_trans hz (Ext.size N15.ext)
            refine DW.sole rfl rfl rfl (OW.store Tk28 rfl rfl (H.blk 1 rfl) (off := 0) (vs := [.int .i64 r1.num, .int .i64 r1.den]) rfl rfl rfl rfl rfl fun w38 S14 => ?_)
            refine ⟨fun h => absurd h (by decide), S14.modx (.inl G0_b14), ?_⟩
            replace H : Hp w w38 [.blk b15 28 [.int .i64 0, .int .i64 0], .blk b14 28 [.int .i64 r1.num, .int .i64 r1.den], .blk b3 28 [.int .i64 0, .int .i64 0], .blk b2 28 [.int .i64 a1.num, .int .i64 a1.den], .blk b1 28 [.int .i64 a0.num, .int .i64 a0.den]] := H.stored 1 rfl S14
            replace R0 := H.ext
            replace hz := Nat.le_trans hz (Nat.le_of_eq S14.size.symm)
            refine DW.sole rfl rfl rfl (OW.store Tk28 rfl rfl (H.blk 0 rfl) (off := 0) (vs := [.int .i64 r2.num, .int .i64 r2.den]) rfl rfl rfl rfl rfl fun w39 S15 => ?_)
            refine ⟨fun h => absurd h (by decide), S15.modx (.inl G0_b15), ?_⟩
            replace H : Hp w w39 [.blk b15 28 [.int .i64 r2.num, .int .i64 r2.den], .blk b14 28 [.int .i64 r1.num, .int .i64 r1.den], .blk b3 28 [.int .i64 0, .int .i64 0], .blk b2 28 [.int .i64 a1.num, .int .i64 a1.den], .blk b1 28 [.int .i64 a0.num, .int .i64 a0.den]] := H.stored 0 rfl S15
            replace R0 := H.ext
            replace hz := Nat.le_trans hz (Nat.le_of_eq S15.size.symm)
            replace H := H.pick (L' := [.blk b3 28 [.int .i64 0, .int .i64 0], .blk b14 28 [.int .i64 r1.num, .int .i64 r1.den], .blk b15 28 [.int .i64 r2.num, .int .i64 r2.den]]) [2, 1, 0] (by decide) rfl
            replace R0 := H.ext
            refine DW.nil (jK6 _ _ ⟨_, ?_, ⟨r1.num, r1.den, r2.num, r2.den, b14, b15, F, rfl, H⟩⟩)
            exact ⟨rfl, rfl, rfl, trivial⟩
          ·
            refine DW.sole rfl rfl rfl (OW.alloc Tz28 fun b16 w40 N16 => ?_)
            refine ⟨fun _ => N16.ext, ModX.ext N16.ext, ?_⟩
            have G0_b16 : w3.heap.size ≤ b16 := by rw [N16.at_]; exact hz
            replace H := H.new N16 N16.blk
            replace R0 := H.ext
            replace hz := Nat.le_trans hz (Ext.size N16.ext)
            refine DW.sole rfl rfl rfl (OW.call Tc80 rfl (level_ratio_ok (a0 := a1.num) (a1 := a0.den) hr2) ?_)
            rintro _ w41 ⟨rfl, E10⟩
            refine ⟨_, rfl, fun _ => E10, ModX.ext E10, ?_⟩
            replace H := H.grow E10
            replace R0 := H.ext
            replace hz := Nat.le_trans hz (Ext.size E10)
            refine DW.sole rfl rfl rfl (OW.store Tk28 rfl rfl (H.blk 1 rfl) (off := 0) (vs := [.int .i64 r1.num, .int .i64 r1.den]) rfl rfl rfl rfl rfl fun w42 S16 => ?_)
            refine ⟨fun h => absurd h (by decide), S16.modx (.inl G0_b14), ?_⟩
            replace H : Hp w w42 [.blk b16 28 [.int .i64 0, .int .i64 0], .blk b14 28 [.int .i64 r1.num, .int .i64 r1.den], .blk b3 28 [.int .i64 0, .int .i64 0], .blk b2 28 [.int .i64 a1.num, .int .i64 a1.den], .blk b1 28 [.int .i64 a0.num, .int .i64 a0.den]] := H.stored 1 rfl S16
            replace R0 := H.ext
            replace hz := Nat.le_trans hz (Nat.le_of_eq S16.size.symm)
            refine DW.sole rfl rfl rfl (OW.store Tk28 rfl rfl (H.blk 0 rfl) (off := 0) (vs := [.int .i64 r2.num, .int .i64 r2.den]) rfl rfl rfl rfl rfl fun w43 S17 => ?_)
            refine ⟨fun h => absurd h (by decide), S17.modx (.inl G0_b16), ?_⟩
            replace H : Hp w w43 [.blk b16 28 [.int .i64 r2.num, .int .i64 r2.den], .blk b14 28 [.int .i64 r1.num, .int .i64 r1.den], .blk b3 28 [.int .i64 0, .int .i64 0], .blk b2 28 [.int .i64 a1.num, .int .i64 a1.den], .blk b1 28 [.int .i64 a0.num, .int .i64 a0.den]] := H.stored 0 rfl S17
            replace R0 := H.ext
            replace hz := Nat.le_trans hz (Nat.le_of_eq S17.size.symm)
            replace H := H.pick (L' := [.blk b3 28 [.int .i64 0, .int .i64 0], .blk b14 28 [.int .i64 r1.num, .int .i64 r1.den], .blk b16 28 [.int .i64 r2.num, .int .i64 r2.den]]) [2, 1, 0] (by decide) rfl
            replace R0 := H.ext
            refine DW.nil (jK6 _ _ ⟨_, ?_, ⟨r1.num, r1.den, r2.num, r2.den, b14, b16, F, rfl, H⟩⟩)
            exact ⟨rfl, rfl, rfl, trivial⟩
        ·
          refine DW.sole rfl rfl rfl (OW.alloc Tz28 fun b17 w44 N17 => ?_)
          refine ⟨fun _ => N17.ext, ModX.ext N17.ext, ?_⟩
          have G0_b17 : w3.heap.size ≤ b17 := by rw [N17.at_]; exact hz
          replace H := H.new N17 N17.blk
          replace R0 := H.ext
          replace hz := Nat.le_trans hz (Ext.size N17.ext)
          refine DW.sole rfl rfl rfl (OW.call Tc80 rfl (level_ratio_ok (a0 := a0.num) (a1 := a1.den) hr1) ?_)
          rintro _ w45 ⟨rfl, E11⟩
          refine ⟨_, rfl, fun _ => E11, ModX.ext E11, ?_⟩
          replace H := H.grow E11
          replace R0 := H.ext
          replace hz := Nat.le_trans hz (Ext.size E11)
          refine DW.sole rfl rfl rfl (OW.call Tc80 rfl (level_ratio_ok (a0 := a1.num) (a1 := a0.den) hr2) ?_)
          rintro _ w46 ⟨rfl, E12⟩
          refine ⟨_, rfl, fun _ => E12, ModX.ext E12, ?_⟩
          replace H := H.grow E12
          replace R0 := H.ext
          replace hz := Nat.le_trans hz (Ext.size E12)
          refine DW.sole rfl rfl rfl (OW.store Tk28 rfl rfl (H.blk 1 rfl) (off := 0) (vs := [.int .i64 r1.num, .int .i64 r1.den]) rfl rfl rfl rfl rfl fun w47 S18 => ?_)
          refine ⟨fun h => absurd h (by decide), S18.modx (.inl G0_b14), ?_⟩
          replace H : Hp w w47 [.blk b17 28 [.int .i64 0, .int .i64 0], .blk b14 28 [.int .i64 r1.num, .int .i64 r1.den], .blk b3 28 [.int .i64 0, .int .i64 0], .blk b2 28 [.int .i64 a1.num, .int .i64 a1.den], .blk b1 28 [.int .i64 a0.num, .int .i64 a0.den]] := H.stored 1 rfl S18
          replace R0 := H.ext
          replace hz := Nat.le_trans hz (Nat.le_of_eq S18.size.symm)
          refine DW.sole rfl rfl rfl (OW.store Tk28 rfl rfl (H.blk 0 rfl) (off := 0) (vs := [.int .i64 r2.num, .int .i64 r2.den]) rfl rfl rfl rfl rfl fun w48 S19 => ?_)
          refine ⟨fun h => absurd h (by decide), S19.modx (.inl G0_b17), ?_⟩
          replace H : Hp w w48 [.blk b17 28 [.int .i64 r2.num, .int .i64 r2.den], .blk b14 28 [.int .i64 r1.num, .int .i64 r1.den], .blk b3 28 [.int .i64 0, .int .i64 0], .blk b2 28 [.int .i64 a1.num, .int .i64 a1.den], .blk b1 28 [.int .i64 a0.num, .int .i64 a0.den]] := H.stored 0 rfl S19
          replace R0 := H.ext
          replace hz := Nat.le_trans hz (Nat.le_of_eq S19.size.symm)
          replace H := H.pick (L' := [.blk b3 28 [.int .i64 0, .int .i64 0], .blk b14 28 [.int .i64 r1.num, .int .i64 r1.den], .blk b17 28 [.int .i64 r2.num, .int .i64 r2.den]]) [2, 1, 0] (by decide) rfl
          replace R0 := H.ext
          refine DW.nil (jK6 _ _ ⟨_, ?_, ⟨r1.num, r1.den, r2.num, r2.den, b14, b17, F, rfl, H⟩⟩)
          exact ⟨rfl, rfl, rfl, trivial⟩
      ·
        refine DW.sole rfl rfl rfl (OW.alloc Tz28 fun b18 w49 N18 => ?_)
        refine ⟨fun _ => N18.ext, ModX.ext N18.ext, ?_⟩
        have G0_b18 : w3.heap.size ≤ b18 := by rw [N18.at_]; exact hz
        replace H := H.new N18 N18.blk
        replace R0 := H.ext
        replace hz := Nat.le_trans hz (Ext.size N18.ext)
        refine DW.alt ?_ ?_
        ·
          refine DW.sole rfl rfl rfl (OW.call Tc80 rfl (level_ratio_ok (a0 := a0.num) (a1 := a1.den) hr1) ?_)
          rintro _ w50 ⟨rfl, E13⟩
          refine ⟨_, rfl, fun _ => E13, ModX.ext E13, ?_⟩
          replace H := H.grow E13
          replace R0 := H.ext
          replace hz := Nat.le_trans hz (Ext.size E13)
          refine DW.alt ?_ ?_
          ·
            refine DW.sole rfl rfl rfl (OW.call Tc80 rfl (level_ratio_ok (a0 := a1.num) (a1 := a0.den) hr2) ?_)
            rintro _ w51 ⟨rfl, E14⟩
            refine ⟨_, rfl, fun _ => E14, ModX.ext E14, ?_⟩
            replace H := H.grow E14
            replace R0 := H.ext
            replace hz := Nat.le_trans hz (Ext.size E14)
            refine DW.sole rfl rfl rfl (OW.alloc Tz28 fun b19 w52 N19 => ?_)
            refine ⟨fun _ => N19.ext, ModX.ext N19.ext, ?_⟩
            have G0_b19 : w3.heap.size ≤ b19 := by rw [N19.at_]; exact hz
            replace H := H.new N19 N19.blk
            replace R0 := H.ext
            replace hz := Nat.le_trans hz (Ext.size N19.ext)
            refine DW.sole rfl rfl rfl (OW.store Tk28 rfl rfl (H.blk 0 rfl) (off := 0) (vs := [.int .i64 r1.num, .int .i64 r1.den]) rfl rfl rfl rfl rfl fun w53 S20 => ?_)
            refine ⟨fun h => absurd h (by decide), S20.modx (.inl G0_b19), ?_⟩
            replace H : Hp w w53 [.blk b19 28 [.int .i64 r1.num, .int .i64 r1.den], .blk b18 28 [.int .i64 0, .int .i64 0], .blk b3 28 [.int .i64 0, .int .i64 0], .blk b2 28 [.int .i64 a1.num, .int .i64 a1.den], .blk b1 28 [.int .i64 a0.num, .int .i64 a0.den]] := H.stored 0 rfl S20
            replace R0 := H.ext
            replace hz := Nat.le_trans hz (Nat.le_of_eq S20.size.symm)
            refine DW.sole rfl rfl rfl (OW.store Tk28 rfl rfl (H.blk 1 rfl) (off := 0) (vs := [.int .i64 r2.num, .int .i64 r2.den]) rfl rfl rfl rfl rfl fun w54 S21 => ?_)
            refine ⟨fun h => absurd h (by decide), S21.modx (.inl G0_b18), ?_⟩
            replace H : Hp w w54 [.blk b19 28 [.int .i64 r1.num, .int .i64 r1.den], .blk b18 28 [.int .i64 r2.num, .int .i64 r2.den], .blk b3 28 [.int .i64 0, .int .i64 0], .blk b2 28 [.int .i64 a1.num, .int .i64 a1.den], .blk b1 28 [.int .i64 a0.num, .int .i64 a0.den]] := H.stored 1 rfl S21
            replace R0 := H.ext
            replace hz := Nat.le_trans hz (Nat.le_of_eq S21.size.symm)
            replace H := H.pick (L' := [.blk b3 28 [.int .i64 0, .int .i64 0], .blk b19 28 [.int .i64 r1.num, .int .i64 r1.den], .blk b18 28 [.int .i64 r2.num, .int .i64 r2.den]]) [2, 0, 1] (by decide) rfl
            replace R0 := H.ext
            refine DW.nil (jK6 _ _ ⟨_, ?_, ⟨r1.num, r1.den, r2.num, r2.den, b19, b18, F, rfl, H⟩⟩)
            exact ⟨rfl, rfl, rfl, trivial⟩
          ·
            refine DW.sole rfl rfl rfl (OW.alloc Tz28 fun b20 w55 N20 => ?_)
            refine ⟨fun _ => N20.ext, ModX.ext N20.ext, ?_⟩
            have G0_b20 : w3.heap.size ≤ b20 := by rw [N20.at_]; exact hz
            replace H := H.new N20 N20.blk
            replace R0 := H.ext
            replace hz := Nat.le_trans hz (Ext.size N20.ext)
            refine DW.sole rfl rfl rfl (OW.call Tc80 rfl (level_ratio_ok (a0 := a1.num) (a1 := a0.den) hr2) ?_)
            rintro _ w56 ⟨rfl, E15⟩
            refine ⟨_, rfl, fun _ => E15, ModX.ext E15, ?_⟩
            replace H := H.grow E15
            replace R0 := H.ext
            replace hz := Nat.le_trans hz (Ext.size E15)
            refine DW.sole rfl rfl rfl (OW.store Tk28 rfl rfl (H.blk 0 rfl) (off := 0) (vs := [.int .i64 r1.num, .int .i64 r1.den]) rfl rfl rfl rfl rfl fun w57 S22 => ?_)
            refine ⟨fun h => absurd h (by decide), S22.modx (.inl G0_b20), ?_⟩
            replace H : Hp w w57 [.blk b20 28 [.int .i64 r1.num, .int .i64 r1.den], .blk b18 28 [.int .i64 0, .int .i64 0], .blk b3 28 [.int .i64 0, .int .i64 0], .blk b2 28 [.int .i64 a1.num, .int .i64 a1.den], .blk b1 28 [.int .i64 a0.num, .int .i64 a0.den]] := H.stored 0 rfl S22
            replace R0 := H.ext
            replace hz := Nat.le_trans hz (Nat.le_of_eq S22.size.symm)
            refine DW.sole rfl rfl rfl (OW.store Tk28 rfl rfl (H.blk 1 rfl) (off := 0) (vs := [.int .i64 r2.num, .int .i64 r2.den]) rfl rfl rfl rfl rfl fun w58 S23 => ?_)
            refine ⟨fun h => absurd h (by decide), S23.modx (.inl G0_b18), ?_⟩
            replace H : Hp w w58 [.blk b20 28 [.int .i64 r1.num, .int .i64 r1.den], .blk b18 28 [.int .i64 r2.num, .int .i64 r2.den], .blk b3 28 [.int .i64 0, .int .i64 0], .blk b2 28 [.int .i64 a1.num, .int .i64 a1.den], .blk b1 28 [.int .i64 a0.num, .int .i64 a0.den]] := H.stored 1 rfl S23
            replace R0 := H.ext
            replace hz := Nat.le_trans hz (Nat.le_of_eq S23.size.symm)
            replace H := H.pick (L' := [.blk b3 28 [.int .i64 0, .int .i64 0], .blk b20 28 [.int .i64 r1.num, .int .i64 r1.den], .blk b18 28 [.int .i64 r2.num, .int .i64 r2.den]]) [2, 0, 1] (by decide) rfl
            replace R0 := H.ext
            refine DW.nil (jK6 _ _ ⟨_, ?_, ⟨r1.num, r1.den, r2.num, r2.den, b20, b18, F, rfl, H⟩⟩)
            exact ⟨rfl, rfl, rfl, trivial⟩
        ·
          refine DW.sole rfl rfl rfl (OW.alloc Tz28 fun b21 w59 N21 => ?_)
          refine ⟨fun _ => N21.ext, ModX.ext N21.ext, ?_⟩
          have G0_b21 : w3.heap.size ≤ b21 := by rw [N21.at_]; exact hz
          replace H := H.new N21 N21.blk
          replace R0 := H.ext
          replace hz := Nat.le_trans hz (Ext.size N21.ext)
          refine DW.sole rfl rfl rfl (OW.call Tc80 rfl (level_ratio_ok (a0 := a0.num) (a1 := a1.den) hr1) ?_)
          rintro _ w60 ⟨rfl, E16⟩
          refine ⟨_, rfl, fun _ => E16, ModX.ext E16, ?_⟩
          replace H := H.grow E16
          replace R0 := H.ext
          replace hz := Nat.le_trans hz (Ext.size E16)
          refine DW.sole rfl rfl rfl (OW.call Tc80 rfl (level_ratio_ok (a0 := a1.num) (a1 := a0.den) hr2) ?_)
          rintro _ w61 ⟨rfl, E17⟩
          refine ⟨_, rfl, fun _ => E17, ModX.ext E17, ?_⟩
          replace H := H.grow E17
          replace R0 := H.ext
          replace hz := Nat.le_trans hz (Ext.size E17)
          refine DW.sole rfl rfl rfl (OW.store Tk28 rfl rfl (H.blk 0 rfl) (off := 0) (vs := [.int .i64 r1.num, .int .i64 r1.den]) rfl rfl rfl rfl rfl fun w62 S24 => ?_)
          refine ⟨fun h => absurd h (by decide), S24.modx (.inl G0_b21), ?_⟩
          replace H : Hp w w62 [.blk b21 28 [.int .i64 r1.num, .int .i64 r1.den], .blk b18 28 [.int .i64 0, .int .i64 0], .blk b3 28 [.int .i64 0, .int .i64 0], .blk b2 28 [.int .i64 a1.num, .int .i64 a1.den], .blk b1 28 [.int .i64 a0.num, .int .i64 a0.den]] := H.stored 0 rfl S24
          replace R0 := H.ext
          replace hz := Nat.le_trans hz (Nat.le_of_eq S24.size.symm)
          refine DW.sole rfl rfl rfl (OW.store Tk28 rfl rfl (H.blk 1 rfl) (off := 0) (vs := [.int .i64 r2.num, .int .i64 r2.den]) rfl rfl rfl rfl rfl fun w63 S25 => ?_)
          refine ⟨fun h => absurd h (by decide), S25.modx (.inl G0_b18), ?_⟩
          replace H : Hp w w63 [.blk b21 28 [.int .i64 r1.num, .int .i64 r1.den], .blk b18 28 [.int .i64 r2.num, .int .i64 r2.den], .blk b3 28 [.int .i64 0, .int .i64 0], .blk b2 28 [.int .i64 a1.num, .int .i64 a1.den], .blk b1 28 [.int .i64 a0.num, .int .i64 a0.den]] := H.stored 1 rfl S25
          replace R0 := H.ext
          replace hz := Nat.le_trans hz (Nat.le_of_eq S25.size.symm)
          replace H := H.pick (L' := [.blk b3 28 [.int .i64 0, .int .i64 0], .blk b21 28 [.int .i64 r1.num, .int .i64 r1.den], .blk b18 28 [.int .i64 r2.num, .int .i64 r2.den]]) [2, 0, 1] (by decide) rfl
          replace R0 := H.ext
          refine DW.nil (jK6 _ _ ⟨_, ?_, ⟨r1.num, r1.den, r2.num, r2.den, b21, b18, F, rfl, H⟩⟩)
          exact ⟨rfl, rfl, rfl, trivial⟩
set_option maxRecDepth 20000 in
set_option maxHeartbeats 1000000 in
theorem level_div_ok {a0 : Rat} {a1 : Rat} {w : World} {res : Rat} (F : level_div a0 a1 = some res) : Calls Try.prog 79 #[.agg #[.int .i64 a0.num, .int .i64 a0.den], .agg #[.int .i64 a1.num, .int .i64 a1.den]] w (Rt w (.agg #[.int .i64 res.num, .int .i64 res.den])) := by
  refine calls_of_cw (args := [.agg #[.int .i64 a0.num, .int .i64 a0.den], .agg #[.int .i64 a1.num, .int .i64 a1.den]]) Try.func79 rfl rfl rfl rfl ?_
  have H := Hp.start w
  have R0 := H.ext
  unfold level_div at F
  refine CW.seq fun K1 hK1 => ?_
  refine CW.region ?_
  refine LW.go rfl rfl (OW.box rfl fun b1 w1 N1 => ?_)
  replace H := H.new N1 N1.blk
  replace R0 := H.ext
  refine LW.go rfl rfl (OW.box rfl fun b2 w2 N2 => ?_)
  replace H := H.new N2 N2.blk
  replace R0 := H.ext
  refine LW.go rfl rfl (OW.alloc Tz28 fun b3 w3 N3 => ?_)
  replace H := H.new N3 N3.blk
  replace R0 := H.ext
  refine LW.nil (hK1 _ _ ?_)
  refine CW.seq fun K2 hK2 => ?_
  obtain ⟨r1, hr1, F⟩ := bnd_some F
  obtain ⟨r2, hr2, F⟩ := bnd_some F
  refine CW.draw [7] (fun _ => True) (.cons 0 1 (.cons 1 1 (.cons 2 1 (.cons 3 1 (.cons 4 1 (.cons 5 0 (.cons 6 0 (.cons 7 0 .nil)))))))) mixed (by kernel_rfl) fun w4 E1 => ?_
  replace H := H.grow E1
  replace R0 := H.ext
  refine DW.fix rfl rfl rfl (fun _ EQ => RV.loadA [.int .i64 a0.num, .int .i64 a0.den] Tk28 rfl ((H.grow EQ).blk 2 rfl).cells rfl rfl) ?_
  refine DW.fix rfl rfl rfl (fun _ EQ => RV.fieldAddr Tf28_1 rfl) ?_
  refine DW.fix rfl rfl rfl (fun _ EQ => RV.load1 Tk3 rfl (((H.grow EQ).blk 1 rfl).cells.off 1) rfl) ?_
  refine DW.fix rfl rfl rfl (fun _ EQ => RV.fieldAddr Tf28_0 rfl) ?_
  refine DW.fix rfl rfl rfl (fun _ EQ => RV.load1 Tk3 rfl (((H.grow EQ).blk 1 rfl).cells.off 0) rfl) ?_
  refine DW.sole rfl rfl rfl (OW.call Tc80 rfl (level_ratio_ok (a0 := a1.den) (a1 := a1.num) hr1) ?_)
  rintro _ w5 ⟨rfl, E2⟩
  refine ⟨_, rfl, fun _ => E2, ModX.ext E2, ?_⟩
  replace H := H.grow E2
  replace R0 := H.ext
  refine DW.sole rfl rfl rfl (OW.call Tc73 rfl (level_mul_ok (a0 := a0) (a1 := r1) hr2) ?_)
  rintro _ w6 ⟨rfl, E3⟩
  refine ⟨_, rfl, fun _ => E3, ModX.ext E3, ?_⟩
  replace H := H.grow E3
  replace R0 := H.ext
  refine DW.sole rfl rfl rfl (OW.store Tk28 rfl rfl (H.blk 0 rfl) (off := 0) (vs := [.int .i64 r2.num, .int .i64 r2.den]) rfl rfl rfl rfl rfl fun w7 S1 => ?_)
  refine ⟨fun h => absurd h (by decide), S1.modx trivial, ?_⟩
  replace H : Hp w w7 [.blk b3 28 [.int .i64 r2.num, .int .i64 r2.den], .blk b2 28 [.int .i64 a1.num, .int .i64 a1.den], .blk b1 28 [.int .i64 a0.num, .int .i64 a0.den]] := H.stored 0 rfl S1
  replace R0 := H.ext
  refine DW.nil (hK2 _ _ ?_)
  refine CW.ret ?_
  obtain rfl := Option.some.inj F
  refine ⟨_, (ResOK.cell1 ⟨_, rfl, run_loadVar_agg Tk28 (H.blk 0 rfl).cells (us := [.int .i64 r2.num, .int .i64 r2.den]) rfl rfl⟩), ?_⟩
  refine ⟨(by first | rfl | simp), R0⟩
end Go.D1
