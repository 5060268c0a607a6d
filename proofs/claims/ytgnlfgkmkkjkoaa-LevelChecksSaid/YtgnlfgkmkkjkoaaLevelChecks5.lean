/- Lemmas and walks that the proof of this claim uses: D1m16, D1m17, D1m18, D1m19, D1m20, D1m21, Tb22, D1p1, D1p2, D1p3. -/
import Derived.Test.YtgnlfgkmkkjkoaaLevelChecks4
set_option linter.unusedVariables false
set_option linter.unusedSimpArgs false
namespace Go.D1
open Go.Tb Go.Proofs Go.RowKit
theorem Tc106 : callable Try.prog 106 = true := by kernel_rfl
theorem Tc81 : callable Try.prog 81 = true := by kernel_rfl
set_option maxRecDepth 20000 in
set_option maxHeartbeats 1000000 in
theorem slices_IndexFunc_int_ok {a0 : List Int} {a1 : Int → Option Bool} {A_a0 : Option Addr} {c_a0 : Nat} {f_a1 : Nat} {p_a1 : Array Value} {q_a1 : Array Value} {w : World} {res : Int} (h_a0 : Sl w A_a0 c_a0 1 (a0.map encN)) (h_a1 : ∀ (x2 : Int) (r : Bool), a1 x2 = some r → ∀ w1, Ext w w1 → CallsV Try.prog f_a1 p_a1 q_a1 #[.int .i64 x2] w1 (Rt w1 (.bool r))) (F : slices_IndexFunc_int a0 a1 = some res) : Calls Try.prog 106 #[.slice A_a0 a0.length c_a0, .func (.func f_a1) p_a1 q_a1] w (Rt w (.int .i64 res)) := by
  refine calls_of_cw (args := [.slice A_a0 a0.length c_a0, .func (.func f_a1) p_a1 q_a1]) Try.func106 rfl rfl rfl rfl ?_
  have H := Hp.start w
  have R0 := H.ext
  unfold slices_IndexFunc_int at F
  refine CW.seq fun K1 hK1 => ?_
  refine CW.region ?_
  refine LW.pure rfl rfl (RV.assign rfl) ?_
  refine LW.nil (hK1 _ _ ?_)
  refine CW.seqJ (fun ρ wl1 => (slices_IndexFunc_int_k1 = some res ∧ ρ = [(4, .int .i64 0)] ∧ Hp w wl1 [])) ?_ ?_
  ·
    rintro _ wl1 ⟨F, rfl, H⟩
    have R0 := H.ext
    unfold slices_IndexFunc_int_k1 at F
    refine CW.seq fun K2 hK2 => ?_
    refine CW.region ?_
    refine LW.pure rfl rfl (RV.assign rfl) ?_
    refine LW.nil (hK2 _ _ ?_)
    refine CW.ret ?_
    obtain rfl := Option.some.inj F
    refine ⟨_, (ResOK.one rfl), ?_⟩
    refine ⟨(by first | rfl | simp), R0⟩
  ·
    intro K3 hK3 jK63
    refine CW.seq fun K4 hK4 => ?_
    refine CW.region ?_
    refine LW.pure rfl rfl (RV.move rfl) ?_
    refine LW.pure rfl rfl (RV.len Ts39 rfl) ?_
    refine LW.pure rfl rfl (RV.move rfl) ?_
    refine LW.nil (hK4 _ _ ?_)
    refine CW.block ?_
    refine CW.loop (fun meas ρ wl2 => ∃ (t8_1 : Int), slices_IndexFunc_int_L1 a0 a1 meas t8_1 = some res ∧ ρ = [(0, .slice A_a0 a0.length c_a0), (1, .func (.func f_a1) p_a1 q_a1), (4, .int .i64 0), (7, .int .i64 ((a0.length : Int))), (8, .int .i64 t8_1)] ∧ Hp w wl2 []) FU ⟨_, ?_, ((0 : Int)), F, rfl, H⟩ ?_
    · exact ⟨rfl, rfl, rfl, rfl, rfl, trivial⟩
    rintro mk1 _ wl2 ⟨t8_1, F, rfl, H⟩
    have R0 := H.ext
    replace F := slices_IndexFunc_int_L1_s F
    obtain ⟨mk1, rfl, F⟩ := F
    generalize hrec1 : slices_IndexFunc_int_L1 a0 a1 mk1 = rec1 at F
    unfold slices_IndexFunc_int_B1 at F
    refine CW.seq fun K5 hK5 => ?_
    refine CW.region ?_
    refine LW.pure rfl rfl (RV.lss rfl rfl) ?_
    refine LW.nil (hK5 _ _ ?_)
    refine CW.seq fun K6 hK6 => ?_
    by_cases hp1 : t8_1 < ((a0.length : Int))
    ·
      replace F := ite_y hp1 F
      have hq1 := dec_t hp1
      refine CW.condT rfl hq1 ?_
      refine CW.skip (hK6 _ _ ?_)
      refine CW.seq fun K7 hK7 => ?_
      refine CW.block ?_
      refine CW.seq fun K8 hK8 => ?_
      refine CW.region ?_
      refine LW.pure rfl rfl (RV.move rfl) ?_
      refine LW.pure rfl rfl (RV.assign rfl) ?_
      refine LW.nil (hK8 _ _ ?_)
      refine CW.seq fun K9 hK9 => ?_
      obtain ⟨x1, hbx1, hx1, F⟩ := ix_some F
      obtain ⟨r1, hr1, F⟩ := bnd_some F
      refine CW.region ?_
      refine LW.pure rfl rfl (RV.move rfl) ?_
      refine LW.pure rfl rfl (RV.move rfl) ?_
      refine LW.pure rfl rfl (RV.move rfl) ?_
      refine LW.pure rfl rfl (RV.indexAddr Ts39 rfl rfl hbx1 (h_a0.addr_ hx1)) ?_
      refine LW.pure rfl rfl (RV.load1 Tk3 rfl ((h_a0.at_ hx1).ext R0) rfl) ?_
      refine LW.go rfl rfl (OW.callV2 rfl rfl rfl (h_a1 _ _ hr1 _ R0) ?_)
      rintro _ w2 ⟨rfl, E1⟩
      refine ⟨_, rfl, ?_⟩
      replace H := H.grow E1
      replace R0 := H.ext
      refine LW.nil (hK9 _ _ ?_)
      by_cases hp2 : r1 = true
      ·
        replace F := ite_y hp2 F
        have hq2 : r1 = true := hp2
        refine CW.condT rfl hq2 ?_
        refine CW.seq fun K10 hK10 => ?_
        refine CW.region ?_
        refine LW.pure rfl rfl (RV.move rfl) ?_
        refine LW.pure rfl rfl (RV.assign rfl) ?_
        refine LW.nil (hK10 _ _ ?_)
        refine CW.ret ?_
        obtain rfl := Option.some.inj F
        refine ⟨_, (ResOK.one rfl), ?_⟩
        refine ⟨(by first | rfl | simp), R0⟩
      ·
        replace F := ite_n hp2 F
        have hq2 : r1 = false := raw_f hp2
        refine CW.condF rfl hq2 ?_
        refine CW.skip (hK7 _ _ ?_)
        obtain ⟨hg1, F⟩ := gd_some F
        refine CW.region ?_
        refine LW.pure rfl rfl (RV.add rfl rfl hg1) ?_
        refine LW.pure rfl rfl (RV.move rfl) ?_
        refine LW.nil ?_
        subst hrec1
        refine ⟨mk1, Nat.lt_succ_self _, _, ?_, (t8_1 + 1), F, rfl, H⟩
        exact ⟨rfl, rfl, rfl, rfl, rfl, trivial⟩
    ·
      replace F := ite_n hp1 F
      have hq1 := dec_f hp1
      refine CW.condF rfl hq1 ?_
      refine CW.exit (jK63 _ _ ⟨_, ?_, ⟨F, rfl, H⟩⟩)
      exact ⟨rfl, trivial⟩
set_option maxRecDepth 20000 in
set_option maxHeartbeats 1000000 in
theorem slices_ContainsFunc_int_ok {a0 : List Int} {a1 : Int → Option Bool} {A_a0 : Option Addr} {c_a0 : Nat} {f_a1 : Nat} {p_a1 : Array Value} {q_a1 : Array Value} {w : World} {res : Bool} (h_a0 : Sl w A_a0 c_a0 1 (a0.map encN)) (h_a1 : ∀ (x0 : Int) (r : Bool), a1 x0 = some r → ∀ w1, Ext w w1 → CallsV Try.prog f_a1 p_a1 q_a1 #[.int .i64 x0] w1 (Rt w1 (.bool r))) (F : slices_ContainsFunc_int a0 a1 = some res) : Calls Try.prog 81 #[.slice A_a0 a0.length c_a0, .func (.func f_a1) p_a1 q_a1] w (Rt w (.bool res)) := by
  refine calls_of_cw (args := [.slice A_a0 a0.length c_a0, .func (.func f_a1) p_a1 q_a1]) Try.func81 rfl rfl rfl rfl ?_
  have H := Hp.start w
  have R0 := H.ext
  unfold slices_ContainsFunc_int at F
  refine CW.seq fun K1 hK1 => ?_
  refine CW.region ?_
  refine LW.pure rfl rfl (RV.assign rfl) ?_
  refine LW.nil (hK1 _ _ ?_)
  refine CW.seq fun K2 hK2 => ?_
  obtain ⟨r1, hr1, F⟩ := bnd_some F
  refine CW.region ?_
  refine LW.pure rfl rfl (RV.move rfl) ?_
  refine LW.pure rfl rfl (RV.move rfl) ?_
  refine LW.go rfl rfl (OW.call Tc106 rfl (slices_IndexFunc_int_ok (a0 := a0) (a1 := a1) (h_a0.ext R0) (fun x0 r hF w1 hE => h_a1 x0 r hF w1 (R0.trans hE)) hr1) ?_)
  rintro _ w2 ⟨rfl, E1⟩
  refine ⟨_, rfl, ?_⟩
  replace H := H.grow E1
  replace R0 := H.ext
  refine LW.pure rfl rfl (RV.geq rfl rfl) ?_
  refine LW.pure rfl rfl (RV.assign rfl) ?_
  refine LW.nil (hK2 _ _ ?_)
  refine CW.ret ?_
  obtain rfl := Option.some.inj F
  refine ⟨_, (ResOK.one rfl), ?_⟩
  refine ⟨(by first | rfl | simp), R0⟩
end Go.D1

set_option linter.unusedVariables false
set_option linter.unusedSimpArgs false
namespace Go.D1
open Go.Tb Go.Proofs Go.RowKit
theorem Tc104 : callable Try.prog 104 = true := by kernel_rfl
set_option maxRecDepth 20000 in
set_option maxHeartbeats 1000000 in
theorem ref01_free_ok {a0 : Survey} {A_a0_readings : Option Addr} {c_a0_readings : Nat} {w : World} {res : (List Int)} (h_a0_readings : Sl w A_a0_readings c_a0_readings 4 (a0.readings.map encReading)) (F : ref01_free a0 = some res) : Calls Try.prog 104 #[.agg #[.int .i64 a0.points, .slice A_a0_readings a0.readings.length c_a0_readings]] w (fun e w' => ∃ (A1 : Option Addr) (c1 : Nat), e = .returned (.slice A1 res.length c1) ∧ Hp w w' [.own A1 c1 3 1 (List.map encN res)]) := by
  refine calls_of_cw (args := [.agg #[.int .i64 a0.points, .slice A_a0_readings a0.readings.length c_a0_readings]]) Try.func104 rfl rfl rfl rfl ?_
  have H := Hp.start w
  have R0 := H.ext
  unfold ref01_free at F
  refine CW.seq fun K1 hK1 => ?_
  refine CW.region ?_
  refine LW.go rfl rfl (OW.box rfl fun b1 w1 N1 => ?_)
  replace H := H.new N1 N1.blk
  replace R0 := H.ext
  refine LW.pure rfl rfl (RV.assign rfl) ?_
  refine LW.nil (hK1 _ _ ?_)
  refine CW.seq fun K2 hK2 => ?_
  obtain ⟨r1, hr1, F⟩ := bnd_some F
  refine CW.region ?_
  refine LW.pure rfl rfl (RV.loadA [.int .i64 a0.points, .slice A_a0_readings a0.readings.length c_a0_readings] Tk24 rfl (H.blk 0 rfl).cells rfl rfl) ?_
  refine LW.go rfl rfl (OW.call Tc67 rfl (ref01_whole_ok (a0 := a0) (h_a0_readings.ext R0) hr1) ?_)
  rintro _ w2 ⟨A3_0, c3_0, rfl, E1⟩
  refine ⟨_, rfl, ?_⟩
  replace H : Hp w w2 [.own A3_0 c3_0 3 1 (List.map encN r1), .blk b1 24 [.int .i64 a0.points, .slice A_a0_readings a0.readings.length c_a0_readings]] := H.append E1
  replace R0 := H.ext
  refine LW.pure rfl rfl (RV.assign rfl) ?_
  refine LW.nil (hK2 _ _ ?_)
  refine CW.seq fun K3 hK3 => ?_
  refine CW.region ?_
  refine LW.pure rfl rfl (RV.assign rfl) ?_
  refine LW.nil (hK3 _ _ ?_)
  refine CW.seqJ (fun ρ wl1 => (∃ (l1 : List Int) (Al1 : Option Addr) (cl1 : Nat), ref01_free_k1 l1 = some res ∧ ρ = [(2, .slice none 0 0), (4, .slice Al1 l1.length cl1)] ∧ Hp w wl1 [.own Al1 cl1 3 1 (List.map encN l1)])) ?_ ?_
  ·
    rintro _ wl1 ⟨l1, Al1, cl1, F, rfl, H⟩
    have R0 := H.ext
    unfold ref01_free_k1 at F
    refine CW.seq fun K4 hK4 => ?_
    refine CW.region ?_
    refine LW.pure rfl rfl (RV.move rfl) ?_
    refine LW.pure rfl rfl (RV.assign rfl) ?_
    refine LW.nil (hK4 _ _ ?_)
    refine CW.ret ?_
    obtain rfl := Option.some.inj F
    refine ⟨_, (ResOK.one rfl), ?_⟩
    exact ⟨Al1, cl1, (by first | rfl | (simp; done) | (simp; omega)), H⟩
  ·
    intro K5 hK5 jK58
    refine CW.seq fun K6 hK6 => ?_
    refine CW.region ?_
    refine LW.pure rfl rfl (RV.assign rfl) ?_
    refine LW.nil (hK6 _ _ ?_)
    refine CW.block ?_
    replace H := H.nilOwn 3 1
    replace R0 := H.ext
    replace H := H.pick (L' := [.own A3_0 c3_0 3 1 (List.map encN r1), .own none 0 3 1 (List.map encN (([] : List Int))), .blk b1 24 [.int .i64 a0.points, .slice A_a0_readings a0.readings.length c_a0_readings]]) [1, 0, 2] (by decide) rfl
    replace R0 := H.ext
    refine CW.loop (fun meas ρ wl2 => ∃ (t5_1 : Int) (l3 : List Int) (Al3 : Option Addr) (cl3 : Nat), ref01_free_L1 a0 r1 meas t5_1 l3 = some res ∧ ρ = [(1, .pointer (some (⟨b1, 0, none⟩))), (2, .slice none 0 0), (3, .slice A3_0 r1.length c3_0), (4, .slice Al3 l3.length cl3), (5, .int .i64 t5_1)] ∧ Hp w wl2 [.own A3_0 c3_0 3 1 (List.map encN r1), .own Al3 cl3 3 1 (List.map encN l3), .blk b1 24 [.int .i64 a0.points, .slice A_a0_readings a0.readings.length c_a0_readings]]) FU ⟨_, ?_, ((0 : Int)), (([] : List Int)), none, 0, F, rfl, H⟩ ?_
    · exact ⟨rfl, rfl, (look_slice rfl (by first | rfl | (simp; done) | omega | (simp; omega))), (look_slice rfl (by first | rfl | (simp; done) | omega | (simp; omega))), rfl, trivial⟩
    rintro mk1 _ wl2 ⟨t5_1, l3, Al3, cl3, F, rfl, H⟩
    have R0 := H.ext
    replace F := ref01_free_L1_s F
    obtain ⟨mk1, rfl, F⟩ := F
    generalize hrec1 : ref01_free_L1 a0 r1 mk1 = rec1 at F
    unfold ref01_free_B1 at F
    refine CW.seq fun K7 hK7 => ?_
    refine CW.seq fun K8 hK8 => ?_
    refine CW.region ?_
    refine LW.pure rfl rfl (RV.move rfl) ?_
    refine LW.pure rfl rfl (RV.fieldAddr Tf24_0 rfl) ?_
    refine LW.pure rfl rfl (RV.load1 Tk3 rfl ((H.blk 2 rfl).cells.off 0) rfl) ?_
    refine LW.pure rfl rfl (RV.lss rfl rfl) ?_
    refine LW.nil (hK8 _ _ ?_)
    by_cases hp1 : t5_1 < a0.points
    ·
      replace F := ite_y hp1 F
      have hq1 := dec_t hp1
      refine CW.condT rfl hq1 ?_
      refine CW.skip (hK7 _ _ ?_)
      refine CW.seqJ (fun ρ wl3 => (∃ (l2 : List Int) (Al2 : Option Addr) (cl2 : Nat), ref01_free_k2 t5_1 rec1 l2 = some res ∧ ρ = [(1, .pointer (some (⟨b1, 0, none⟩))), (2, .slice none 0 0), (3, .slice A3_0 r1.length c3_0), (4, .slice Al2 l2.length cl2), (5, .int .i64 t5_1)] ∧ Hp w wl3 [.own A3_0 c3_0 3 1 (List.map encN r1), .own Al2 cl2 3 1 (List.map encN l2), .blk b1 24 [.int .i64 a0.points, .slice A_a0_readings a0.readings.length c_a0_readings]])) ?_ ?_
      ·
        rintro _ wl3 ⟨l2, Al2, cl2, F, rfl, H⟩
        have R0 := H.ext
        unfold ref01_free_k2 at F
        obtain ⟨hg1, F⟩ := gd_some F
        refine CW.region ?_
        refine LW.pure rfl rfl (RV.move rfl) ?_
        refine LW.pure rfl rfl (RV.add rfl rfl hg1) ?_
        refine LW.pure rfl rfl (RV.assign rfl) ?_
        refine LW.nil ?_
        subst hrec1
        refine ⟨mk1, Nat.lt_succ_self _, _, ?_, (t5_1 + 1), l2, Al2, cl2, F, rfl, H⟩
        exact ⟨rfl, rfl, (look_slice rfl (by first | rfl | (simp; done) | omega | (simp; omega))), (look_slice rfl (by first | rfl | (simp; done) | omega | (simp; omega))), rfl, trivial⟩
      ·
        intro K9 hK9 jK73
        refine CW.block ?_
        refine CW.seq fun K10 hK10 => ?_
        obtain ⟨x1, hbx1, hx1, F⟩ := ix_some F
        refine CW.region ?_
        refine LW.pure rfl rfl (RV.move rfl) ?_
        refine LW.pure rfl rfl (RV.move rfl) ?_
        refine LW.pure rfl rfl (RV.indexAddr Ts39 rfl rfl hbx1 ((H.own 0 rfl).sl.addr_ hx1)) ?_
        refine LW.pure rfl rfl (RV.load1 Tk3 rfl ((H.own 0 rfl).sl.at_ hx1) rfl) ?_
        refine LW.pure rfl rfl (RV.move rfl) ?_
        refine LW.pure rfl rfl (RV.nei rfl rfl) ?_
        refine LW.nil (hK10 _ _ ?_)
        by_cases hp2 : x1 = t5_1
        ·
          replace F := ite_y hp2 F
          have hq2 := dec_t hp2
          refine CW.condF rfl (not_f hq2) ?_
          refine CW.skip (jK73 _ _ ⟨_, ?_, ⟨l3, Al3, cl3, F, rfl, H⟩⟩)
          exact ⟨rfl, rfl, (look_slice rfl (by first | rfl | (simp; done) | omega | (simp; omega))), (look_slice rfl (by first | rfl | (simp; done) | omega | (simp; omega))), rfl, trivial⟩
        ·
          replace F := ite_n hp2 F
          have hq2 := dec_f hp2
          refine CW.condT rfl (not_t hq2) ?_
          obtain ⟨hg2, F⟩ := gd_some F
          refine CW.region ?_
          refine LW.pure rfl rfl (RV.move rfl) ?_
          refine LW.pure rfl rfl (RV.move rfl) ?_
          refine LW.go rfl rfl (OW.buildSlice (e := 3) (vs := [.int .i64 t5_1]) (cs := [.int .i64 t5_1]) rfl (fun _ => by kernel_rfl) fun b2 w3 N2 => ?_)
          replace H := H.made' (k := 1) (t := 3) (enc := encN) (l := ([t5_1] : List Int)) N2 N2.blk (fun _ => rfl) rfl (by first | decide | omega | (simp; done) | (simp; omega))
          replace R0 := H.ext
          refine LW.go rfl rfl (OW.appendG (enc := encN) (l := l3) (xs := ([t5_1] : List Int)) Ts39 rfl (look_slice rfl (by first | rfl | (simp; done) | (simp; omega))) (H.own 2 rfl) (H.own 0 rfl).sl (fun _ => rfl) rfl rfl hg2 (by decide) fun A2 c2 w4 O1 M1 D1 => ?_)
          replace H : Hp w w4 [.own (some ⟨b2, 0, none⟩) ((([t5_1] : List Int)).length) 3 1 (List.map encN (([t5_1] : List Int))), .own A3_0 c3_0 3 1 (List.map encN r1), .own A2 c2 3 1 (List.map encN ((l3 ++ ([t5_1] : List Int)))), .blk b1 24 [.int .i64 a0.points, .slice A_a0_readings a0.readings.length c_a0_readings]] := H.mod 2 rfl M1 O1 D1
          replace R0 := H.ext
          refine LW.pure rfl rfl (RV.assign rfl) ?_
          replace H := H.pick (L' := [.own A3_0 c3_0 3 1 (List.map encN r1), .own A2 c2 3 1 (List.map encN ((l3 ++ ([t5_1] : List Int)))), .blk b1 24 [.int .i64 a0.points, .slice A_a0_readings a0.readings.length c_a0_readings]]) [1, 2, 3] (by decide) rfl
          replace R0 := H.ext
          refine LW.nil (jK73 _ _ ⟨_, ?_, ⟨((l3 ++ ([t5_1] : List Int))), A2, c2, F, rfl, H⟩⟩)
          exact ⟨rfl, rfl, (look_slice rfl (by first | rfl | (simp; done) | omega | (simp; omega))), (look_slice rfl (by first | rfl | (simp; done) | omega | (simp; omega))), rfl, trivial⟩
    ·
      replace F := ite_n hp1 F
      have hq1 := dec_f hp1
      refine CW.condF rfl hq1 ?_
      replace H := H.pick (L' := [.own Al3 cl3 3 1 (List.map encN l3)]) [1] (by decide) rfl
      replace R0 := H.ext
      refine CW.exit (jK58 _ _ ⟨_, ?_, ⟨l3, Al3, cl3, F, rfl, H⟩⟩)
      exact ⟨rfl, (look_slice rfl (by first | rfl | (simp; done) | omega | (simp; omega))), trivial⟩
set_option maxRecDepth 20000 in
set_option maxHeartbeats 1000000 in
theorem ref01_best_ok {a0 : Survey} {A_a0_readings : Option Addr} {c_a0_readings : Nat} {w : World} {res : (List Int) × Int} (h_a0_readings : Sl w A_a0_readings c_a0_readings 4 (a0.readings.map encReading)) (F : ref01_best a0 = some res) : Calls Try.prog 75 #[.agg #[.int .i64 a0.points, .slice A_a0_readings a0.readings.length c_a0_readings]] w (fun e w' => ∃ (A1 : Option Addr) (c1 : Nat), e = .returned (.tuple #[.slice A1 res.1.length c1, .int .i64 res.2]) ∧ Hp w w' [.own A1 c1 3 1 (List.map encN res.1)]) := by
  refine calls_of_cw (args := [.agg #[.int .i64 a0.points, .slice A_a0_readings a0.readings.length c_a0_readings]]) Try.func75 rfl rfl rfl rfl ?_
  have H := Hp.start w
  have R0 := H.ext
  unfold ref01_best at F
  refine CW.seq fun K1 hK1 => ?_
  refine CW.region ?_
  refine LW.go rfl rfl (OW.box rfl fun b1 w1 N1 => ?_)
  replace H := H.new N1 N1.blk
  replace R0 := H.ext
  refine LW.pure rfl rfl (RV.assign rfl) ?_
  refine LW.pure rfl rfl (RV.assign rfl) ?_
  refine LW.nil (hK1 _ _ ?_)
  refine CW.seq fun K2 hK2 => ?_
  obtain ⟨r3, hr3, F⟩ := bnd_some F
  refine CW.region ?_
  refine LW.pure rfl rfl (RV.loadA [.int .i64 a0.points, .slice A_a0_readings a0.readings.length c_a0_readings] Tk24 rfl (H.blk 0 rfl).cells rfl rfl) ?_
  refine LW.go rfl rfl (OW.call Tc104 rfl (ref01_free_ok (a0 := a0) (h_a0_readings.ext R0) hr3) ?_)
  rintro _ w2 ⟨A17_0, c17_0, rfl, E1⟩
  refine ⟨_, rfl, ?_⟩
  replace H : Hp w w2 [.own A17_0 c17_0 3 1 (List.map encN r3), .blk b1 24 [.int .i64 a0.points, .slice A_a0_readings a0.readings.length c_a0_readings]] := H.append E1
  replace R0 := H.ext
  refine LW.pure rfl rfl (RV.assign rfl) ?_
  refine LW.nil (hK2 _ _ ?_)
  refine CW.seq fun K3 hK3 => ?_
  obtain ⟨r1, hr1, F⟩ := bnd_some F
  refine CW.region ?_
  refine LW.pure rfl rfl (RV.loadA [.int .i64 a0.points, .slice A_a0_readings a0.readings.length c_a0_readings] Tk24 rfl (H.blk 1 rfl).cells rfl rfl) ?_
  refine LW.pure rfl rfl (RV.move rfl) ?_
  refine LW.go rfl rfl (OW.call Tc100 rfl (ref01_laplace_ok (a0 := a0) (a1 := r3) (h_a0_readings.ext R0) (H.own 0 rfl).sl hr1) ?_)
  rintro _ w3 ⟨A19_0, c19_0, hs19_0, rfl, E2⟩
  refine ⟨_, rfl, ?_⟩
  replace H : Hp w w3 [.tab A19_0 c19_0 39 hs19_0 3 1 (encM encN r1), .own A17_0 c17_0 3 1 (List.map encN r3), .blk b1 24 [.int .i64 a0.points, .slice A_a0_readings a0.readings.length c_a0_readings]] := H.append E2
  replace R0 := H.ext
  refine LW.pure rfl rfl (RV.assign rfl) ?_
  refine LW.nil (hK3 _ _ ?_)
  refine CW.seq fun K4 hK4 => ?_
  refine CW.region ?_
  refine LW.pure rfl rfl (RV.assign rfl) ?_
  refine LW.nil (hK4 _ _ ?_)
  refine CW.seqJ (fun ρ wl1 => (∃ (l4 : List Int) (Al4 : Option Addr) (cl4 : Nat), ref01_best_k4 a0 r3 r1 l4 = some res ∧ ρ = [(1, .pointer (some (⟨b1, 0, none⟩))), (2, .slice none 0 0), (3, .int .i64 0), (4, .slice A17_0 r3.length c17_0), (5, .slice A19_0 r1.length c19_0), (6, .slice Al4 l4.length cl4)] ∧ Hp w wl1 [.own A17_0 c17_0 3 1 (List.map encN r3), .tab A19_0 c19_0 39 hs19_0 3 1 (encM encN r1), .own Al4 cl4 3 1 (List.map encN l4), .blk b1 24 [.int .i64 a0.points, .slice A_a0_readings a0.readings.length c_a0_readings]])) ?_ ?_
  ·
    rintro _ wl1 ⟨l4, Al4, cl4, F, rfl, H⟩
    have R0 := H.ext
    unfold ref01_best_k4 at F
    refine CW.seq fun K5 hK5 => ?_
    obtain ⟨hg1, F⟩ := gd_some F
    refine CW.region ?_
    refine LW.pure rfl rfl (RV.fieldAddr Tf24_0 rfl) ?_
    refine LW.pure rfl rfl (RV.load1 Tk3 rfl ((H.blk 3 rfl).cells.off 0) rfl) ?_
    refine LW.go rfl rfl (OW.makeR (enc := encN) (0 : Int) Ts39 rfl rfl rfl rfl rfl hg1 (by decide) fun b2 w4 N2 => ?_)
    replace H := H.made' (k := 1) (t := 3) (enc := encN) (l := (List.replicate (Int.toNat a0.points) (0 : Int))) N2 N2.blk (fun _ => rfl) rfl (by first | decide | omega | (simp; done) | (simp; omega))
    replace R0 := H.ext
    refine LW.pure rfl rfl (RV.assign rfl) ?_
    refine LW.nil (hK5 _ _ ?_)
    refine CW.seqJ (fun ρ wl2 => (∃ (l1 : List Int), ref01_best_k1 r1 l1 = some res ∧ ρ = [(2, .slice none 0 0), (3, .int .i64 0), (5, .slice A19_0 r1.length c19_0), (11, .slice (some ⟨b2, 0, none⟩) l1.length (((List.replicate (Int.toNat a0.points) (0 : Int))).length))] ∧ Hp w wl2 [.tab A19_0 c19_0 39 hs19_0 3 1 (encM encN r1), .own (some ⟨b2, 0, none⟩) (((List.replicate (Int.toNat a0.points) (0 : Int))).length) 3 1 (List.map encN l1)])) ?_ ?_
    ·
      rintro _ wl2 ⟨l1, F, rfl, H⟩
      have R0 := H.ext
      unfold ref01_best_k1 at F
      refine CW.seq fun K6 hK6 => ?_
      obtain ⟨r2, hr2, F⟩ := bnd_some F
      refine CW.region ?_
      refine LW.pure rfl rfl (RV.move rfl) ?_
      refine LW.pure rfl rfl (RV.move rfl) ?_
      refine LW.go rfl rfl (OW.call Tc99 rfl (ref01_det_ok (a0 := r1) (H.tab 0 rfl).sl2 hr2) ?_)
      rintro _ w5 ⟨rfl, E3⟩
      refine ⟨_, rfl, ?_⟩
      replace H := H.grow E3
      replace R0 := H.ext
      refine LW.pure rfl rfl (RV.assign rfl) ?_
      refine LW.pure rfl rfl (RV.assign rfl) ?_
      refine LW.nil (hK6 _ _ ?_)
      refine CW.ret ?_
      obtain rfl := Option.some.inj F
      refine ⟨_, (ResOK.two rfl rfl), ?_⟩
      replace H := H.pick (L' := [.own (some ⟨b2, 0, none⟩) (((List.replicate (Int.toNat a0.points) (0 : Int))).length) 3 1 (List.map encN l1)]) [1] (by decide) rfl
      replace R0 := H.ext
      exact ⟨(some ⟨b2, 0, none⟩), (((List.replicate (Int.toNat a0.points) (0 : Int))).length), (by first | rfl | (simp; done) | (simp; omega)), H⟩
    ·
      intro K7 hK7 jK2163
      refine CW.seq fun K8 hK8 => ?_
      refine CW.region ?_
      refine LW.pure rfl rfl (RV.assign rfl) ?_
      refine LW.nil (hK8 _ _ ?_)
      refine CW.block ?_
      replace H := H.pick (L' := [.own A17_0 c17_0 3 1 (List.map encN r3), .tab A19_0 c19_0 39 hs19_0 3 1 (encM encN r1), .own Al4 cl4 3 1 (List.map encN l4), .own (some ⟨b2, 0, none⟩) (((List.replicate (Int.toNat a0.points) (0 : Int))).length) 3 1 (List.map encN ((List.replicate (Int.toNat a0.points) (0 : Int))))]) [1, 2, 3, 0] (by decide) rfl
      replace R0 := H.ext
      refine CW.loop (fun meas ρ wl3 => ∃ (t12_1 : Int) (l3 : List Int), ref01_best_L2 r3 r1 l4 meas t12_1 l3 = some res ∧ ρ = [(2, .slice none 0 0), (3, .int .i64 0), (4, .slice A17_0 r3.length c17_0), (5, .slice A19_0 r1.length c19_0), (6, .slice Al4 l4.length cl4), (11, .slice (some ⟨b2, 0, none⟩) l3.length (((List.replicate (Int.toNat a0.points) (0 : Int))).length)), (12, .int .i64 t12_1)] ∧ Hp w wl3 [.own A17_0 c17_0 3 1 (List.map encN r3), .tab A19_0 c19_0 39 hs19_0 3 1 (encM encN r1), .own Al4 cl4 3 1 (List.map encN l4), .own (some ⟨b2, 0, none⟩) (((List.replicate (Int.toNat a0.points) (0 : Int))).length) 3 1 (List.map encN l3)]) FU ⟨_, ?_, ((0 : Int)), ((List.replicate (Int.toNat a0.points) (0 : Int))), F, rfl, H⟩ ?_
      · exact ⟨rfl, rfl, (look_slice rfl (by first | rfl | (simp; done) | omega | (simp; omega))), (look_slice rfl (by first | rfl | (simp; done) | omega | (simp; omega))), (look_slice rfl (by first | rfl | (simp; done) | omega | (simp; omega))), (look_slice rfl (by first | rfl | (simp; done) | omega | (simp; omega))), rfl, trivial⟩
      rintro mk1 _ wl3 ⟨t12_1, l3, F, rfl, H⟩
      have R0 := H.ext
      replace F := ref01_best_L2_s F
      obtain ⟨mk1, rfl, F⟩ := F
      generalize hrec1 : ref01_best_L2 r3 r1 l4 mk1 = rec1 at F
      unfold ref01_best_B2 at F
      refine CW.seq fun K9 hK9 => ?_
      refine CW.seq fun K10 hK10 => ?_
      refine CW.region ?_
      refine LW.pure rfl rfl (RV.move rfl) ?_
      refine LW.pure rfl rfl (RV.move rfl) ?_
      refine LW.pure rfl rfl (RV.len Ts39 rfl) ?_
      refine LW.pure rfl rfl (RV.lss rfl rfl) ?_
      refine LW.nil (hK10 _ _ ?_)
      by_cases hp1 : t12_1 < ((r3.length : Int))
      ·
        replace F := ite_y hp1 F
        have hq1 := dec_t hp1
        refine CW.condT rfl hq1 ?_
        refine CW.skip (hK9 _ _ ?_)
        refine CW.seqJ (fun ρ wl4 => (∃ (l2 : List Int), ref01_best_k2 t12_1 rec1 l2 = some res ∧ ρ = [(2, .slice none 0 0), (3, .int .i64 0), (4, .slice A17_0 r3.length c17_0), (5, .slice A19_0 r1.length c19_0), (6, .slice Al4 l4.length cl4), (11, .slice (some ⟨b2, 0, none⟩) l2.length (((List.replicate (Int.toNat a0.points) (0 : Int))).length)), (12, .int .i64 t12_1)] ∧ Hp w wl4 [.own A17_0 c17_0 3 1 (List.map encN r3), .tab A19_0 c19_0 39 hs19_0 3 1 (encM encN r1), .own Al4 cl4 3 1 (List.map encN l4), .own (some ⟨b2, 0, none⟩) (((List.replicate (Int.toNat a0.points) (0 : Int))).length) 3 1 (List.map encN l2)])) ?_ ?_
        ·
          rintro _ wl4 ⟨l2, F, rfl, H⟩
          have R0 := H.ext
          unfold ref01_best_k2 at F
          obtain ⟨hg2, F⟩ := gd_some F
          refine CW.region ?_
          refine LW.pure rfl rfl (RV.move rfl) ?_
          refine LW.pure rfl rfl (RV.add rfl rfl hg2) ?_
          refine LW.pure rfl rfl (RV.assign rfl) ?_
          refine LW.nil ?_
          subst hrec1
          refine ⟨mk1, Nat.lt_succ_self _, _, ?_, (t12_1 + 1), l2, F, rfl, H⟩
          exact ⟨rfl, rfl, (look_slice rfl (by first | rfl | (simp; done) | omega | (simp; omega))), (look_slice rfl (by first | rfl | (simp; done) | omega | (simp; omega))), (look_slice rfl (by first | rfl | (simp; done) | omega | (simp; omega))), (look_slice rfl (by first | rfl | (simp; done) | omega | (simp; omega))), rfl, trivial⟩
        ·
          intro K11 hK11 jK2343
          refine CW.block ?_
          refine CW.seq fun K12 hK12 => ?_
          refine CW.region ?_
          refine LW.pure rfl rfl (RV.assign rfl) ?_
          refine LW.nil (hK12 _ _ ?_)
          refine CW.seqJ (fun ρ wl5 => (∃ (m1 : List (List Int)) (hsm1 : List (Option Addr × Nat)) (Am1 : Option Addr) (cm1 : Nat), ref01_best_k3 r3 t12_1 l3 rec1 m1 = some res ∧ ρ = [(2, .slice none 0 0), (3, .int .i64 0), (4, .slice A17_0 r3.length c17_0), (5, .slice A19_0 r1.length c19_0), (6, .slice Al4 l4.length cl4), (11, .slice (some ⟨b2, 0, none⟩) l3.length (((List.replicate (Int.toNat a0.points) (0 : Int))).length)), (12, .int .i64 t12_1), (13, .slice Am1 m1.length cm1)] ∧ Hp w wl5 [.own A17_0 c17_0 3 1 (List.map encN r3), .tab A19_0 c19_0 39 hs19_0 3 1 (encM encN r1), .own Al4 cl4 3 1 (List.map encN l4), .own (some ⟨b2, 0, none⟩) (((List.replicate (Int.toNat a0.points) (0 : Int))).length) 3 1 (List.map encN l3), .tab Am1 cm1 39 hsm1 3 1 (encM encN m1)])) ?_ ?_
          ·
            rintro _ wl5 ⟨m1, hsm1, Am1, cm1, F, rfl, H⟩
            have R0 := H.ext
            unfold ref01_best_k3 at F
            obtain ⟨x1, hbx1, hx1, F⟩ := ix_some F
            obtain ⟨r4, hr4, F⟩ := bnd_some F
            obtain ⟨x2, hbx2, hx2, F⟩ := ix_some F
            refine CW.draw [8] (fun _ => True) (.cons 0 1 (.cons 1 1 (.cons 2 1 (.cons 3 1 (.cons 4 1 (.cons 5 1 (.cons 6 0 (.cons 7 1 (.cons 8 0 .nil))))))))) mixed (by kernel_rfl) fun w6 E4 => ?_
            replace H := H.grow E4
            replace R0 := H.ext
            refine DW.fix rfl rfl rfl (fun _ EQ => RV.move rfl) ?_
            refine DW.fix rfl rfl rfl (fun _ EQ => RV.move rfl) ?_
            refine DW.fix rfl rfl rfl (fun _ EQ => RV.move rfl) ?_
            refine DW.fix rfl rfl rfl (fun _ EQ => RV.indexAddr Ts39 rfl rfl hbx1 ((H.own 0 rfl).sl.addr_ hx1)) ?_
            refine DW.fix rfl rfl rfl (fun _ EQ => RV.load1 Tk3 rfl (((H.grow EQ).own 0 rfl).sl.at_ hx1) rfl) ?_
            refine DW.fix rfl rfl rfl (fun _ EQ => RV.move rfl) ?_
            refine DW.sole rfl rfl rfl (OW.call Tc99 rfl (ref01_det_ok (a0 := m1) (H.tab 4 rfl).sl2 hr4) ?_)
            rintro _ w7 ⟨rfl, E5⟩
            refine ⟨_, rfl, fun _ => E5, ModX.ext E5, ?_⟩
            replace H := H.grow E5
            replace R0 := H.ext
            refine DW.fix rfl rfl rfl (fun _ EQ => RV.indexAddr Ts39 rfl rfl hbx2 ⟨_, rfl⟩) ?_
            refine DW.sole rfl rfl rfl (OW.storeO (enc := encN) (vs := [.int .i64 r4]) 0 (r4) Tk3 rfl rfl (H.own 3 rfl) (fun _ => rfl) rfl hx2 rfl rfl (by decide) rfl rfl fun w8 M1 O1 => ?_)
            refine ⟨fun h => absurd h (by decide), M1.modx (fun _ _ => trivial), ?_⟩
            replace H : Hp w w8 [.own A17_0 c17_0 3 1 (List.map encN r3), .tab A19_0 c19_0 39 hs19_0 3 1 (encM encN r1), .own Al4 cl4 3 1 (List.map encN l4), .own (some ⟨b2, 0, none⟩) (((List.replicate (Int.toNat a0.points) (0 : Int))).length) 3 1 (List.map encN ((l3.set (Int.toNat x1) r4))), .tab Am1 cm1 39 hsm1 3 1 (encM encN m1)] := H.mod 3 rfl M1 O1 (.inl rfl)
            replace R0 := H.ext
            replace H := H.pick (L' := [.own A17_0 c17_0 3 1 (List.map encN r3), .tab A19_0 c19_0 39 hs19_0 3 1 (encM encN r1), .own Al4 cl4 3 1 (List.map encN l4), .own (some ⟨b2, 0, none⟩) (((List.replicate (Int.toNat a0.points) (0 : Int))).length) 3 1 (List.map encN ((l3.set (Int.toNat x1) r4)))]) [0, 1, 2, 3] (by decide) rfl
            replace R0 := H.ext
            refine DW.nil (jK2343 _ _ ⟨_, ?_, ⟨((l3.set (Int.toNat x1) r4)), F, rfl, H⟩⟩)
            exact ⟨rfl, rfl, (look_slice rfl (by first | rfl | (simp; done) | omega | (simp; omega))), (look_slice rfl (by first | rfl | (simp; done) | omega | (simp; omega))), (look_slice rfl (by first | rfl | (simp; done) | omega | (simp; omega))), (look_slice rfl (by first | rfl | (simp; done) | omega | (simp; omega))), rfl, trivial⟩
          ·
            intro K13 hK13 jK2361
            refine CW.seq fun K14 hK14 => ?_
            refine CW.region ?_
            refine LW.pure rfl rfl (RV.assign rfl) ?_
            refine LW.nil (hK14 _ _ ?_)
            refine CW.block ?_
            replace H := H.nilTab encN 39 3 1
            replace R0 := H.ext
            replace H := H.pick (L' := [.own A17_0 c17_0 3 1 (List.map encN r3), .tab A19_0 c19_0 39 hs19_0 3 1 (encM encN r1), .own Al4 cl4 3 1 (List.map encN l4), .own (some ⟨b2, 0, none⟩) (((List.replicate (Int.toNat a0.points) (0 : Int))).length) 3 1 (List.map encN l3), .tab none 0 39 ([]) 3 1 (encM encN (([] : List (List Int))))]) [1, 2, 3, 4, 0] (by decide) rfl
            replace R0 := H.ext
            refine CW.loop (fun meas ρ wl6 => ∃ (t14_1 : Int) (m2 : List (List Int)) (hsm2 : List (Option Addr × Nat)) (Am2 : Option Addr) (cm2 : Nat), ref01_best_L1 r3 r1 l4 t12_1 l3 rec1 meas t14_1 m2 = some res ∧ ρ = [(2, .slice none 0 0), (3, .int .i64 0), (4, .slice A17_0 r3.length c17_0), (5, .slice A19_0 r1.length c19_0), (6, .slice Al4 l4.length cl4), (11, .slice (some ⟨b2, 0, none⟩) l3.length (((List.replicate (Int.toNat a0.points) (0 : Int))).length)), (12, .int .i64 t12_1), (13, .slice Am2 m2.length cm2), (14, .int .i64 t14_1)] ∧ Hp w wl6 [.own A17_0 c17_0 3 1 (List.map encN r3), .tab A19_0 c19_0 39 hs19_0 3 1 (encM encN r1), .own Al4 cl4 3 1 (List.map encN l4), .own (some ⟨b2, 0, none⟩) (((List.replicate (Int.toNat a0.points) (0 : Int))).length) 3 1 (List.map encN l3), .tab Am2 cm2 39 hsm2 3 1 (encM encN m2)]) FU ⟨_, ?_, ((0 : Int)), (([] : List (List Int))), ([]), none, 0, F, rfl, H⟩ ?_
            · exact ⟨rfl, rfl, (look_slice rfl (by first | rfl | (simp; done) | omega | (simp; omega))), (look_slice rfl (by first | rfl | (simp; done) | omega | (simp; omega))), (look_slice rfl (by first | rfl | (simp; done) | omega | (simp; omega))), (look_slice rfl (by first | rfl | (simp; done) | omega | (simp; omega))), rfl, (look_slice rfl (by first | rfl | (simp; done) | omega | (simp; omega))), rfl, trivial⟩
            rintro mk2 _ wl6 ⟨t14_1, m2, hsm2, Am2, cm2, F, rfl, H⟩
            have R0 := H.ext
            replace F := ref01_best_L1_s F
            obtain ⟨mk2, rfl, F⟩ := F
            generalize hrec2 : ref01_best_L1 r3 r1 l4 t12_1 l3 rec1 mk2 = rec2 at F
            unfold ref01_best_B1 at F
            refine CW.seq fun K15 hK15 => ?_
            refine CW.seq fun K16 hK16 => ?_
            refine CW.region ?_
            refine LW.pure rfl rfl (RV.move rfl) ?_
            refine LW.pure rfl rfl (RV.move rfl) ?_
            refine LW.pure rfl rfl (RV.len Ts36 rfl) ?_
            refine LW.pure rfl rfl (RV.lss rfl rfl) ?_
            refine LW.nil (hK16 _ _ ?_)
            by_cases hp2 : t14_1 < ((r1.length : Int))
            ·
              replace F := ite_y hp2 F
              have hq2 := dec_t hp2
              refine CW.condT rfl hq2 ?_
              refine CW.skip (hK15 _ _ ?_)
              refine CW.seq fun K17 hK17 => ?_
              refine CW.block ?_
              refine CW.seq fun K18 hK18 => ?_
              obtain ⟨x3, hbx3, hx3, F⟩ := ix_some F
              obtain ⟨hg3, F⟩ := gd_some F
              refine CW.region ?_
              refine LW.go rfl rfl (OW.buildSlice (e := 3) (vs := []) (cs := []) rfl (fun _ => by kernel_rfl) fun b3 w9 N3 => ?_)
              replace H := H.made' (k := 1) (t := 3) (enc := encN) (l := ([] : List Int)) N3 N3.blk (fun _ => rfl) rfl (by first | decide | omega | (simp; done) | (simp; omega))
              replace R0 := H.ext
              refine LW.pure rfl rfl (RV.move rfl) ?_
              refine LW.pure rfl rfl (RV.move rfl) ?_
              obtain ⟨B1, e1, hh1⟩ := (H.tab 2 rfl).hd hx3
              refine LW.pure rfl rfl (RV.indexAddr Ts36 rfl rfl hbx3 ((H.tab 2 rfl).addr_ hx3)) ?_
              refine LW.pure rfl rfl (RV.load1 Tk39 rfl ((H.tab 2 rfl).cell hx3 hh1) rfl) ?_
              refine LW.go rfl rfl (OW.appendG (enc := encN) (l := ([] : List Int)) (xs := x3) Ts39 (look_slice rfl (by first | rfl | (simp; done) | (simp; omega))) rfl (H.own 0 rfl) ((H.tab 2 rfl).rowO hx3 hh1).sl (fun _ => rfl) rfl rfl hg3 (by decide) fun A2 c2 w10 O2 M2 D1 => ?_)
              replace H : Hp w w10 [.own A2 c2 3 1 (List.map encN ((([] : List Int) ++ x3))), .own A17_0 c17_0 3 1 (List.map encN r3), .tab A19_0 c19_0 39 hs19_0 3 1 (encM encN r1), .own Al4 cl4 3 1 (List.map encN l4), .own (some ⟨b2, 0, none⟩) (((List.replicate (Int.toNat a0.points) (0 : Int))).length) 3 1 (List.map encN l3), .tab Am2 cm2 39 hsm2 3 1 (encM encN m2)] := H.mod 0 rfl M2 O2 D1
              replace R0 := H.ext
              refine LW.pure rfl rfl (RV.assign rfl) ?_
              refine LW.nil (hK18 _ _ ?_)
              refine CW.seq fun K19 hK19 => ?_
              obtain ⟨x4, hbx4, hx4, F⟩ := ix_some F
              obtain ⟨x5, hbx5, hx5, F⟩ := ix_some F
              refine CW.region ?_
              refine LW.pure rfl rfl (RV.move rfl) ?_
              refine LW.pure rfl rfl (RV.move rfl) ?_
              refine LW.pure rfl rfl (RV.move rfl) ?_
              refine LW.pure rfl rfl (RV.move rfl) ?_
              refine LW.pure rfl rfl (RV.indexAddr Ts39 rfl rfl hbx4 ((H.own 3 rfl).sl.addr_ hx4)) ?_
              refine LW.pure rfl rfl (RV.load1 Tk3 rfl ((H.own 3 rfl).sl.at_ hx4) rfl) ?_
              refine LW.pure rfl rfl (RV.indexAddr Ts39 rfl rfl hbx5 ((H.own 0 rfl).sl.addr_ hx5)) ?_
              refine LW.go rfl rfl (OW.storeO (enc := encN) (vs := [.int .i64 x4]) 0 (x4) Tk3 rfl rfl (H.own 0 rfl) (fun _ => rfl) rfl hx5 rfl rfl (by decide) rfl rfl fun w11 M3 O3 => ?_)
              replace H : Hp w w11 [.own A2 c2 3 1 (List.map encN ((((([] : List Int) ++ x3)).set (Int.toNat t12_1) x4))), .own A17_0 c17_0 3 1 (List.map encN r3), .tab A19_0 c19_0 39 hs19_0 3 1 (encM encN r1), .own Al4 cl4 3 1 (List.map encN l4), .own (some ⟨b2, 0, none⟩) (((List.replicate (Int.toNat a0.points) (0 : Int))).length) 3 1 (List.map encN l3), .tab Am2 cm2 39 hsm2 3 1 (encM encN m2)] := H.mod 0 rfl M3 O3 (.inl rfl)
              replace R0 := H.ext
              refine LW.nil (hK19 _ _ ?_)
              obtain ⟨hg4, F⟩ := gd_some F
              refine CW.region ?_
              refine LW.pure rfl rfl (RV.move rfl) ?_
              refine LW.pure rfl rfl (RV.move rfl) ?_
              refine LW.go rfl rfl (OW.buildSlice (e := 39) (vs := [.slice A2 (((([] : List Int) ++ x3)).length) c2]) (cs := [.slice A2 (((([] : List Int) ++ x3)).length) c2]) rfl (fun _ => by kernel_rfl) fun b4 w12 N4 => ?_)
              have hce1 : ((([] : List Int) ++ x3)).length = ((((([] : List Int) ++ x3)).set (Int.toNat t12_1) x4)).length := by first | omega | (simp; done) | (simp; omega) | rfl
              replace H := H.made' (k := 1) (t := 39) (enc := encH) (l := ([((A2, c2), List.map encN ((((([] : List Int) ++ x3)).set (Int.toNat t12_1) x4)))] : List ((Option Addr × Nat) × List (List Value)))) N4 (by have q := N4.blk; simp only [List.flatMap_cons, List.flatMap_nil, encH, List.length_map, List.append_nil, List.cons_append, List.nil_append]; first | done | exact q | (rw [← hce1]; exact q) | (simp only [List.nil_append, List.append_nil, List.cons_append] at hce1 q; rw [← hce1]; exact q)) (fun _ => rfl) rfl (by first | decide | omega | (simp; done) | (simp; omega))
              replace R0 := H.ext
              refine LW.go rfl rfl (OW.appendT (enc := encN) (m := m2) (l := (((([] : List Int) ++ x3)).set (Int.toNat t12_1) x4)) Ts36 rfl rfl (H.tab 6 rfl) (H.own 0 rfl).sl rfl hg4 (by decide) fun A3 c3 w13 O4 M4 D2 => ?_)
              replace H : Hp w w13 [.own (some ⟨b4, 0, none⟩) ((([((A2, c2), List.map encN ((((([] : List Int) ++ x3)).set (Int.toNat t12_1) x4)))] : List ((Option Addr × Nat) × List (List Value)))).length) 39 1 (List.map encH (([((A2, c2), List.map encN ((((([] : List Int) ++ x3)).set (Int.toNat t12_1) x4)))] : List ((Option Addr × Nat) × List (List Value))))), .own A17_0 c17_0 3 1 (List.map encN r3), .tab A19_0 c19_0 39 hs19_0 3 1 (encM encN r1), .own Al4 cl4 3 1 (List.map encN l4), .own (some ⟨b2, 0, none⟩) (((List.replicate (Int.toNat a0.points) (0 : Int))).length) 3 1 (List.map encN l3), .tab A3 c3 39 ((hsm2 ++ [(A2, c2)])) 3 1 (encM encN ((m2 ++ [(((([] : List Int) ++ x3)).set (Int.toNat t12_1) x4)])))] := H.tabPush 6 1 (by decide) rfl rfl M4 D2 O4
              replace R0 := H.ext
              refine LW.pure rfl rfl (RV.assign rfl) ?_
              refine LW.nil (hK17 _ _ ?_)
              obtain ⟨hg5, F⟩ := gd_some F
              refine CW.region ?_
              refine LW.pure rfl rfl (RV.move rfl) ?_
              refine LW.pure rfl rfl (RV.add rfl rfl hg5) ?_
              refine LW.pure rfl rfl (RV.assign rfl) ?_
              refine LW.nil ?_
              replace H := H.pick (L' := [.own A17_0 c17_0 3 1 (List.map encN r3), .tab A19_0 c19_0 39 hs19_0 3 1 (encM encN r1), .own Al4 cl4 3 1 (List.map encN l4), .own (some ⟨b2, 0, none⟩) (((List.replicate (Int.toNat a0.points) (0 : Int))).length) 3 1 (List.map encN l3), .tab A3 c3 39 ((hsm2 ++ [(A2, c2)])) 3 1 (encM encN ((m2 ++ [(((([] : List Int) ++ x3)).set (Int.toNat t12_1) x4)])))]) [1, 2, 3, 4, 5] (by decide) rfl
              replace R0 := H.ext
              subst hrec2
              refine ⟨mk2, Nat.lt_succ_self _, _, ?_, (t14_1 + 1), ((m2 ++ [(((([] : List Int) ++ x3)).set (Int.toNat t12_1) x4)])), ((hsm2 ++ [(A2, c2)])), A3, c3, F, rfl, H⟩
              exact ⟨rfl, rfl, (look_slice rfl (by first | rfl | (simp; done) | omega | (simp; omega))), (look_slice rfl (by first | rfl | (simp; done) | omega | (simp; omega))), (look_slice rfl (by first | rfl | (simp; done) | omega | (simp; omega))), (look_slice rfl (by first | rfl | (simp; done) | omega | (simp; omega))), rfl, (look_slice rfl (by first | rfl | (simp; done) | omega | (simp; omega))), rfl, trivial⟩
            ·
              replace F := ite_n hp2 F
              have hq2 := dec_f hp2
              refine CW.condF rfl hq2 ?_
              refine CW.exit (jK2361 _ _ ⟨_, ?_, ⟨m2, hsm2, Am2, cm2, F, rfl, H⟩⟩)
              exact ⟨rfl, rfl, (look_slice rfl (by first | rfl | (simp; done) | omega | (simp; omega))), (look_slice rfl (by first | rfl | (simp; done) | omega | (simp; omega))), (look_slice rfl (by first | rfl | (simp; done) | omega | (simp; omega))), (look_slice rfl (by first | rfl | (simp; done) | omega | (simp; omega))), rfl, (look_slice rfl (by first | rfl | (simp; done) | omega | (simp; omega))), trivial⟩
      ·
        replace F := ite_n hp1 F
        have hq1 := dec_f hp1
        refine CW.condF rfl hq1 ?_
        replace H := H.pick (L' := [.tab A19_0 c19_0 39 hs19_0 3 1 (encM encN r1), .own (some ⟨b2, 0, none⟩) (((List.replicate (Int.toNat a0.points) (0 : Int))).length) 3 1 (List.map encN l3)]) [1, 3] (by decide) rfl
        replace R0 := H.ext
        refine CW.exit (jK2163 _ _ ⟨_, ?_, ⟨l3, F, rfl, H⟩⟩)
        exact ⟨rfl, rfl, (look_slice rfl (by first | rfl | (simp; done) | omega | (simp; omega))), (look_slice rfl (by first | rfl | (simp; done) | omega | (simp; omega))), trivial⟩
  ·
    intro K20 hK20 jK2378
    refine CW.seq fun K21 hK21 => ?_
    refine CW.region ?_
    refine LW.pure rfl rfl (RV.assign rfl) ?_
    refine LW.nil (hK21 _ _ ?_)
    refine CW.block ?_
    replace H := H.nilOwn 3 1
    replace R0 := H.ext
    replace H := H.pick (L' := [.own A17_0 c17_0 3 1 (List.map encN r3), .tab A19_0 c19_0 39 hs19_0 3 1 (encM encN r1), .own none 0 3 1 (List.map encN (([] : List Int))), .blk b1 24 [.int .i64 a0.points, .slice A_a0_readings a0.readings.length c_a0_readings]]) [2, 1, 0, 3] (by decide) rfl
    replace R0 := H.ext
    refine CW.loop (fun meas ρ wl7 => ∃ (t7_1 : Int) (l6 : List Int) (Al6 : Option Addr) (cl6 : Nat), ref01_best_L4 a0 r3 r1 meas t7_1 l6 = some res ∧ ρ = [(1, .pointer (some (⟨b1, 0, none⟩))), (2, .slice none 0 0), (3, .int .i64 0), (4, .slice A17_0 r3.length c17_0), (5, .slice A19_0 r1.length c19_0), (6, .slice Al6 l6.length cl6), (7, .int .i64 t7_1)] ∧ Hp w wl7 [.own A17_0 c17_0 3 1 (List.map encN r3), .tab A19_0 c19_0 39 hs19_0 3 1 (encM encN r1), .own Al6 cl6 3 1 (List.map encN l6), .blk b1 24 [.int .i64 a0.points, .slice A_a0_readings a0.readings.length c_a0_readings]]) FU ⟨_, ?_, ((0 : Int)), (([] : List Int)), none, 0, F, rfl, H⟩ ?_
    · exact ⟨rfl, rfl, rfl, (look_slice rfl (by first | rfl | (simp; done) | omega | (simp; omega))), (look_slice rfl (by first | rfl | (simp; done) | omega | (simp; omega))), (look_slice rfl (by first | rfl | (simp; done) | omega | (simp; omega))), rfl, trivial⟩
    rintro mk3 _ wl7 ⟨t7_1, l6, Al6, cl6, F, rfl, H⟩
    have R0 := H.ext
    replace F := ref01_best_L4_s F
    obtain ⟨mk3, rfl, F⟩ := F
    generalize hrec3 : ref01_best_L4 a0 r3 r1 mk3 = rec3 at F
    unfold ref01_best_B4 at F
    refine CW.seq fun K22 hK22 => ?_
    refine CW.seq fun K23 hK23 => ?_
    refine CW.region ?_
    refine LW.pure rfl rfl (RV.move rfl) ?_
    refine LW.pure rfl rfl (RV.move rfl) ?_
    refine LW.pure rfl rfl (RV.len Ts39 rfl) ?_
    refine LW.pure rfl rfl (RV.lss rfl rfl) ?_
    refine LW.nil (hK23 _ _ ?_)
    by_cases hp3 : t7_1 < ((r3.length : Int))
    ·
      replace F := ite_y hp3 F
      have hq3 := dec_t hp3
      refine CW.condT rfl hq3 ?_
      refine CW.skip (hK22 _ _ ?_)
      refine CW.seqJ (fun ρ wl8 => (∃ (l5 : List Int) (Al5 : Option Addr) (cl5 : Nat), ref01_best_k5 t7_1 rec3 l5 = some res ∧ ρ = [(1, .pointer (some (⟨b1, 0, none⟩))), (2, .slice none 0 0), (3, .int .i64 0), (4, .slice A17_0 r3.length c17_0), (5, .slice A19_0 r1.length c19_0), (6, .slice Al5 l5.length cl5), (7, .int .i64 t7_1)] ∧ Hp w wl8 [.own A17_0 c17_0 3 1 (List.map encN r3), .tab A19_0 c19_0 39 hs19_0 3 1 (encM encN r1), .own Al5 cl5 3 1 (List.map encN l5), .blk b1 24 [.int .i64 a0.points, .slice A_a0_readings a0.readings.length c_a0_readings]])) ?_ ?_
      ·
        rintro _ wl8 ⟨l5, Al5, cl5, F, rfl, H⟩
        have R0 := H.ext
        unfold ref01_best_k5 at F
        obtain ⟨hg6, F⟩ := gd_some F
        refine CW.region ?_
        refine LW.pure rfl rfl (RV.move rfl) ?_
        refine LW.pure rfl rfl (RV.add rfl rfl hg6) ?_
        refine LW.pure rfl rfl (RV.assign rfl) ?_
        refine LW.nil ?_
        subst hrec3
        refine ⟨mk3, Nat.lt_succ_self _, _, ?_, (t7_1 + 1), l5, Al5, cl5, F, rfl, H⟩
        exact ⟨rfl, rfl, rfl, (look_slice rfl (by first | rfl | (simp; done) | omega | (simp; omega))), (look_slice rfl (by first | rfl | (simp; done) | omega | (simp; omega))), (look_slice rfl (by first | rfl | (simp; done) | omega | (simp; omega))), rfl, trivial⟩
      ·
        intro K24 hK24 jK2798
        refine CW.block ?_
        refine CW.seq fun K25 hK25 => ?_
        refine CW.region ?_
        refine LW.pure rfl rfl (RV.assign rfl) ?_
        refine LW.nil (hK25 _ _ ?_)
        refine CW.seqJ (fun ρ wl9 => (∃ (t8_1 : Int), ref01_best_k6 t7_1 l6 rec3 t8_1 = some res ∧ ρ = [(1, .pointer (some (⟨b1, 0, none⟩))), (2, .slice none 0 0), (3, .int .i64 0), (4, .slice A17_0 r3.length c17_0), (5, .slice A19_0 r1.length c19_0), (6, .slice Al6 l6.length cl6), (7, .int .i64 t7_1), (8, .int .i64 t8_1)] ∧ Hp w wl9 [.own A17_0 c17_0 3 1 (List.map encN r3), .tab A19_0 c19_0 39 hs19_0 3 1 (encM encN r1), .own Al6 cl6 3 1 (List.map encN l6), .blk b1 24 [.int .i64 a0.points, .slice A_a0_readings a0.readings.length c_a0_readings]])) ?_ ?_
        ·
          rintro _ wl9 ⟨t8_1, F, rfl, H⟩
          have R0 := H.ext
          unfold ref01_best_k6 at F
          obtain ⟨hg7, F⟩ := gd_some F
          refine CW.region ?_
          refine LW.pure rfl rfl (RV.move rfl) ?_
          refine LW.pure rfl rfl (RV.move rfl) ?_
          refine LW.go rfl rfl (OW.buildSlice (e := 3) (vs := [.int .i64 t8_1]) (cs := [.int .i64 t8_1]) rfl (fun _ => by kernel_rfl) fun b5 w14 N5 => ?_)
          replace H := H.made' (k := 1) (t := 3) (enc := encN) (l := ([t8_1] : List Int)) N5 N5.blk (fun _ => rfl) rfl (by first | decide | omega | (simp; done) | (simp; omega))
          replace R0 := H.ext
          refine LW.go rfl rfl (OW.appendG (enc := encN) (l := l6) (xs := ([t8_1] : List Int)) Ts39 rfl (look_slice rfl (by first | rfl | (simp; done) | (simp; omega))) (H.own 3 rfl) (H.own 0 rfl).sl (fun _ => rfl) rfl rfl hg7 (by decide) fun A4 c4 w15 O5 M5 D3 => ?_)
          replace H : Hp w w15 [.own (some ⟨b5, 0, none⟩) ((([t8_1] : List Int)).length) 3 1 (List.map encN (([t8_1] : List Int))), .own A17_0 c17_0 3 1 (List.map encN r3), .tab A19_0 c19_0 39 hs19_0 3 1 (encM encN r1), .own A4 c4 3 1 (List.map encN ((l6 ++ ([t8_1] : List Int)))), .blk b1 24 [.int .i64 a0.points, .slice A_a0_readings a0.readings.length c_a0_readings]] := H.mod 3 rfl M5 O5 D3
          replace R0 := H.ext
          refine LW.pure rfl rfl (RV.assign rfl) ?_
          replace H := H.pick (L' := [.own A17_0 c17_0 3 1 (List.map encN r3), .tab A19_0 c19_0 39 hs19_0 3 1 (encM encN r1), .own A4 c4 3 1 (List.map encN ((l6 ++ ([t8_1] : List Int)))), .blk b1 24 [.int .i64 a0.points, .slice A_a0_readings a0.readings.length c_a0_readings]]) [1, 2, 3, 4] (by decide) rfl
          replace R0 := H.ext
          refine LW.nil (jK2798 _ _ ⟨_, ?_, ⟨((l6 ++ ([t8_1] : List Int))), A4, c4, F, rfl, H⟩⟩)
          exact ⟨rfl, rfl, rfl, (look_slice rfl (by first | rfl | (simp; done) | omega | (simp; omega))), (look_slice rfl (by first | rfl | (simp; done) | omega | (simp; omega))), (look_slice rfl (by first | rfl | (simp; done) | omega | (simp; omega))), rfl, trivial⟩
        ·
          intro K26 hK26 jK2840
          refine CW.seq fun K27 hK27 => ?_
          refine CW.region ?_
          refine LW.pure rfl rfl (RV.assign rfl) ?_
          refine LW.nil (hK27 _ _ ?_)
          refine CW.block ?_
          refine CW.loop (fun meas ρ wl10 => ∃ (t8_4 : Int) (t9_1 : Int), ref01_best_L3 a0 r3 t7_1 l6 rec3 meas t8_4 t9_1 = some res ∧ ρ = [(1, .pointer (some (⟨b1, 0, none⟩))), (2, .slice none 0 0), (3, .int .i64 0), (4, .slice A17_0 r3.length c17_0), (5, .slice A19_0 r1.length c19_0), (6, .slice Al6 l6.length cl6), (7, .int .i64 t7_1), (8, .int .i64 t8_4), (9, .int .i64 t9_1)] ∧ Hp w wl10 [.own A17_0 c17_0 3 1 (List.map encN r3), .tab A19_0 c19_0 39 hs19_0 3 1 (encM encN r1), .own Al6 cl6 3 1 (List.map encN l6), .blk b1 24 [.int .i64 a0.points, .slice A_a0_readings a0.readings.length c_a0_readings]]) FU ⟨_, ?_, ((0 : Int)), ((0 : Int)), F, rfl, H⟩ ?_
          · exact ⟨rfl, rfl, rfl, (look_slice rfl (by first | rfl | (simp; done) | omega | (simp; omega))), (look_slice rfl (by first | rfl | (simp; done) | omega | (simp; omega))), (look_slice rfl (by first | rfl | (simp; done) | omega | (simp; omega))), rfl, rfl, rfl, trivial⟩
          rintro mk4 _ wl10 ⟨t8_4, t9_1, F, rfl, H⟩
          have R0 := H.ext
          replace F := ref01_best_L3_s F
          obtain ⟨mk4, rfl, F⟩ := F
          generalize hrec4 : ref01_best_L3 a0 r3 t7_1 l6 rec3 mk4 = rec4 at F
          unfold ref01_best_B3 at F
          refine CW.seq fun K28 hK28 => ?_
          refine CW.seq fun K29 hK29 => ?_
          refine CW.region ?_
          refine LW.pure rfl rfl (RV.move rfl) ?_
          refine LW.pure rfl rfl (RV.fieldAddr Tf24_1 rfl) ?_
          refine LW.pure rfl rfl (RV.load1 Tk22 rfl ((H.blk 3 rfl).cells.off 1) rfl) ?_
          refine LW.pure rfl rfl (RV.len Ts22 rfl) ?_
          refine LW.pure rfl rfl (RV.lss rfl rfl) ?_
          refine LW.nil (hK29 _ _ ?_)
          by_cases hp4 : t9_1 < ((a0.readings.length : Int))
          ·
            replace F := ite_y hp4 F
            have hq4 := dec_t hp4
            refine CW.condT rfl hq4 ?_
            refine CW.skip (hK28 _ _ ?_)
            refine CW.seqJ (fun ρ wl11 => (∃ (t8_2 : Int), ref01_best_k7 t9_1 rec4 t8_2 = some res ∧ ρ = [(1, .pointer (some (⟨b1, 0, none⟩))), (2, .slice none 0 0), (3, .int .i64 0), (4, .slice A17_0 r3.length c17_0), (5, .slice A19_0 r1.length c19_0), (6, .slice Al6 l6.length cl6), (7, .int .i64 t7_1), (8, .int .i64 t8_2), (9, .int .i64 t9_1)] ∧ Hp w wl11 [.own A17_0 c17_0 3 1 (List.map encN r3), .tab A19_0 c19_0 39 hs19_0 3 1 (encM encN r1), .own Al6 cl6 3 1 (List.map encN l6), .blk b1 24 [.int .i64 a0.points, .slice A_a0_readings a0.readings.length c_a0_readings]])) ?_ ?_
            ·
              rintro _ wl11 ⟨t8_2, F, rfl, H⟩
              have R0 := H.ext
              unfold ref01_best_k7 at F
              obtain ⟨hg8, F⟩ := gd_some F
              refine CW.region ?_
              refine LW.pure rfl rfl (RV.move rfl) ?_
              refine LW.pure rfl rfl (RV.add rfl rfl hg8) ?_
              refine LW.pure rfl rfl (RV.assign rfl) ?_
              refine LW.nil ?_
              subst hrec4
              refine ⟨mk4, Nat.lt_succ_self _, _, ?_, t8_2, (t9_1 + 1), F, rfl, H⟩
              exact ⟨rfl, rfl, rfl, (look_slice rfl (by first | rfl | (simp; done) | omega | (simp; omega))), (look_slice rfl (by first | rfl | (simp; done) | omega | (simp; omega))), (look_slice rfl (by first | rfl | (simp; done) | omega | (simp; omega))), rfl, rfl, rfl, trivial⟩
            ·
              intro K30 hK30 jK2875
              refine CW.block ?_
              refine CW.seq fun K31 hK31 => ?_
              obtain ⟨x6, hbx6, hx6, F⟩ := ix_some F
              refine CW.region ?_
              refine LW.pure rfl rfl (RV.fieldAddr Tf24_1 rfl) ?_
              refine LW.pure rfl rfl (RV.load1 Tk22 rfl ((H.blk 3 rfl).cells.off 1) rfl) ?_
              refine LW.pure rfl rfl (RV.move rfl) ?_
              refine LW.pure rfl rfl (RV.indexAddr Ts22 rfl rfl hbx6 (h_a0_readings.addr_ hx6)) ?_
              refine LW.pure rfl rfl (RV.loadA [.int .i64 x6.from_, .int .i64 x6.to_, .int .i64 x6.rise, .int .i64 x6.weight] Tk46 rfl ((h_a0_readings.at_ hx6).ext R0) rfl rfl) ?_
              refine LW.go rfl rfl (OW.alloc Tz46 fun b6 w16 N6 => ?_)
              replace H := H.new N6 N6.blk
              replace R0 := H.ext
              refine LW.go rfl rfl (OW.store Tk46 rfl rfl (H.blk 0 rfl) (off := 0) (vs := [.int .i64 x6.from_, .int .i64 x6.to_, .int .i64 x6.rise, .int .i64 x6.weight]) rfl rfl rfl rfl rfl fun w17 S1 => ?_)
              replace H : Hp w w17 [.blk b6 46 [.int .i64 x6.from_, .int .i64 x6.to_, .int .i64 x6.rise, .int .i64 x6.weight], .own A17_0 c17_0 3 1 (List.map encN r3), .tab A19_0 c19_0 39 hs19_0 3 1 (encM encN r1), .own Al6 cl6 3 1 (List.map encN l6), .blk b1 24 [.int .i64 a0.points, .slice A_a0_readings a0.readings.length c_a0_readings]] := H.stored 0 rfl S1
              replace R0 := H.ext
              refine LW.nil (hK31 _ _ ?_)
              refine CW.seqJ (fun ρ wl12 => (∃ (t8_3 : Int), ref01_best_k8 r3 t7_1 t9_1 rec4 x6 t8_3 = some res ∧ ρ = [(1, .pointer (some (⟨b1, 0, none⟩))), (2, .slice none 0 0), (3, .int .i64 0), (4, .slice A17_0 r3.length c17_0), (5, .slice A19_0 r1.length c19_0), (6, .slice Al6 l6.length cl6), (7, .int .i64 t7_1), (8, .int .i64 t8_3), (9, .int .i64 t9_1), (10, .pointer (some (⟨b6, 0, none⟩)))] ∧ Hp w wl12 [.own A17_0 c17_0 3 1 (List.map encN r3), .tab A19_0 c19_0 39 hs19_0 3 1 (encM encN r1), .own Al6 cl6 3 1 (List.map encN l6), .blk b1 24 [.int .i64 a0.points, .slice A_a0_readings a0.readings.length c_a0_readings], .blk b6 46 [.int .i64 x6.from_, .int .i64 x6.to_, .int .i64 x6.rise, .int .i64 x6.weight]])) ?_ ?_
              ·
                rintro _ wl12 ⟨t8_3, F, rfl, H⟩
                have R0 := H.ext
                unfold ref01_best_k8 at F
                refine CW.seq fun K32 hK32 => ?_
                obtain ⟨x7, hbx7, hx7, F⟩ := ix_some F
                refine CW.draw [] (fun _ => True) (.cons 0 1 (.cons 1 1 (.cons 2 1 (.cons 3 1 (.cons 4 1 (.cons 5 1 (.cons 6 1 .nil))))))) mixed (by kernel_rfl) fun w18 E6 => ?_
                replace H := H.grow E6
                replace R0 := H.ext
                refine DW.fix rfl rfl rfl (fun _ EQ => RV.fieldAddr Tf46_0 rfl) ?_
                refine DW.fix rfl rfl rfl (fun _ EQ => RV.load1 Tk3 rfl (((H.grow EQ).blk 4 rfl).cells.off 0) rfl) ?_
                refine DW.fix rfl rfl rfl (fun _ EQ => RV.move rfl) ?_
                refine DW.fix rfl rfl rfl (fun _ EQ => RV.move rfl) ?_
                refine DW.fix rfl rfl rfl (fun _ EQ => RV.indexAddr Ts39 rfl rfl hbx7 ((H.own 0 rfl).sl.addr_ hx7)) ?_
                refine DW.fix rfl rfl rfl (fun _ EQ => RV.load1 Tk3 rfl (((H.grow EQ).own 0 rfl).sl.at_ hx7) rfl) ?_
                refine DW.fix rfl rfl rfl (fun _ EQ => RV.eqi rfl rfl) ?_
                refine DW.nil (hK32 _ _ ?_)
                by_cases hp5 : x6.from_ = x7
                ·
                  replace F := ite_y hp5 F
                  have hq5 := dec_t hp5
                  refine CW.condT rfl hq5 ?_
                  obtain ⟨hg9, F⟩ := gd_some F
                  obtain ⟨hg10, F⟩ := gd_some F
                  refine CW.region ?_
                  refine LW.pure rfl rfl (RV.move rfl) ?_
                  refine LW.pure rfl rfl (RV.fieldAddr Tf46_3 rfl) ?_
                  refine LW.pure rfl rfl (RV.load1 Tk3 rfl ((H.blk 4 rfl).cells.off 3) rfl) ?_
                  refine LW.pure rfl rfl (RV.fieldAddr Tf46_2 rfl) ?_
                  refine LW.pure rfl rfl (RV.load1 Tk3 rfl ((H.blk 4 rfl).cells.off 2) rfl) ?_
                  refine LW.pure rfl rfl (RV.mul rfl rfl hg9) ?_
                  refine LW.pure rfl rfl (RV.sub rfl rfl hg10) ?_
                  refine LW.pure rfl rfl (RV.assign rfl) ?_
                  replace H := H.pick (L' := [.own A17_0 c17_0 3 1 (List.map encN r3), .tab A19_0 c19_0 39 hs19_0 3 1 (encM encN r1), .own Al6 cl6 3 1 (List.map encN l6), .blk b1 24 [.int .i64 a0.points, .slice A_a0_readings a0.readings.length c_a0_readings]]) [0, 1, 2, 3] (by decide) rfl
                  replace R0 := H.ext
                  refine LW.nil (jK2875 _ _ ⟨_, ?_, ⟨(t8_3 - (x6.weight * x6.rise)), F, rfl, H⟩⟩)
                  exact ⟨rfl, rfl, rfl, (look_slice rfl (by first | rfl | (simp; done) | omega | (simp; omega))), (look_slice rfl (by first | rfl | (simp; done) | omega | (simp; omega))), (look_slice rfl (by first | rfl | (simp; done) | omega | (simp; omega))), rfl, rfl, rfl, trivial⟩
                ·
                  replace F := ite_n hp5 F
                  have hq5 := dec_f hp5
                  refine CW.condF rfl hq5 ?_
                  replace H := H.pick (L' := [.own A17_0 c17_0 3 1 (List.map encN r3), .tab A19_0 c19_0 39 hs19_0 3 1 (encM encN r1), .own Al6 cl6 3 1 (List.map encN l6), .blk b1 24 [.int .i64 a0.points, .slice A_a0_readings a0.readings.length c_a0_readings]]) [0, 1, 2, 3] (by decide) rfl
                  replace R0 := H.ext
                  refine CW.skip (jK2875 _ _ ⟨_, ?_, ⟨t8_3, F, rfl, H⟩⟩)
                  exact ⟨rfl, rfl, rfl, (look_slice rfl (by first | rfl | (simp; done) | omega | (simp; omega))), (look_slice rfl (by first | rfl | (simp; done) | omega | (simp; omega))), (look_slice rfl (by first | rfl | (simp; done) | omega | (simp; omega))), rfl, rfl, rfl, trivial⟩
              ·
                intro K33 hK33 jK2879
                refine CW.seq fun K34 hK34 => ?_
                obtain ⟨x8, hbx8, hx8, F⟩ := ix_some F
                refine CW.draw [] (fun _ => True) (.cons 0 1 (.cons 1 1 (.cons 2 1 (.cons 3 1 (.cons 4 1 (.cons 5 1 (.cons 6 1 .nil))))))) mixed (by kernel_rfl) fun w19 E7 => ?_
                replace H := H.grow E7
                replace R0 := H.ext
                refine DW.fix rfl rfl rfl (fun _ EQ => RV.fieldAddr Tf46_1 rfl) ?_
                refine DW.fix rfl rfl rfl (fun _ EQ => RV.load1 Tk3 rfl (((H.grow EQ).blk 0 rfl).cells.off 1) rfl) ?_
                refine DW.fix rfl rfl rfl (fun _ EQ => RV.move rfl) ?_
                refine DW.fix rfl rfl rfl (fun _ EQ => RV.move rfl) ?_
                refine DW.fix rfl rfl rfl (fun _ EQ => RV.indexAddr Ts39 rfl rfl hbx8 ((H.own 1 rfl).sl.addr_ hx8)) ?_
                refine DW.fix rfl rfl rfl (fun _ EQ => RV.load1 Tk3 rfl (((H.grow EQ).own 1 rfl).sl.at_ hx8) rfl) ?_
                refine DW.fix rfl rfl rfl (fun _ EQ => RV.eqi rfl rfl) ?_
                refine DW.nil (hK34 _ _ ?_)
                by_cases hp6 : x6.to_ = x8
                ·
                  replace F := ite_y hp6 F
                  have hq6 := dec_t hp6
                  refine CW.condT rfl hq6 ?_
                  obtain ⟨hg11, F⟩ := gd_some F
                  obtain ⟨hg12, F⟩ := gd_some F
                  refine CW.region ?_
                  refine LW.pure rfl rfl (RV.move rfl) ?_
                  refine LW.pure rfl rfl (RV.fieldAddr Tf46_3 rfl) ?_
                  refine LW.pure rfl rfl (RV.load1 Tk3 rfl ((H.blk 0 rfl).cells.off 3) rfl) ?_
                  refine LW.pure rfl rfl (RV.fieldAddr Tf46_2 rfl) ?_
                  refine LW.pure rfl rfl (RV.load1 Tk3 rfl ((H.blk 0 rfl).cells.off 2) rfl) ?_
                  refine LW.pure rfl rfl (RV.mul rfl rfl hg11) ?_
                  refine LW.pure rfl rfl (RV.add rfl rfl hg12) ?_
                  refine LW.pure rfl rfl (RV.assign rfl) ?_
                  replace H := H.pick (L' := [.own A17_0 c17_0 3 1 (List.map encN r3), .tab A19_0 c19_0 39 hs19_0 3 1 (encM encN r1), .own Al6 cl6 3 1 (List.map encN l6), .blk b1 24 [.int .i64 a0.points, .slice A_a0_readings a0.readings.length c_a0_readings], .blk b6 46 [.int .i64 x6.from_, .int .i64 x6.to_, .int .i64 x6.rise, .int .i64 x6.weight]]) [1, 2, 3, 4, 0] (by decide) rfl
                  replace R0 := H.ext
                  refine LW.nil (jK2879 _ _ ⟨_, ?_, ⟨(t8_4 + (x6.weight * x6.rise)), F, rfl, H⟩⟩)
                  exact ⟨rfl, rfl, rfl, (look_slice rfl (by first | rfl | (simp; done) | omega | (simp; omega))), (look_slice rfl (by first | rfl | (simp; done) | omega | (simp; omega))), (look_slice rfl (by first | rfl | (simp; done) | omega | (simp; omega))), rfl, rfl, rfl, rfl, trivial⟩
                ·
                  replace F := ite_n hp6 F
                  have hq6 := dec_f hp6
                  refine CW.condF rfl hq6 ?_
                  replace H := H.pick (L' := [.own A17_0 c17_0 3 1 (List.map encN r3), .tab A19_0 c19_0 39 hs19_0 3 1 (encM encN r1), .own Al6 cl6 3 1 (List.map encN l6), .blk b1 24 [.int .i64 a0.points, .slice A_a0_readings a0.readings.length c_a0_readings], .blk b6 46 [.int .i64 x6.from_, .int .i64 x6.to_, .int .i64 x6.rise, .int .i64 x6.weight]]) [1, 2, 3, 4, 0] (by decide) rfl
                  replace R0 := H.ext
                  refine CW.skip (jK2879 _ _ ⟨_, ?_, ⟨t8_4, F, rfl, H⟩⟩)
                  exact ⟨rfl, rfl, rfl, (look_slice rfl (by first | rfl | (simp; done) | omega | (simp; omega))), (look_slice rfl (by first | rfl | (simp; done) | omega | (simp; omega))), (look_slice rfl (by first | rfl | (simp; done) | omega | (simp; omega))), rfl, rfl, rfl, rfl, trivial⟩
          ·
            replace F := ite_n hp4 F
            have hq4 := dec_f hp4
            refine CW.condF rfl hq4 ?_
            refine CW.exit (jK2840 _ _ ⟨_, ?_, ⟨t8_4, F, rfl, H⟩⟩)
            exact ⟨rfl, rfl, rfl, (look_slice rfl (by first | rfl | (simp; done) | omega | (simp; omega))), (look_slice rfl (by first | rfl | (simp; done) | omega | (simp; omega))), (look_slice rfl (by first | rfl | (simp; done) | omega | (simp; omega))), rfl, rfl, trivial⟩
    ·
      replace F := ite_n hp3 F
      have hq3 := dec_f hp3
      refine CW.condF rfl hq3 ?_
      refine CW.exit (jK2378 _ _ ⟨_, ?_, ⟨l6, Al6, cl6, F, rfl, H⟩⟩)
      exact ⟨rfl, rfl, rfl, (look_slice rfl (by first | rfl | (simp; done) | omega | (simp; omega))), (look_slice rfl (by first | rfl | (simp; done) | omega | (simp; omega))), (look_slice rfl (by first | rfl | (simp; done) | omega | (simp; omega))), trivial⟩
end Go.D1

set_option linter.unusedVariables false
set_option linter.unusedSimpArgs false
namespace Go.D1
open Go.Tb Go.Proofs Go.RowKit
theorem Tc75 : callable Try.prog 75 = true := by kernel_rfl
set_option maxRecDepth 20000 in
set_option maxHeartbeats 1000000 in
theorem ref01_Best_ok {a0 : Survey} {A_a0_readings : Option Addr} {c_a0_readings : Nat} {w : World} {res : (List Rat) × Int} (h_a0_readings : Sl w A_a0_readings c_a0_readings 4 (a0.readings.map encReading)) (F : ref01_Best a0 = some res) : Calls Try.prog 35 #[.agg #[.int .i64 a0.points, .slice A_a0_readings a0.readings.length c_a0_readings]] w (fun e w' => ∃ (A1 : Option Addr) (c1 : Nat), e = .returned (.tuple #[.slice A1 res.1.length c1, .int .i64 res.2]) ∧ Hp w w' [.own A1 c1 28 2 (List.map encRat res.1)]) := by
  refine calls_of_cw (args := [.agg #[.int .i64 a0.points, .slice A_a0_readings a0.readings.length c_a0_readings]]) Try.func35 rfl rfl rfl rfl ?_
  have H := Hp.start w
  have R0 := H.ext
  unfold ref01_Best at F
  refine CW.seq fun K1 hK1 => ?_
  refine CW.region ?_
  refine LW.go rfl rfl (OW.box rfl fun b1 w1 N1 => ?_)
  replace H := H.new N1 N1.blk
  replace R0 := H.ext
  refine LW.pure rfl rfl (RV.assign rfl) ?_
  refine LW.pure rfl rfl (RV.assign rfl) ?_
  refine LW.nil (hK1 _ _ ?_)
  refine CW.seq fun K2 hK2 => ?_
  refine CW.seq fun K3 hK3 => ?_
  obtain ⟨r3, hr3, F⟩ := bnd_some F
  refine CW.region ?_
  refine LW.pure rfl rfl (RV.loadA [.int .i64 a0.points, .slice A_a0_readings a0.readings.length c_a0_readings] Tk24 rfl (H.blk 0 rfl).cells rfl rfl) ?_
  refine LW.go rfl rfl (OW.call Tc26 rfl (ref01_Validate_ok (a0 := a0) (h_a0_readings.ext R0) hr3) ?_)
  rintro _ w2 ⟨rfl, E1⟩
  refine ⟨_, rfl, ?_⟩
  replace H := H.grow E1
  replace R0 := H.ext
  refine LW.pure rfl rfl (RV.assign rfl) ?_
  refine LW.nil (hK3 _ _ ?_)
  refine CW.seq fun K4 hK4 => ?_
  refine CW.region ?_
  refine LW.pure rfl rfl (RV.move rfl) ?_
  refine LW.pure rfl rfl (RV.nei rfl rfl) ?_
  refine LW.nil (hK4 _ _ ?_)
  by_cases hp1 : r3 = 0
  ·
    replace F := ite_y hp1 F
    have hq1 := dec_t hp1
    refine CW.condF rfl (not_f hq1) ?_
    refine CW.skip (hK2 _ _ ?_)
    refine CW.seq fun K5 hK5 => ?_
    obtain ⟨r1, hr1, F⟩ := bnd_some F
    refine CW.region ?_
    refine LW.pure rfl rfl (RV.loadA [.int .i64 a0.points, .slice A_a0_readings a0.readings.length c_a0_readings] Tk24 rfl (H.blk 0 rfl).cells rfl rfl) ?_
    refine LW.go rfl rfl (OW.call Tc75 rfl (ref01_best_ok (a0 := a0) (h_a0_readings.ext R0) hr1) ?_)
    rintro _ w3 ⟨A12_0, c12_0, rfl, E2⟩
    refine ⟨_, rfl, ?_⟩
    replace H : Hp w w3 [.own A12_0 c12_0 3 1 (List.map encN r1.1), .blk b1 24 [.int .i64 a0.points, .slice A_a0_readings a0.readings.length c_a0_readings]] := H.append E2
    replace R0 := H.ext
    refine LW.pure rfl rfl (RV.move rfl) ?_
    refine LW.pure rfl rfl (RV.extract rfl rfl) ?_
    refine LW.pure rfl rfl (RV.extract rfl rfl) ?_
    refine LW.pure rfl rfl (RV.assign rfl) ?_
    refine LW.pure rfl rfl (RV.assign rfl) ?_
    refine LW.nil (hK5 _ _ ?_)
    refine CW.seq fun K6 hK6 => ?_
    refine CW.region ?_
    refine LW.pure rfl rfl (RV.assign rfl) ?_
    refine LW.nil (hK6 _ _ ?_)
    refine CW.seqJ (fun ρ wl1 => (∃ (l1 : List Rat) (Al1 : Option Addr) (cl1 : Nat), ref01_Best_k1 l1 = some res ∧ ρ = [(2, .slice none 0 0), (3, .int .i64 0), (7, .slice Al1 l1.length cl1)] ∧ Hp w wl1 [.own Al1 cl1 28 2 (List.map encRat l1)])) ?_ ?_
    ·
      rintro _ wl1 ⟨l1, Al1, cl1, F, rfl, H⟩
      have R0 := H.ext
      unfold ref01_Best_k1 at F
      refine CW.seq fun K7 hK7 => ?_
      refine CW.region ?_
      refine LW.pure rfl rfl (RV.move rfl) ?_
      refine LW.pure rfl rfl (RV.assign rfl) ?_
      refine LW.pure rfl rfl (RV.assign rfl) ?_
      refine LW.nil (hK7 _ _ ?_)
      refine CW.ret ?_
      obtain rfl := Option.some.inj F
      refine ⟨_, (ResOK.two rfl rfl), ?_⟩
      exact ⟨Al1, cl1, (by first | rfl | (simp; done) | (simp; omega)), H⟩
    ·
      intro K8 hK8 jK47
      refine CW.seq fun K9 hK9 => ?_
      refine CW.region ?_
      refine LW.pure rfl rfl (RV.assign rfl) ?_
      refine LW.nil (hK9 _ _ ?_)
      refine CW.block ?_
      replace H := H.nilOwn 28 2
      replace R0 := H.ext
      replace H := H.pick (L' := [.own A12_0 c12_0 3 1 (List.map encN r1.1), .own none 0 28 2 (List.map encRat (([] : List Rat)))]) [1, 0] (by decide) rfl
      replace R0 := H.ext
      refine CW.loop (fun meas ρ wl2 => ∃ (t8_1 : Int) (l2 : List Rat) (Al2 : Option Addr) (cl2 : Nat), ref01_Best_L1 r1 meas t8_1 l2 = some res ∧ ρ = [(2, .slice none 0 0), (3, .int .i64 0), (5, .slice A12_0 r1.1.length c12_0), (6, .int .i64 r1.2), (7, .slice Al2 l2.length cl2), (8, .int .i64 t8_1)] ∧ Hp w wl2 [.own A12_0 c12_0 3 1 (List.map encN r1.1), .own Al2 cl2 28 2 (List.map encRat l2)]) FU ⟨_, ?_, ((0 : Int)), (([] : List Rat)), none, 0, F, rfl, H⟩ ?_
      · exact ⟨rfl, rfl, (look_slice rfl (by first | rfl | (simp; done) | omega | (simp; omega))), rfl, (look_slice rfl (by first | rfl | (simp; done) | omega | (simp; omega))), rfl, trivial⟩
      rintro mk1 _ wl2 ⟨t8_1, l2, Al2, cl2, F, rfl, H⟩
      have R0 := H.ext
      replace F := ref01_Best_L1_s F
      obtain ⟨mk1, rfl, F⟩ := F
      generalize hrec1 : ref01_Best_L1 r1 mk1 = rec1 at F
      unfold ref01_Best_B1 at F
      refine CW.seq fun K10 hK10 => ?_
      refine CW.seq fun K11 hK11 => ?_
      refine CW.region ?_
      refine LW.pure rfl rfl (RV.move rfl) ?_
      refine LW.pure rfl rfl (RV.move rfl) ?_
      refine LW.pure rfl rfl (RV.len Ts39 rfl) ?_
      refine LW.pure rfl rfl (RV.lss rfl rfl) ?_
      refine LW.nil (hK11 _ _ ?_)
      by_cases hp2 : t8_1 < ((r1.1.length : Int))
      ·
        replace F := ite_y hp2 F
        have hq2 := dec_t hp2
        refine CW.condT rfl hq2 ?_
        refine CW.skip (hK10 _ _ ?_)
        refine CW.seq fun K12 hK12 => ?_
        refine CW.block ?_
        obtain ⟨x1, hbx1, hx1, F⟩ := ix_some F
        obtain ⟨r2, hr2, F⟩ := bnd_some F
        obtain ⟨hg1, F⟩ := gd_some F
        refine CW.region ?_
        refine LW.pure rfl rfl (RV.move rfl) ?_
        refine LW.pure rfl rfl (RV.move rfl) ?_
        refine LW.pure rfl rfl (RV.move rfl) ?_
        refine LW.pure rfl rfl (RV.indexAddr Ts39 rfl rfl hbx1 ((H.own 0 rfl).sl.addr_ hx1)) ?_
        refine LW.pure rfl rfl (RV.load1 Tk3 rfl ((H.own 0 rfl).sl.at_ hx1) rfl) ?_
        refine LW.pure rfl rfl (RV.move rfl) ?_
        refine LW.go rfl rfl (OW.call Tc33 rfl (ref01_Ratio_ok (a0 := x1) (a1 := r1.2) hr2) ?_)
        rintro _ w4 ⟨rfl, E3⟩
        refine ⟨_, rfl, ?_⟩
        replace H := H.grow E3
        replace R0 := H.ext
        refine LW.go rfl rfl (OW.buildSlice (e := 28) (vs := [.agg #[.int .i64 r2.num, .int .i64 r2.den]]) (cs := [.int .i64 r2.num, .int .i64 r2.den]) rfl (fun _ => by kernel_rfl) fun b2 w5 N2 => ?_)
        replace H := H.made' (k := 2) (t := 28) (enc := encRat) (l := ([r2] : List Rat)) N2 N2.blk (fun _ => rfl) rfl (by first | decide | omega | (simp; done) | (simp; omega))
        replace R0 := H.ext
        refine LW.go rfl rfl (OW.appendG (enc := encRat) (l := l2) (xs := ([r2] : List Rat)) Ts53 rfl (look_slice rfl (by first | rfl | (simp; done) | (simp; omega))) (H.own 2 rfl) (H.own 0 rfl).sl (fun _ => rfl) rfl rfl hg1 (by decide) fun A2 c2 w6 O1 M1 D1 => ?_)
        replace H : Hp w w6 [.own (some ⟨b2, 0, none⟩) ((([r2] : List Rat)).length) 28 2 (List.map encRat (([r2] : List Rat))), .own A12_0 c12_0 3 1 (List.map encN r1.1), .own A2 c2 28 2 (List.map encRat ((l2 ++ ([r2] : List Rat))))] := H.mod 2 rfl M1 O1 D1
        replace R0 := H.ext
        refine LW.pure rfl rfl (RV.assign rfl) ?_
        refine LW.nil (hK12 _ _ ?_)
        obtain ⟨hg2, F⟩ := gd_some F
        refine CW.region ?_
        refine LW.pure rfl rfl (RV.move rfl) ?_
        refine LW.pure rfl rfl (RV.add rfl rfl hg2) ?_
        refine LW.pure rfl rfl (RV.assign rfl) ?_
        refine LW.nil ?_
        replace H := H.pick (L' := [.own A12_0 c12_0 3 1 (List.map encN r1.1), .own A2 c2 28 2 (List.map encRat ((l2 ++ ([r2] : List Rat))))]) [1, 2] (by decide) rfl
        replace R0 := H.ext
        subst hrec1
        refine ⟨mk1, Nat.lt_succ_self _, _, ?_, (t8_1 + 1), ((l2 ++ ([r2] : List Rat))), A2, c2, F, rfl, H⟩
        exact ⟨rfl, rfl, (look_slice rfl (by first | rfl | (simp; done) | omega | (simp; omega))), rfl, (look_slice rfl (by first | rfl | (simp; done) | omega | (simp; omega))), rfl, trivial⟩
      ·
        replace F := ite_n hp2 F
        have hq2 := dec_f hp2
        refine CW.condF rfl hq2 ?_
        replace H := H.pick (L' := [.own Al2 cl2 28 2 (List.map encRat l2)]) [1] (by decide) rfl
        replace R0 := H.ext
        refine CW.exit (jK47 _ _ ⟨_, ?_, ⟨l2, Al2, cl2, F, rfl, H⟩⟩)
        exact ⟨rfl, rfl, (look_slice rfl (by first | rfl | (simp; done) | omega | (simp; omega))), trivial⟩
  ·
    replace F := ite_n hp1 F
    have hq1 := dec_f hp1
    refine CW.condT rfl (not_t hq1) ?_
    refine CW.seq fun K13 hK13 => ?_
    refine CW.region ?_
    refine LW.pure rfl rfl (RV.move rfl) ?_
    refine LW.pure rfl rfl (RV.assign rfl) ?_
    refine LW.pure rfl rfl (RV.assign rfl) ?_
    refine LW.nil (hK13 _ _ ?_)
    refine CW.ret ?_
    obtain rfl := Option.some.inj F
    refine ⟨_, (ResOK.two rfl rfl), ?_⟩
    replace H := H.nilOwn 28 2
    replace R0 := H.ext
    replace H := H.pick (L' := [.own none 0 28 2 (List.map encRat (([] : List Rat)))]) [0] (by decide) rfl
    replace R0 := H.ext
    exact ⟨none, 0, (by first | rfl | (simp; done) | (simp; omega)), H⟩
end Go.D1

set_option linter.unusedVariables false
set_option linter.unusedSimpArgs false
namespace Go.D1
open Go.Tb Go.Proofs Go.RowKit
theorem Tc35 : callable Try.prog 35 = true := by kernel_rfl
end Go.D1

set_option linter.unusedVariables false
set_option linter.unusedSimpArgs false
namespace Go.D1
open Go.Tb Go.Proofs Go.RowKit
theorem Tc82 : callable Try.prog 82 = true := by kernel_rfl
theorem Tc83 : callable Try.prog 83 = true := by kernel_rfl
theorem Tf59_0 : tyF Try.prog 59 0 = some 0 := by kernel_rfl
theorem Tf59_1 : tyF Try.prog 59 1 = some 1 := by kernel_rfl
set_option maxRecDepth 20000 in
set_option maxHeartbeats 1000000 in
theorem level_CheckBest_1_ok {a0 : Int} {w : World} {res : Bool} (F : level_CheckBest_1 a0 = some res) : Calls Try.prog 82 #[.int .i64 a0] w (Rt w (.bool res)) := by
  refine calls_of_cw (args := [.int .i64 a0]) Try.func82 rfl rfl rfl rfl ?_
  have H := Hp.start w
  have R0 := H.ext
  unfold level_CheckBest_1 at F
  refine CW.seq fun K1 hK1 => ?_
  refine CW.region ?_
  refine LW.pure rfl rfl (RV.assign rfl) ?_
  refine LW.nil (hK1 _ _ ?_)
  refine CW.seq fun K2 hK2 => ?_
  obtain ⟨r1, hr1, F⟩ := bnd_some F
  refine CW.region ?_
  refine LW.pure rfl rfl (RV.move rfl) ?_
  refine LW.go rfl rfl (OW.call Tc61 rfl (level_within_ok (a0 := a0) (a1 := (-1000000000 : Int)) (a2 := (1000000000 : Int)) hr1) ?_)
  rintro _ w1 ⟨rfl, E1⟩
  refine ⟨_, rfl, ?_⟩
  replace H := H.grow E1
  replace R0 := H.ext
  refine LW.pure rfl rfl (RV.not rfl) ?_
  refine LW.pure rfl rfl (RV.assign rfl) ?_
  refine LW.nil (hK2 _ _ ?_)
  refine CW.ret ?_
  obtain rfl := Option.some.inj F
  refine ⟨_, (ResOK.one rfl), ?_⟩
  refine ⟨(by first | rfl | simp), R0⟩
set_option maxRecDepth 20000 in
set_option maxHeartbeats 1000000 in
theorem level_CheckBest_2_ok {a0 : Int} {w : World} {res : Bool} (F : level_CheckBest_2 a0 = some res) : Calls Try.prog 83 #[.int .i64 a0] w (Rt w (.bool res)) := by
  refine calls_of_cw (args := [.int .i64 a0]) Try.func83 rfl rfl rfl rfl ?_
  have H := Hp.start w
  have R0 := H.ext
  unfold level_CheckBest_2 at F
  refine CW.seq fun K1 hK1 => ?_
  refine CW.region ?_
  refine LW.pure rfl rfl (RV.assign rfl) ?_
  refine LW.nil (hK1 _ _ ?_)
  refine CW.seq fun K2 hK2 => ?_
  refine CW.region ?_
  refine LW.pure rfl rfl (RV.move rfl) ?_
  refine LW.pure rfl rfl (RV.nei rfl rfl) ?_
  refine LW.pure rfl rfl (RV.assign rfl) ?_
  refine LW.nil (hK2 _ _ ?_)
  refine CW.ret ?_
  obtain rfl := Option.some.inj F
  refine ⟨_, (ResOK.one rfl), ?_⟩
  refine ⟨(by first | rfl | simp), R0⟩
set_option maxRecDepth 20000 in
set_option maxHeartbeats 1000000 in
theorem level_CheckBest_ok {a0 : Survey} {a1 : Table} {A_a0_readings : Option Addr} {c_a0_readings : Nat} {A_a1_num : Option Addr} {c_a1_num : Nat} {w : World} {res : Int} (h_a0_readings : Sl w A_a0_readings c_a0_readings 4 (a0.readings.map encReading)) (h_a1_num : Sl w A_a1_num c_a1_num 1 (a1.num.map encN)) (F : level_CheckBest a0 a1 = some res) : Calls Try.prog 41 #[.agg #[.int .i64 a0.points, .slice A_a0_readings a0.readings.length c_a0_readings], .agg #[.int .i64 a1.den, .slice A_a1_num a1.num.length c_a1_num]] w (Rt w (.int .i64 res)) := by
  refine calls_of_cw (args := [.agg #[.int .i64 a0.points, .slice A_a0_readings a0.readings.length c_a0_readings], .agg #[.int .i64 a1.den, .slice A_a1_num a1.num.length c_a1_num]]) Try.func41 rfl rfl rfl rfl ?_
  have H := Hp.start w
  have R0 := H.ext
  unfold level_CheckBest at F
  refine CW.seq fun K1 hK1 => ?_
  refine CW.region ?_
  refine LW.go rfl rfl (OW.box rfl fun b1 w1 N1 => ?_)
  replace H := H.new N1 N1.blk
  replace R0 := H.ext
  refine LW.go rfl rfl (OW.box rfl fun b2 w2 N2 => ?_)
  replace H := H.new N2 N2.blk
  replace R0 := H.ext
  refine LW.pure rfl rfl (RV.assign rfl) ?_
  refine LW.nil (hK1 _ _ ?_)
  refine CW.seq fun K2 hK2 => ?_
  refine CW.seq fun K3 hK3 => ?_
  obtain ⟨r3, hr3, F⟩ := bnd_some F
  refine CW.region ?_
  refine LW.pure rfl rfl (RV.loadA [.int .i64 a0.points, .slice A_a0_readings a0.readings.length c_a0_readings] Tk24 rfl (H.blk 1 rfl).cells rfl rfl) ?_
  refine LW.go rfl rfl (OW.call Tc25 rfl (level_Validate_ok (a0 := a0) (h_a0_readings.ext R0) hr3) ?_)
  rintro _ w3 ⟨rfl, E1⟩
  refine ⟨_, rfl, ?_⟩
  replace H := H.grow E1
  replace R0 := H.ext
  refine LW.pure rfl rfl (RV.assign rfl) ?_
  refine LW.nil (hK3 _ _ ?_)
  refine CW.seq fun K4 hK4 => ?_
  refine CW.region ?_
  refine LW.pure rfl rfl (RV.move rfl) ?_
  refine LW.pure rfl rfl (RV.nei rfl rfl) ?_
  refine LW.nil (hK4 _ _ ?_)
  by_cases hp1 : r3 = 0
  ·
    replace F := ite_y hp1 F
    have hq1 := dec_t hp1
    refine CW.condF rfl (not_f hq1) ?_
    refine CW.skip (hK2 _ _ ?_)
    refine CW.seq fun K5 hK5 => ?_
    refine CW.seqJ (fun ρ wl1 => (∃ (t33_1 : Bool), level_CheckBest_k3 a0 a1 t33_1 = some res ∧ ρ = [(2, .pointer (some (⟨b1, 0, none⟩))), (3, .pointer (some (⟨b2, 0, none⟩))), (4, .int .i64 0), (33, .bool t33_1)] ∧ Hp w wl1 [.blk b1 24 [.int .i64 a0.points, .slice A_a0_readings a0.readings.length c_a0_readings], .blk b2 59 [.int .i64 a1.den, .slice A_a1_num a1.num.length c_a1_num]])) ?_ ?_
    ·
      rintro _ wl1 ⟨t33_1, F, rfl, H⟩
      have R0 := H.ext
      unfold level_CheckBest_k3 at F
      by_cases hp2 : t33_1 = true
      ·
        replace F := ite_y hp2 F
        have hq2 : t33_1 = true := hp2
        refine CW.condT rfl hq2 ?_
        refine CW.seq fun K6 hK6 => ?_
        refine CW.region ?_
        refine LW.pure rfl rfl (RV.assign rfl) ?_
        refine LW.nil (hK6 _ _ ?_)
        refine CW.ret ?_
        obtain rfl := Option.some.inj F
        refine ⟨_, (ResOK.one rfl), ?_⟩
        refine ⟨(by first | rfl | simp), R0⟩
      ·
        replace F := ite_n hp2 F
        have hq2 : t33_1 = false := raw_f hp2
        refine CW.condF rfl hq2 ?_
        refine CW.skip (hK5 _ _ ?_)
        refine CW.seq fun K7 hK7 => ?_
        obtain ⟨hg1, F⟩ := gd_some F
        refine CW.region ?_
        refine LW.pure rfl rfl (RV.fieldAddr Tf24_0 rfl) ?_
        refine LW.pure rfl rfl (RV.load1 Tk3 rfl ((H.blk 0 rfl).cells.off 0) rfl) ?_
        refine LW.go rfl rfl (OW.makeR (enc := encN) (0 : Int) Ts39 rfl rfl rfl rfl rfl hg1 (by decide) fun b3 w4 N3 => ?_)
        replace H := H.made' (k := 1) (t := 3) (enc := encN) (l := (List.replicate (Int.toNat a0.points) (0 : Int))) N3 N3.blk (fun _ => rfl) rfl (by first | decide | omega | (simp; done) | (simp; omega))
        replace R0 := H.ext
        refine LW.pure rfl rfl (RV.assign rfl) ?_
        refine LW.nil (hK7 _ _ ?_)
        refine CW.seqJ (fun ρ wl2 => (∃ (l1 : List Int), level_CheckBest_k2 a0 a1 l1 = some res ∧ ρ = [(2, .pointer (some (⟨b1, 0, none⟩))), (3, .pointer (some (⟨b2, 0, none⟩))), (4, .int .i64 0), (6, .slice (some ⟨b3, 0, none⟩) l1.length (((List.replicate (Int.toNat a0.points) (0 : Int))).length))] ∧ Hp w wl2 [.own (some ⟨b3, 0, none⟩) (((List.replicate (Int.toNat a0.points) (0 : Int))).length) 3 1 (List.map encN l1), .blk b1 24 [.int .i64 a0.points, .slice A_a0_readings a0.readings.length c_a0_readings], .blk b2 59 [.int .i64 a1.den, .slice A_a1_num a1.num.length c_a1_num]])) ?_ ?_
        ·
          rintro _ wl2 ⟨l1, F, rfl, H⟩
          have R0 := H.ext
          unfold level_CheckBest_k2 at F
          refine CW.seqJ (fun ρ wl3 => (level_CheckBest_k1 l1 = some res ∧ ρ = [(4, .int .i64 0), (6, .slice (some ⟨b3, 0, none⟩) l1.length (((List.replicate (Int.toNat a0.points) (0 : Int))).length))] ∧ Hp w wl3 [.own (some ⟨b3, 0, none⟩) (((List.replicate (Int.toNat a0.points) (0 : Int))).length) 3 1 (List.map encN l1)])) ?_ ?_
          ·
            rintro _ wl3 ⟨F, rfl, H⟩
            have R0 := H.ext
            unfold level_CheckBest_k1 at F
            refine CW.seq fun K8 hK8 => ?_
            refine CW.seq fun K9 hK9 => ?_
            obtain ⟨r1, hr1, F⟩ := bnd_some F
            refine CW.region ?_
            refine LW.pure rfl rfl (RV.move rfl) ?_
            refine LW.go rfl rfl (OW.call Tc81 rfl (slices_ContainsFunc_int_ok (a0 := l1) (a1 := level_CheckBest_2) (H.own 0 rfl).sl (fun x11 r hF w5 hE => CallsV.of Tc83 (level_CheckBest_2_ok (a0 := x11) hF)) hr1) ?_)
            rintro _ w6 ⟨rfl, E2⟩
            refine ⟨_, rfl, ?_⟩
            replace H := H.grow E2
            replace R0 := H.ext
            refine LW.nil (hK9 _ _ ?_)
            by_cases hp3 : r1 = true
            ·
              replace F := ite_y hp3 F
              have hq3 : r1 = true := hp3
              refine CW.condT rfl hq3 ?_
              refine CW.seq fun K10 hK10 => ?_
              refine CW.region ?_
              refine LW.pure rfl rfl (RV.assign rfl) ?_
              refine LW.nil (hK10 _ _ ?_)
              refine CW.ret ?_
              obtain rfl := Option.some.inj F
              refine ⟨_, (ResOK.one rfl), ?_⟩
              refine ⟨(by first | rfl | simp), R0⟩
            ·
              replace F := ite_n hp3 F
              have hq3 : r1 = false := raw_f hp3
              refine CW.condF rfl hq3 ?_
              refine CW.skip (hK8 _ _ ?_)
              refine CW.seq fun K11 hK11 => ?_
              refine CW.region ?_
              refine LW.pure rfl rfl (RV.assign rfl) ?_
              refine LW.nil (hK11 _ _ ?_)
              refine CW.ret ?_
              obtain rfl := Option.some.inj F
              refine ⟨_, (ResOK.one rfl), ?_⟩
              refine ⟨(by first | rfl | simp), R0⟩
          ·
            intro K12 hK12 jK141
            refine CW.seq fun K13 hK13 => ?_
            obtain ⟨r2, hr2, F⟩ := bnd_some F
            refine CW.region ?_
            refine LW.pure rfl rfl (RV.loadA [.int .i64 a0.points, .slice A_a0_readings a0.readings.length c_a0_readings] Tk24 rfl (H.blk 1 rfl).cells rfl rfl) ?_
            refine LW.go rfl rfl (OW.call Tc66 rfl (level_parts_ok (a0 := a0) (h_a0_readings.ext R0) hr2) ?_)
            rintro _ w7 ⟨A17_0, c17_0, hs17_0, rfl, E3⟩
            refine ⟨_, rfl, ?_⟩
            replace H : Hp w w7 [.tab A17_0 c17_0 39 hs17_0 3 1 (encM encN r2), .own (some ⟨b3, 0, none⟩) (((List.replicate (Int.toNat a0.points) (0 : Int))).length) 3 1 (List.map encN l1), .blk b1 24 [.int .i64 a0.points, .slice A_a0_readings a0.readings.length c_a0_readings], .blk b2 59 [.int .i64 a1.den, .slice A_a1_num a1.num.length c_a1_num]] := H.append E3
            replace R0 := H.ext
            refine LW.pure rfl rfl (RV.len Ts36 rfl) ?_
            refine LW.pure rfl rfl (RV.move rfl) ?_
            refine LW.nil (hK13 _ _ ?_)
            refine CW.block ?_
            replace H := H.pick (L' := [.own (some ⟨b3, 0, none⟩) (((List.replicate (Int.toNat a0.points) (0 : Int))).length) 3 1 (List.map encN l1), .tab A17_0 c17_0 39 hs17_0 3 1 (encM encN r2), .blk b2 59 [.int .i64 a1.den, .slice A_a1_num a1.num.length c_a1_num]]) [1, 0, 3] (by decide) rfl
            replace R0 := H.ext
            refine CW.loop (fun meas ρ wl4 => ∃ (t86_1 : Int), level_CheckBest_L1 a1 l1 r2 meas t86_1 = some res ∧ ρ = [(3, .pointer (some (⟨b2, 0, none⟩))), (4, .int .i64 0), (6, .slice (some ⟨b3, 0, none⟩) l1.length (((List.replicate (Int.toNat a0.points) (0 : Int))).length)), (84, .slice A17_0 r2.length c17_0), (85, .int .i64 ((r2.length : Int))), (86, .int .i64 t86_1)] ∧ Hp w wl4 [.own (some ⟨b3, 0, none⟩) (((List.replicate (Int.toNat a0.points) (0 : Int))).length) 3 1 (List.map encN l1), .tab A17_0 c17_0 39 hs17_0 3 1 (encM encN r2), .blk b2 59 [.int .i64 a1.den, .slice A_a1_num a1.num.length c_a1_num]]) FU ⟨_, ?_, ((0 : Int)), F, rfl, H⟩ ?_
            · exact ⟨rfl, rfl, (look_slice rfl (by first | rfl | (simp; done) | omega | (simp; omega))), (look_slice rfl (by first | rfl | (simp; done) | omega | (simp; omega))), rfl, rfl, trivial⟩
            rintro mk1 _ wl4 ⟨t86_1, F, rfl, H⟩
            have R0 := H.ext
            replace F := level_CheckBest_L1_s F
            obtain ⟨mk1, rfl, F⟩ := F
            generalize hrec1 : level_CheckBest_L1 a1 l1 r2 mk1 = rec1 at F
            unfold level_CheckBest_B1 at F
            refine CW.seq fun K14 hK14 => ?_
            refine CW.region ?_
            refine LW.pure rfl rfl (RV.lss rfl rfl) ?_
            refine LW.nil (hK14 _ _ ?_)
            refine CW.seq fun K15 hK15 => ?_
            by_cases hp4 : t86_1 < ((r2.length : Int))
            ·
              replace F := ite_y hp4 F
              have hq4 := dec_t hp4
              refine CW.condT rfl hq4 ?_
              refine CW.skip (hK15 _ _ ?_)
              refine CW.seq fun K16 hK16 => ?_
              refine CW.block ?_
              refine CW.seq fun K17 hK17 => ?_
              obtain ⟨x1, hbx1, hx1, F⟩ := ix_some F
              refine CW.region ?_
              obtain ⟨B1, e1, hh1⟩ := (H.tab 1 rfl).hd hx1
              refine LW.pure rfl rfl (RV.indexAddr Ts36 rfl rfl hbx1 ((H.tab 1 rfl).addr_ hx1)) ?_
              refine LW.pure rfl rfl (RV.load1 Tk39 rfl ((H.tab 1 rfl).cell hx1 hh1) rfl) ?_
              refine LW.pure rfl rfl (RV.assign rfl) ?_
              refine LW.nil (hK17 _ _ ?_)
              refine CW.seq fun K18 hK18 => ?_
              obtain ⟨x2, hbx2, hx2, F⟩ := ix_some F
              obtain ⟨x3, hbx3, hx3, F⟩ := ix_some F
              refine CW.draw [] (fun _ => True) (.cons 0 1 (.cons 1 1 (.cons 2 1 (.cons 3 1 (.cons 4 1 (.cons 5 1 (.cons 6 1 (.cons 7 1 .nil)))))))) mixed (by kernel_rfl) fun w8 E4 => ?_
              replace H := H.grow E4
              replace R0 := H.ext
              refine DW.fix rfl rfl rfl (fun _ EQ => RV.fieldAddr Tf59_1 rfl) ?_
              refine DW.fix rfl rfl rfl (fun _ EQ => RV.load1 Tk39 rfl (((H.grow EQ).blk 2 rfl).cells.off 1) rfl) ?_
              refine DW.fix rfl rfl rfl (fun _ EQ => RV.move rfl) ?_
              refine DW.fix rfl rfl rfl (fun _ EQ => RV.indexAddr Ts39 rfl rfl hbx2 (((H.tab 1 rfl).rowO hx1 hh1).sl.addr_ hx2)) ?_
              refine DW.fix rfl rfl rfl (fun _ EQ => RV.load1 Tk3 rfl ((((H.grow EQ).tab 1 rfl).rowO hx1 hh1).sl.at_ hx2) rfl) ?_
              refine DW.fix rfl rfl rfl (fun _ EQ => RV.indexAddr Ts39 rfl rfl hbx3 (h_a1_num.addr_ hx3)) ?_
              refine DW.fix rfl rfl rfl (fun _ EQ => RV.load1 Tk3 rfl ((h_a1_num.at_ hx3).ext (R0.trans EQ)) rfl) ?_
              refine DW.fix rfl rfl rfl (fun _ EQ => RV.nei rfl rfl) ?_
              refine DW.nil (hK18 _ _ ?_)
              by_cases hp5 : x3 = 0
              ·
                replace F := ite_y hp5 F
                have hq5 := dec_t hp5
                refine CW.condF rfl (not_f hq5) ?_
                refine CW.skip (hK16 _ _ ?_)
                obtain ⟨hg2, F⟩ := gd_some F
                refine CW.region ?_
                refine LW.pure rfl rfl (RV.add rfl rfl hg2) ?_
                refine LW.pure rfl rfl (RV.move rfl) ?_
                refine LW.nil ?_
                subst hrec1
                refine ⟨mk1, Nat.lt_succ_self _, _, ?_, (t86_1 + 1), F, rfl, H⟩
                exact ⟨rfl, rfl, (look_slice rfl (by first | rfl | (simp; done) | omega | (simp; omega))), (look_slice rfl (by first | rfl | (simp; done) | omega | (simp; omega))), rfl, rfl, trivial⟩
              ·
                replace F := ite_n hp5 F
                have hq5 := dec_f hp5
                refine CW.condT rfl (not_t hq5) ?_
                refine CW.seq fun K19 hK19 => ?_
                refine CW.region ?_
                refine LW.pure rfl rfl (RV.assign rfl) ?_
                refine LW.nil (hK19 _ _ ?_)
                refine CW.ret ?_
                obtain rfl := Option.some.inj F
                refine ⟨_, (ResOK.one rfl), ?_⟩
                refine ⟨(by first | rfl | simp), R0⟩
            ·
              replace F := ite_n hp4 F
              have hq4 := dec_f hp4
              refine CW.condF rfl hq4 ?_
              replace H := H.pick (L' := [.own (some ⟨b3, 0, none⟩) (((List.replicate (Int.toNat a0.points) (0 : Int))).length) 3 1 (List.map encN l1)]) [0] (by decide) rfl
              replace R0 := H.ext
              refine CW.exit (jK141 _ _ ⟨_, ?_, ⟨F, rfl, H⟩⟩)
              exact ⟨rfl, (look_slice rfl (by first | rfl | (simp; done) | omega | (simp; omega))), trivial⟩
        ·
          intro K20 hK20 jK161
          refine CW.seq fun K21 hK21 => ?_
          refine CW.region ?_
          refine LW.pure rfl rfl (RV.fieldAddr Tf24_1 rfl) ?_
          refine LW.pure rfl rfl (RV.load1 Tk22 rfl ((H.blk 1 rfl).cells.off 1) rfl) ?_
          refine LW.pure rfl rfl (RV.len Ts22 rfl) ?_
          refine LW.pure rfl rfl (RV.move rfl) ?_
          refine LW.nil (hK21 _ _ ?_)
          refine CW.block ?_
          refine CW.loop (fun meas ρ wl5 => ∃ (t40_1 : Int) (l2 : List Int), level_CheckBest_L2 a0 a1 meas t40_1 l2 = some res ∧ ρ = [(2, .pointer (some (⟨b1, 0, none⟩))), (3, .pointer (some (⟨b2, 0, none⟩))), (4, .int .i64 0), (6, .slice (some ⟨b3, 0, none⟩) l2.length (((List.replicate (Int.toNat a0.points) (0 : Int))).length)), (38, .slice A_a0_readings a0.readings.length c_a0_readings), (39, .int .i64 ((a0.readings.length : Int))), (40, .int .i64 t40_1)] ∧ Hp w wl5 [.own (some ⟨b3, 0, none⟩) (((List.replicate (Int.toNat a0.points) (0 : Int))).length) 3 1 (List.map encN l2), .blk b1 24 [.int .i64 a0.points, .slice A_a0_readings a0.readings.length c_a0_readings], .blk b2 59 [.int .i64 a1.den, .slice A_a1_num a1.num.length c_a1_num]]) FU ⟨_, ?_, ((0 : Int)), ((List.replicate (Int.toNat a0.points) (0 : Int))), F, rfl, H⟩ ?_
          · exact ⟨rfl, rfl, rfl, (look_slice rfl (by first | rfl | (simp; done) | omega | (simp; omega))), rfl, rfl, rfl, trivial⟩
          rintro mk2 _ wl5 ⟨t40_1, l2, F, rfl, H⟩
          have R0 := H.ext
          replace F := level_CheckBest_L2_s F
          obtain ⟨mk2, rfl, F⟩ := F
          generalize hrec2 : level_CheckBest_L2 a0 a1 mk2 = rec2 at F
          unfold level_CheckBest_B2 at F
          refine CW.seq fun K22 hK22 => ?_
          refine CW.region ?_
          refine LW.pure rfl rfl (RV.lss rfl rfl) ?_
          refine LW.nil (hK22 _ _ ?_)
          refine CW.seq fun K23 hK23 => ?_
          by_cases hp6 : t40_1 < ((a0.readings.length : Int))
          ·
            replace F := ite_y hp6 F
            have hq6 := dec_t hp6
            refine CW.condT rfl hq6 ?_
            refine CW.skip (hK23 _ _ ?_)
            refine CW.seq fun K24 hK24 => ?_
            refine CW.block ?_
            refine CW.seq fun K25 hK25 => ?_
            obtain ⟨x4, hbx4, hx4, F⟩ := ix_some F
            refine CW.region ?_
            refine LW.pure rfl rfl (RV.indexAddr Ts22 rfl rfl hbx4 (h_a0_readings.addr_ hx4)) ?_
            refine LW.pure rfl rfl (RV.loadA [.int .i64 x4.from_, .int .i64 x4.to_, .int .i64 x4.rise, .int .i64 x4.weight] Tk46 rfl ((h_a0_readings.at_ hx4).ext R0) rfl rfl) ?_
            refine LW.go rfl rfl (OW.alloc Tz46 fun b4 w9 N4 => ?_)
            replace H := H.new N4 N4.blk
            replace R0 := H.ext
            refine LW.go rfl rfl (OW.store Tk46 rfl rfl (H.blk 0 rfl) (off := 0) (vs := [.int .i64 x4.from_, .int .i64 x4.to_, .int .i64 x4.rise, .int .i64 x4.weight]) rfl rfl rfl rfl rfl fun w10 S1 => ?_)
            replace H : Hp w w10 [.blk b4 46 [.int .i64 x4.from_, .int .i64 x4.to_, .int .i64 x4.rise, .int .i64 x4.weight], .own (some ⟨b3, 0, none⟩) (((List.replicate (Int.toNat a0.points) (0 : Int))).length) 3 1 (List.map encN l2), .blk b1 24 [.int .i64 a0.points, .slice A_a0_readings a0.readings.length c_a0_readings], .blk b2 59 [.int .i64 a1.den, .slice A_a1_num a1.num.length c_a1_num]] := H.stored 0 rfl S1
            replace R0 := H.ext
            refine LW.nil (hK25 _ _ ?_)
            refine CW.seq fun K26 hK26 => ?_
            obtain ⟨hg3, F⟩ := gd_some F
            obtain ⟨x5, hbx5, hx5, F⟩ := ix_some F
            obtain ⟨hg4, F⟩ := gd_some F
            obtain ⟨x6, hbx6, hx6, F⟩ := ix_some F
            obtain ⟨hg5, F⟩ := gd_some F
            obtain ⟨hg6, F⟩ := gd_some F
            refine CW.draw [] (fun _ => True) (.cons 0 1 (.cons 1 1 (.cons 2 1 (.cons 3 1 (.cons 4 1 (.cons 5 1 (.cons 6 1 (.cons 7 1 (.cons 8 1 (.cons 9 1 (.cons 10 1 (.cons 11 1 (.cons 12 1 (.cons 13 1 (.cons 14 1 (.cons 15 1 (.cons 16 1 (.cons 17 1 (.cons 18 1 (.cons 19 1 (.cons 20 1 (.cons 21 1 (.cons 22 1 .nil))))))))))))))))))))))) mixed (by kernel_rfl) fun w11 E5 => ?_
            replace H := H.grow E5
            replace R0 := H.ext
            refine DW.fix rfl rfl rfl (fun _ EQ => RV.fieldAddr Tf46_3 rfl) ?_
            refine DW.fix rfl rfl rfl (fun _ EQ => RV.load1 Tk3 rfl (((H.grow EQ).blk 0 rfl).cells.off 3) rfl) ?_
            refine DW.fix rfl rfl rfl (fun _ EQ => RV.fieldAddr Tf46_2 rfl) ?_
            refine DW.fix rfl rfl rfl (fun _ EQ => RV.load1 Tk3 rfl (((H.grow EQ).blk 0 rfl).cells.off 2) rfl) ?_
            refine DW.fix rfl rfl rfl (fun _ EQ => RV.fieldAddr Tf59_0 rfl) ?_
            refine DW.fix rfl rfl rfl (fun _ EQ => RV.load1 Tk3 rfl (((H.grow EQ).blk 3 rfl).cells.off 0) rfl) ?_
            refine DW.fix rfl rfl rfl (fun _ EQ => RV.mul rfl rfl hg3) ?_
            refine DW.fix rfl rfl rfl (fun _ EQ => RV.fieldAddr Tf59_1 rfl) ?_
            refine DW.fix rfl rfl rfl (fun _ EQ => RV.load1 Tk39 rfl (((H.grow EQ).blk 3 rfl).cells.off 1) rfl) ?_
            refine DW.fix rfl rfl rfl (fun _ EQ => RV.fieldAddr Tf46_1 rfl) ?_
            refine DW.fix rfl rfl rfl (fun _ EQ => RV.load1 Tk3 rfl (((H.grow EQ).blk 0 rfl).cells.off 1) rfl) ?_
            refine DW.fix rfl rfl rfl (fun _ EQ => RV.indexAddr Ts39 rfl rfl hbx5 (h_a1_num.addr_ hx5)) ?_
            refine DW.fix rfl rfl rfl (fun _ EQ => RV.load1 Tk3 rfl ((h_a1_num.at_ hx5).ext (R0.trans EQ)) rfl) ?_
            refine DW.fix rfl rfl rfl (fun _ EQ => RV.sub rfl rfl hg4) ?_
            refine DW.fix rfl rfl rfl (fun _ EQ => RV.fieldAddr Tf59_1 rfl) ?_
            refine DW.fix rfl rfl rfl (fun _ EQ => RV.load1 Tk39 rfl (((H.grow EQ).blk 3 rfl).cells.off 1) rfl) ?_
            refine DW.fix rfl rfl rfl (fun _ EQ => RV.fieldAddr Tf46_0 rfl) ?_
            refine DW.fix rfl rfl rfl (fun _ EQ => RV.load1 Tk3 rfl (((H.grow EQ).blk 0 rfl).cells.off 0) rfl) ?_
            refine DW.fix rfl rfl rfl (fun _ EQ => RV.indexAddr Ts39 rfl rfl hbx6 (h_a1_num.addr_ hx6)) ?_
            refine DW.fix rfl rfl rfl (fun _ EQ => RV.load1 Tk3 rfl ((h_a1_num.at_ hx6).ext (R0.trans EQ)) rfl) ?_
            refine DW.fix rfl rfl rfl (fun _ EQ => RV.add rfl rfl hg5) ?_
            refine DW.fix rfl rfl rfl (fun _ EQ => RV.mul rfl rfl hg6) ?_
            refine DW.fix rfl rfl rfl (fun _ EQ => RV.assign rfl) ?_
            refine DW.nil (hK26 _ _ ?_)
            refine CW.seq fun K27 hK27 => ?_
            obtain ⟨x7, hbx7, hx7, F⟩ := ix_some F
            obtain ⟨hg7, F⟩ := gd_some F
            obtain ⟨x8, hbx8, hx8, F⟩ := ix_some F
            refine CW.region ?_
            refine LW.pure rfl rfl (RV.move rfl) ?_
            refine LW.pure rfl rfl (RV.fieldAddr Tf46_1 rfl) ?_
            refine LW.pure rfl rfl (RV.load1 Tk3 rfl ((H.blk 0 rfl).cells.off 1) rfl) ?_
            refine LW.pure rfl rfl (RV.indexAddr Ts39 rfl rfl hbx7 ⟨_, rfl⟩) ?_
            refine LW.pure rfl rfl (RV.load1 Tk3 rfl ((H.own 1 rfl).sl.at_ hx7) rfl) ?_
            refine LW.pure rfl rfl (RV.move rfl) ?_
            refine LW.pure rfl rfl (RV.add rfl rfl hg7) ?_
            refine LW.pure rfl rfl (RV.indexAddr Ts39 rfl rfl hbx8 ⟨_, rfl⟩) ?_
            refine LW.go rfl rfl (OW.storeO (enc := encN) (vs := [.int .i64 (x7 + (x4.weight * (((x4.rise * a1.den) - x5) + x6)))]) 0 (x7 + (x4.weight * (((x4.rise * a1.den) - x5) + x6))) Tk3 rfl rfl (H.own 1 rfl) (fun _ => rfl) rfl hx8 rfl rfl (by decide) rfl rfl fun w12 M1 O1 => ?_)
            replace H : Hp w w12 [.blk b4 46 [.int .i64 x4.from_, .int .i64 x4.to_, .int .i64 x4.rise, .int .i64 x4.weight], .own (some ⟨b3, 0, none⟩) (((List.replicate (Int.toNat a0.points) (0 : Int))).length) 3 1 (List.map encN ((l2.set (Int.toNat x4.to_) (x7 + (x4.weight * (((x4.rise * a1.den) - x5) + x6)))))), .blk b1 24 [.int .i64 a0.points, .slice A_a0_readings a0.readings.length c_a0_readings], .blk b2 59 [.int .i64 a1.den, .slice A_a1_num a1.num.length c_a1_num]] := H.mod 1 rfl M1 O1 (.inl rfl)
            replace R0 := H.ext
            refine LW.nil (hK27 _ _ ?_)
            obtain ⟨x9, hbx9, hx9, F⟩ := ix_some F
            obtain ⟨hg8, F⟩ := gd_some F
            obtain ⟨x10, hbx10, hx10, F⟩ := ix_some F
            refine CW.region ?_
            refine LW.pure rfl rfl (RV.move rfl) ?_
            refine LW.pure rfl rfl (RV.fieldAddr Tf46_0 rfl) ?_
            refine LW.pure rfl rfl (RV.load1 Tk3 rfl ((H.blk 0 rfl).cells.off 0) rfl) ?_
            refine LW.pure rfl rfl (RV.indexAddr Ts39 rfl rfl (by first | exact hbx9 | (simp at hbx9 ⊢; omega)) ⟨_, rfl⟩) ?_
            refine LW.pure rfl rfl (RV.load1 Tk3 rfl ((H.own 1 rfl).sl.at_ hx9) rfl) ?_
            refine LW.pure rfl rfl (RV.move rfl) ?_
            refine LW.pure rfl rfl (RV.sub rfl rfl hg8) ?_
            refine LW.pure rfl rfl (RV.indexAddr Ts39 rfl rfl (by first | exact hbx10 | (simp at hbx10 ⊢; omega)) ⟨_, rfl⟩) ?_
            refine LW.go rfl rfl (OW.storeO (enc := encN) (vs := [.int .i64 (x9 - (x4.weight * (((x4.rise * a1.den) - x5) + x6)))]) 0 (x9 - (x4.weight * (((x4.rise * a1.den) - x5) + x6))) Tk3 rfl rfl (H.own 1 rfl) (fun _ => rfl) rfl hx10 rfl rfl (by decide) rfl rfl fun w13 M2 O2 => ?_)
            replace H : Hp w w13 [.blk b4 46 [.int .i64 x4.from_, .int .i64 x4.to_, .int .i64 x4.rise, .int .i64 x4.weight], .own (some ⟨b3, 0, none⟩) (((List.replicate (Int.toNat a0.points) (0 : Int))).length) 3 1 (List.map encN ((((l2.set (Int.toNat x4.to_) (x7 + (x4.weight * (((x4.rise * a1.den) - x5) + x6))))).set (Int.toNat x4.from_) (x9 - (x4.weight * (((x4.rise * a1.den) - x5) + x6)))))), .blk b1 24 [.int .i64 a0.points, .slice A_a0_readings a0.readings.length c_a0_readings], .blk b2 59 [.int .i64 a1.den, .slice A_a1_num a1.num.length c_a1_num]] := H.mod 1 rfl M2 O2 (.inl rfl)
            replace R0 := H.ext
            refine LW.nil (hK24 _ _ ?_)
            obtain ⟨hg9, F⟩ := gd_some F
            refine CW.region ?_
            refine LW.pure rfl rfl (RV.add rfl rfl hg9) ?_
            refine LW.pure rfl rfl (RV.move rfl) ?_
            refine LW.nil ?_
            replace H := H.pick (L' := [.own (some ⟨b3, 0, none⟩) (((List.replicate (Int.toNat a0.points) (0 : Int))).length) 3 1 (List.map encN ((((l2.set (Int.toNat x4.to_) (x7 + (x4.weight * (((x4.rise * a1.den) - x5) + x6))))).set (Int.toNat x4.from_) (x9 - (x4.weight * (((x4.rise * a1.den) - x5) + x6)))))), .blk b1 24 [.int .i64 a0.points, .slice A_a0_readings a0.readings.length c_a0_readings], .blk b2 59 [.int .i64 a1.den, .slice A_a1_num a1.num.length c_a1_num]]) [1, 2, 3] (by decide) rfl
            replace R0 := H.ext
            subst hrec2
            refine ⟨mk2, Nat.lt_succ_self _, _, ?_, (t40_1 + 1), ((((l2.set (Int.toNat x4.to_) (x7 + (x4.weight * (((x4.rise * a1.den) - x5) + x6))))).set (Int.toNat x4.from_) (x9 - (x4.weight * (((x4.rise * a1.den) - x5) + x6))))), F, rfl, H⟩
            exact ⟨rfl, rfl, rfl, (look_slice rfl (by first | rfl | (simp; done) | omega | (simp; omega))), rfl, rfl, rfl, trivial⟩
          ·
            replace F := ite_n hp6 F
            have hq6 := dec_f hp6
            refine CW.condF rfl hq6 ?_
            refine CW.exit (jK161 _ _ ⟨_, ?_, ⟨l2, F, rfl, H⟩⟩)
            exact ⟨rfl, rfl, rfl, (look_slice rfl (by first | rfl | (simp; done) | omega | (simp; omega))), trivial⟩
    ·
      intro K28 hK28 jK181
      obtain ⟨r4, hr4, F⟩ := bnd_some F
      by_cases hp7 : r4 = true
      ·
        replace F := ite_y hp7 F
        have hq7 : r4 = true := hp7
        by_cases hp8 : ((a1.num.length : Int)) = a0.points
        ·
          replace F := ite_y hp8 F
          have hq8 := dec_t hp8
          obtain ⟨r5, hr5, F⟩ := bnd_some F
          refine CW.region ?_
          refine LW.pure rfl rfl (RV.fieldAddr Tf59_0 rfl) ?_
          refine LW.pure rfl rfl (RV.load1 Tk3 rfl ((H.blk 0 rfl).cells.off 0) rfl) ?_
          refine LW.go rfl rfl (OW.call Tc61 rfl (level_within_ok (a0 := a1.den) (a1 := (1 : Int)) (a2 := (1000000 : Int)) hr4) ?_)
          rintro _ w14 ⟨rfl, E6⟩
          refine ⟨_, rfl, ?_⟩
          replace H := H.grow E6
          replace R0 := H.ext
          refine LW.pure rfl rfl (RV.not rfl) ?_
          refine LW.pure rfl rfl (RV.move rfl) ?_
          refine LW.pureYB rfl rfl rfl rfl (not_f hq7) (RV.fieldAddr Tf59_1 rfl) ?_
          refine LW.pureYB rfl rfl rfl rfl (not_f hq7) (RV.load1 Tk39 rfl ((H.blk 0 rfl).cells.off 1) rfl) ?_
          refine LW.pureYB rfl rfl rfl rfl (not_f hq7) (RV.len Ts39 rfl) ?_
          refine LW.pureYB rfl rfl rfl rfl (not_f hq7) (RV.fieldAddr Tf24_0 rfl) ?_
          refine LW.pureYB rfl rfl rfl rfl (not_f hq7) (RV.load1 Tk3 rfl ((H.blk 1 rfl).cells.off 0) rfl) ?_
          refine LW.pureYB rfl rfl rfl rfl (not_f hq7) (RV.nei rfl rfl) ?_
          refine LW.pure rfl rfl (RV.pickFB rfl (not_f hq7) rfl) ?_
          refine LW.pure rfl rfl (RV.move rfl) ?_
          refine LW.pureYB rfl rfl rfl rfl (not_f hq8) (RV.fieldAddr Tf59_1 rfl) ?_
          refine LW.pureYB rfl rfl rfl rfl (not_f hq8) (RV.load1 Tk39 rfl ((H.blk 0 rfl).cells.off 1) rfl) ?_
          refine LW.yesB rfl rfl rfl rfl (not_f hq8) (OW.call Tc81 rfl (slices_ContainsFunc_int_ok (a0 := a1.num) (a1 := level_CheckBest_1) (h_a1_num.ext R0) (fun x11 r hF w5 hE => CallsV.of Tc82 (level_CheckBest_1_ok (a0 := x11) hF)) hr5) ?_)
          rintro _ w15 ⟨rfl, E7⟩
          refine ⟨_, rfl, ?_⟩
          replace H := H.grow E7
          replace R0 := H.ext
          refine LW.pure rfl rfl (RV.pickFB rfl (not_f hq8) rfl) ?_
          replace H := H.pick (L' := [.blk b1 24 [.int .i64 a0.points, .slice A_a0_readings a0.readings.length c_a0_readings], .blk b2 59 [.int .i64 a1.den, .slice A_a1_num a1.num.length c_a1_num]]) [1, 0] (by decide) rfl
          replace R0 := H.ext
          refine LW.nil (jK181 _ _ ⟨_, ?_, ⟨r5, F, rfl, H⟩⟩)
          exact ⟨rfl, rfl, rfl, rfl, trivial⟩
        ·
          replace F := ite_n hp8 F
          have hq8 := dec_f hp8
          refine CW.region ?_
          refine LW.pure rfl rfl (RV.fieldAddr Tf59_0 rfl) ?_
          refine LW.pure rfl rfl (RV.load1 Tk3 rfl ((H.blk 0 rfl).cells.off 0) rfl) ?_
          refine LW.go rfl rfl (OW.call Tc61 rfl (level_within_ok (a0 := a1.den) (a1 := (1 : Int)) (a2 := (1000000 : Int)) hr4) ?_)
          rintro _ w16 ⟨rfl, E8⟩
          refine ⟨_, rfl, ?_⟩
          replace H := H.grow E8
          replace R0 := H.ext
          refine LW.pure rfl rfl (RV.not rfl) ?_
          refine LW.pure rfl rfl (RV.move rfl) ?_
          refine LW.pureYB rfl rfl rfl rfl (not_f hq7) (RV.fieldAddr Tf59_1 rfl) ?_
          refine LW.pureYB rfl rfl rfl rfl (not_f hq7) (RV.load1 Tk39 rfl ((H.blk 0 rfl).cells.off 1) rfl) ?_
          refine LW.pureYB rfl rfl rfl rfl (not_f hq7) (RV.len Ts39 rfl) ?_
          refine LW.pureYB rfl rfl rfl rfl (not_f hq7) (RV.fieldAddr Tf24_0 rfl) ?_
          refine LW.pureYB rfl rfl rfl rfl (not_f hq7) (RV.load1 Tk3 rfl ((H.blk 1 rfl).cells.off 0) rfl) ?_
          refine LW.pureYB rfl rfl rfl rfl (not_f hq7) (RV.nei rfl rfl) ?_
          refine LW.pure rfl rfl (RV.pickFB rfl (not_f hq7) rfl) ?_
          refine LW.pure rfl rfl (RV.move rfl) ?_
          refine LW.noB rfl rfl rfl rfl (ne_beq (v := true) (not_t hq8) rfl) ?_
          refine LW.noB rfl rfl rfl rfl (ne_beq (v := true) (not_t hq8) rfl) ?_
          refine LW.noB rfl rfl rfl rfl (ne_beq (v := true) (not_t hq8) rfl) ?_
          refine LW.pure rfl rfl (RV.pickTB rfl (not_t hq8) rfl) ?_
          replace H := H.pick (L' := [.blk b1 24 [.int .i64 a0.points, .slice A_a0_readings a0.readings.length c_a0_readings], .blk b2 59 [.int .i64 a1.den, .slice A_a1_num a1.num.length c_a1_num]]) [1, 0] (by decide) rfl
          replace R0 := H.ext
          refine LW.nil (jK181 _ _ ⟨_, ?_, ⟨true, F, rfl, H⟩⟩)
          exact ⟨rfl, rfl, rfl, rfl, trivial⟩
      ·
        replace F := ite_n hp7 F
        have hq7 : r4 = false := raw_f hp7
        refine CW.region ?_
        refine LW.pure rfl rfl (RV.fieldAddr Tf59_0 rfl) ?_
        refine LW.pure rfl rfl (RV.load1 Tk3 rfl ((H.blk 0 rfl).cells.off 0) rfl) ?_
        refine LW.go rfl rfl (OW.call Tc61 rfl (level_within_ok (a0 := a1.den) (a1 := (1 : Int)) (a2 := (1000000 : Int)) hr4) ?_)
        rintro _ w17 ⟨rfl, E9⟩
        refine ⟨_, rfl, ?_⟩
        replace H := H.grow E9
        replace R0 := H.ext
        refine LW.pure rfl rfl (RV.not rfl) ?_
        refine LW.pure rfl rfl (RV.move rfl) ?_
        refine LW.noB rfl rfl rfl rfl (ne_beq (v := true) (not_t hq7) rfl) ?_
        refine LW.noB rfl rfl rfl rfl (ne_beq (v := true) (not_t hq7) rfl) ?_
        refine LW.noB rfl rfl rfl rfl (ne_beq (v := true) (not_t hq7) rfl) ?_
        refine LW.noB rfl rfl rfl rfl (ne_beq (v := true) (not_t hq7) rfl) ?_
        refine LW.noB rfl rfl rfl rfl (ne_beq (v := true) (not_t hq7) rfl) ?_
        refine LW.noB rfl rfl rfl rfl (ne_beq (v := true) (not_t hq7) rfl) ?_
        refine LW.pure rfl rfl (RV.pickTB rfl (not_t hq7) rfl) ?_
        refine LW.pure rfl rfl (RV.move rfl) ?_
        refine LW.noB rfl rfl rfl rfl (ne_beq (v := true) rfl rfl) ?_
        refine LW.noB rfl rfl rfl rfl (ne_beq (v := true) rfl rfl) ?_
        refine LW.noB rfl rfl rfl rfl (ne_beq (v := true) rfl rfl) ?_
        refine LW.pure rfl rfl (RV.pickTB rfl rfl rfl) ?_
        replace H := H.pick (L' := [.blk b1 24 [.int .i64 a0.points, .slice A_a0_readings a0.readings.length c_a0_readings], .blk b2 59 [.int .i64 a1.den, .slice A_a1_num a1.num.length c_a1_num]]) [1, 0] (by decide) rfl
        replace R0 := H.ext
        refine LW.nil (jK181 _ _ ⟨_, ?_, ⟨true, F, rfl, H⟩⟩)
        exact ⟨rfl, rfl, rfl, rfl, trivial⟩
  ·
    replace F := ite_n hp1 F
    have hq1 := dec_f hp1
    refine CW.condT rfl (not_t hq1) ?_
    refine CW.seq fun K29 hK29 => ?_
    refine CW.region ?_
    refine LW.pure rfl rfl (RV.move rfl) ?_
    refine LW.pure rfl rfl (RV.assign rfl) ?_
    refine LW.nil (hK29 _ _ ?_)
    refine CW.ret ?_
    obtain rfl := Option.some.inj F
    refine ⟨_, (ResOK.one rfl), ?_⟩
    refine ⟨(by first | rfl | simp), R0⟩
set_option maxRecDepth 20000 in
set_option maxHeartbeats 1000000 in
theorem ref01_CheckBest_ok {a0 : Survey} {a1 : Table} {A_a0_readings : Option Addr} {c_a0_readings : Nat} {A_a1_num : Option Addr} {c_a1_num : Nat} {w : World} {res : Int} (h_a0_readings : Sl w A_a0_readings c_a0_readings 4 (a0.readings.map encReading)) (h_a1_num : Sl w A_a1_num c_a1_num 1 (a1.num.map encN)) (F : ref01_CheckBest a0 a1 = some res) : Calls Try.prog 42 #[.agg #[.int .i64 a0.points, .slice A_a0_readings a0.readings.length c_a0_readings], .agg #[.int .i64 a1.den, .slice A_a1_num a1.num.length c_a1_num]] w (Rt w (.int .i64 res)) := by
  refine calls_of_cw (args := [.agg #[.int .i64 a0.points, .slice A_a0_readings a0.readings.length c_a0_readings], .agg #[.int .i64 a1.den, .slice A_a1_num a1.num.length c_a1_num]]) Try.func42 rfl rfl rfl rfl ?_
  have H := Hp.start w
  have R0 := H.ext
  unfold ref01_CheckBest at F
  refine CW.seq fun K1 hK1 => ?_
  refine CW.region ?_
  refine LW.go rfl rfl (OW.box rfl fun b1 w1 N1 => ?_)
  replace H := H.new N1 N1.blk
  replace R0 := H.ext
  refine LW.go rfl rfl (OW.box rfl fun b2 w2 N2 => ?_)
  replace H := H.new N2 N2.blk
  replace R0 := H.ext
  refine LW.pure rfl rfl (RV.assign rfl) ?_
  refine LW.nil (hK1 _ _ ?_)
  refine CW.seq fun K2 hK2 => ?_
  refine CW.seq fun K3 hK3 => ?_
  obtain ⟨r4, hr4, F⟩ := bnd_some F
  refine CW.region ?_
  refine LW.pure rfl rfl (RV.loadA [.int .i64 a0.points, .slice A_a0_readings a0.readings.length c_a0_readings] Tk24 rfl (H.blk 1 rfl).cells rfl rfl) ?_
  refine LW.go rfl rfl (OW.call Tc26 rfl (ref01_Validate_ok (a0 := a0) (h_a0_readings.ext R0) hr4) ?_)
  rintro _ w3 ⟨rfl, E1⟩
  refine ⟨_, rfl, ?_⟩
  replace H := H.grow E1
  replace R0 := H.ext
  refine LW.pure rfl rfl (RV.assign rfl) ?_
  refine LW.nil (hK3 _ _ ?_)
  refine CW.seq fun K4 hK4 => ?_
  refine CW.region ?_
  refine LW.pure rfl rfl (RV.move rfl) ?_
  refine LW.pure rfl rfl (RV.nei rfl rfl) ?_
  refine LW.nil (hK4 _ _ ?_)
  by_cases hp1 : r4 = 0
  ·
    replace F := ite_y hp1 F
    have hq1 := dec_t hp1
    refine CW.condF rfl (not_f hq1) ?_
    refine CW.skip (hK2 _ _ ?_)
    refine CW.seq fun K5 hK5 => ?_
    refine CW.seqJ (fun ρ wl1 => (∃ (t26_1 : Bool), ref01_CheckBest_k3 a0 a1 t26_1 = some res ∧ ρ = [(2, .pointer (some (⟨b1, 0, none⟩))), (3, .pointer (some (⟨b2, 0, none⟩))), (4, .int .i64 0), (26, .bool t26_1)] ∧ Hp w wl1 [.blk b1 24 [.int .i64 a0.points, .slice A_a0_readings a0.readings.length c_a0_readings], .blk b2 59 [.int .i64 a1.den, .slice A_a1_num a1.num.length c_a1_num]])) ?_ ?_
    ·
      rintro _ wl1 ⟨t26_1, F, rfl, H⟩
      have R0 := H.ext
      unfold ref01_CheckBest_k3 at F
      by_cases hp2 : t26_1 = true
      ·
        replace F := ite_y hp2 F
        have hq2 : t26_1 = true := hp2
        refine CW.condT rfl hq2 ?_
        refine CW.seq fun K6 hK6 => ?_
        refine CW.region ?_
        refine LW.pure rfl rfl (RV.assign rfl) ?_
        refine LW.nil (hK6 _ _ ?_)
        refine CW.ret ?_
        obtain rfl := Option.some.inj F
        refine ⟨_, (ResOK.one rfl), ?_⟩
        refine ⟨(by first | rfl | simp), R0⟩
      ·
        replace F := ite_n hp2 F
        have hq2 : t26_1 = false := raw_f hp2
        refine CW.condF rfl hq2 ?_
        refine CW.skip (hK5 _ _ ?_)
        refine CW.seqJ (fun ρ wl2 => (ref01_CheckBest_k2 a0 a1 = some res ∧ ρ = [(2, .pointer (some (⟨b1, 0, none⟩))), (3, .pointer (some (⟨b2, 0, none⟩))), (4, .int .i64 0)] ∧ Hp w wl2 [.blk b1 24 [.int .i64 a0.points, .slice A_a0_readings a0.readings.length c_a0_readings], .blk b2 59 [.int .i64 a1.den, .slice A_a1_num a1.num.length c_a1_num]])) ?_ ?_
        ·
          rintro _ wl2 ⟨F, rfl, H⟩
          have R0 := H.ext
          unfold ref01_CheckBest_k2 at F
          refine CW.seq fun K7 hK7 => ?_
          obtain ⟨r1, hr1, F⟩ := bnd_some F
          refine CW.region ?_
          refine LW.pure rfl rfl (RV.loadA [.int .i64 a0.points, .slice A_a0_readings a0.readings.length c_a0_readings] Tk24 rfl (H.blk 0 rfl).cells rfl rfl) ?_
          refine LW.go rfl rfl (OW.call Tc35 rfl (ref01_Best_ok (a0 := a0) (h_a0_readings.ext R0) hr1) ?_)
          rintro _ w4 ⟨A24_0, c24_0, rfl, E2⟩
          refine ⟨_, rfl, ?_⟩
          replace H : Hp w w4 [.own A24_0 c24_0 28 2 (List.map encRat r1.1), .blk b1 24 [.int .i64 a0.points, .slice A_a0_readings a0.readings.length c_a0_readings], .blk b2 59 [.int .i64 a1.den, .slice A_a1_num a1.num.length c_a1_num]] := H.append E2
          replace R0 := H.ext
          refine LW.pure rfl rfl (RV.move rfl) ?_
          refine LW.pure rfl rfl (RV.extract rfl rfl) ?_
          refine LW.pure rfl rfl (RV.extract rfl rfl) ?_
          refine LW.pure rfl rfl (RV.assign rfl) ?_
          refine LW.pure rfl rfl (RV.assign rfl) ?_
          refine LW.nil (hK7 _ _ ?_)
          refine CW.seqJ (fun ρ wl3 => (ref01_CheckBest_k1 = some res ∧ ρ = [(4, .int .i64 0)] ∧ Hp w wl3 [])) ?_ ?_
          ·
            rintro _ wl3 ⟨F, rfl, H⟩
            have R0 := H.ext
            unfold ref01_CheckBest_k1 at F
            refine CW.seq fun K8 hK8 => ?_
            refine CW.region ?_
            refine LW.pure rfl rfl (RV.assign rfl) ?_
            refine LW.nil (hK8 _ _ ?_)
            refine CW.ret ?_
            obtain rfl := Option.some.inj F
            refine ⟨_, (ResOK.one rfl), ?_⟩
            refine ⟨(by first | rfl | simp), R0⟩
          ·
            intro K9 hK9 jK117
            refine CW.seq fun K10 hK10 => ?_
            refine CW.region ?_
            refine LW.pure rfl rfl (RV.assign rfl) ?_
            refine LW.nil (hK10 _ _ ?_)
            refine CW.block ?_
            replace H := H.pick (L' := [.own A24_0 c24_0 28 2 (List.map encRat r1.1), .blk b2 59 [.int .i64 a1.den, .slice A_a1_num a1.num.length c_a1_num]]) [0, 2] (by decide) rfl
            replace R0 := H.ext
            refine CW.loop (fun meas ρ wl4 => ∃ (t9_1 : Int), ref01_CheckBest_L1 a1 r1 meas t9_1 = some res ∧ ρ = [(3, .pointer (some (⟨b2, 0, none⟩))), (4, .int .i64 0), (7, .slice A24_0 r1.1.length c24_0), (9, .int .i64 t9_1)] ∧ Hp w wl4 [.own A24_0 c24_0 28 2 (List.map encRat r1.1), .blk b2 59 [.int .i64 a1.den, .slice A_a1_num a1.num.length c_a1_num]]) FU ⟨_, ?_, ((0 : Int)), F, rfl, H⟩ ?_
            · exact ⟨rfl, rfl, (look_slice rfl (by first | rfl | (simp; done) | omega | (simp; omega))), rfl, trivial⟩
            rintro mk1 _ wl4 ⟨t9_1, F, rfl, H⟩
            have R0 := H.ext
            replace F := ref01_CheckBest_L1_s F
            obtain ⟨mk1, rfl, F⟩ := F
            generalize hrec1 : ref01_CheckBest_L1 a1 r1 mk1 = rec1 at F
            unfold ref01_CheckBest_B1 at F
            refine CW.seq fun K11 hK11 => ?_
            refine CW.seq fun K12 hK12 => ?_
            refine CW.region ?_
            refine LW.pure rfl rfl (RV.move rfl) ?_
            refine LW.pure rfl rfl (RV.fieldAddr Tf59_1 rfl) ?_
            refine LW.pure rfl rfl (RV.load1 Tk39 rfl ((H.blk 1 rfl).cells.off 1) rfl) ?_
            refine LW.pure rfl rfl (RV.len Ts39 rfl) ?_
            refine LW.pure rfl rfl (RV.lss rfl rfl) ?_
            refine LW.nil (hK12 _ _ ?_)
            by_cases hp3 : t9_1 < ((a1.num.length : Int))
            ·
              replace F := ite_y hp3 F
              have hq3 := dec_t hp3
              refine CW.condT rfl hq3 ?_
              refine CW.skip (hK11 _ _ ?_)
              refine CW.seq fun K13 hK13 => ?_
              refine CW.block ?_
              refine CW.seq fun K14 hK14 => ?_
              obtain ⟨x1, hbx1, hx1, F⟩ := ix_some F
              obtain ⟨r2, hr2, F⟩ := bnd_some F
              obtain ⟨x2, hbx2, hx2, F⟩ := ix_some F
              refine CW.draw [] (fun _ => True) (.cons 0 1 (.cons 1 1 (.cons 2 1 (.cons 3 1 (.cons 4 1 (.cons 5 1 (.cons 6 1 (.cons 8 1 (.cons 9 1 (.cons 10 1 (.cons 11 1 (.cons 7 0 (.cons 12 1 .nil))))))))))))) mixed (by kernel_rfl) fun w5 E3 => ?_
              replace H := H.grow E3
              replace R0 := H.ext
              refine DW.fix rfl rfl rfl (fun _ EQ => RV.fieldAddr Tf59_1 rfl) ?_
              refine DW.fix rfl rfl rfl (fun _ EQ => RV.load1 Tk39 rfl (((H.grow EQ).blk 1 rfl).cells.off 1) rfl) ?_
              refine DW.fix rfl rfl rfl (fun _ EQ => RV.move rfl) ?_
              refine DW.fix rfl rfl rfl (fun _ EQ => RV.indexAddr Ts39 rfl rfl hbx1 (h_a1_num.addr_ hx1)) ?_
              refine DW.fix rfl rfl rfl (fun _ EQ => RV.load1 Tk3 rfl ((h_a1_num.at_ hx1).ext (R0.trans EQ)) rfl) ?_
              refine DW.fix rfl rfl rfl (fun _ EQ => RV.fieldAddr Tf59_0 rfl) ?_
              refine DW.fix rfl rfl rfl (fun _ EQ => RV.load1 Tk3 rfl (((H.grow EQ).blk 1 rfl).cells.off 0) rfl) ?_
              refine DW.fix rfl rfl rfl (fun _ EQ => RV.move rfl) ?_
              refine DW.fix rfl rfl rfl (fun _ EQ => RV.move rfl) ?_
              refine DW.fix rfl rfl rfl (fun _ EQ => RV.indexAddr Ts53 rfl rfl hbx2 ((H.own 0 rfl).sl.addr_ hx2)) ?_
              refine DW.fix rfl rfl rfl (fun _ EQ => RV.loadA [.int .i64 x2.num, .int .i64 x2.den] Tk28 rfl (((H.grow EQ).own 0 rfl).sl.at_ hx2) rfl rfl) ?_
              refine DW.sole rfl rfl rfl (OW.call Tc33 rfl (ref01_Ratio_ok (a0 := x1) (a1 := a1.den) hr2) ?_)
              rintro _ w6 ⟨rfl, E4⟩
              refine ⟨_, rfl, fun _ => E4, ModX.ext E4, ?_⟩
              replace H := H.grow E4
              replace R0 := H.ext
              refine DW.fix rfl rfl rfl (fun _ EQ => RV.neA Te28g (Te28 _ _ _ _ ) rfl rfl) ?_
              refine DW.nil (hK14 _ _ ?_)
              by_cases hp4 : ((r2.num == x2.num) && (r2.den == x2.den)) = true
              ·
                replace F := ite_y hp4 F
                have hq4 : ((r2.num == x2.num) && (r2.den == x2.den)) = true := hp4
                refine CW.condF rfl (not_f hq4) ?_
                refine CW.skip (hK13 _ _ ?_)
                obtain ⟨hg1, F⟩ := gd_some F
                refine CW.region ?_
                refine LW.pure rfl rfl (RV.move rfl) ?_
                refine LW.pure rfl rfl (RV.add rfl rfl hg1) ?_
                refine LW.pure rfl rfl (RV.assign rfl) ?_
                refine LW.nil ?_
                subst hrec1
                refine ⟨mk1, Nat.lt_succ_self _, _, ?_, (t9_1 + 1), F, rfl, H⟩
                exact ⟨rfl, rfl, (look_slice rfl (by first | rfl | (simp; done) | omega | (simp; omega))), rfl, trivial⟩
              ·
                replace F := ite_n hp4 F
                have hq4 : ((r2.num == x2.num) && (r2.den == x2.den)) = false := raw_f hp4
                refine CW.condT rfl (not_t hq4) ?_
                refine CW.seq fun K15 hK15 => ?_
                refine CW.region ?_
                refine LW.pure rfl rfl (RV.assign rfl) ?_
                refine LW.nil (hK15 _ _ ?_)
                refine CW.ret ?_
                obtain rfl := Option.some.inj F
                refine ⟨_, (ResOK.one rfl), ?_⟩
                refine ⟨(by first | rfl | simp), R0⟩
            ·
              replace F := ite_n hp3 F
              have hq3 := dec_f hp3
              refine CW.condF rfl hq3 ?_
              replace H := H.pick (L' := []) [] (by decide) rfl
              replace R0 := H.ext
              refine CW.exit (jK117 _ _ ⟨_, ?_, ⟨F, rfl, H⟩⟩)
              exact ⟨rfl, trivial⟩
        ·
          intro K16 hK16 jK134
          refine CW.seq fun K17 hK17 => ?_
          refine CW.region ?_
          refine LW.pure rfl rfl (RV.assign rfl) ?_
          refine LW.nil (hK17 _ _ ?_)
          refine CW.block ?_
          refine CW.loop (fun meas ρ wl5 => ∃ (t6_1 : Int), ref01_CheckBest_L2 a0 a1 meas t6_1 = some res ∧ ρ = [(2, .pointer (some (⟨b1, 0, none⟩))), (3, .pointer (some (⟨b2, 0, none⟩))), (4, .int .i64 0), (6, .int .i64 t6_1)] ∧ Hp w wl5 [.blk b1 24 [.int .i64 a0.points, .slice A_a0_readings a0.readings.length c_a0_readings], .blk b2 59 [.int .i64 a1.den, .slice A_a1_num a1.num.length c_a1_num]]) FU ⟨_, ?_, ((0 : Int)), F, rfl, H⟩ ?_
          · exact ⟨rfl, rfl, rfl, rfl, trivial⟩
          rintro mk2 _ wl5 ⟨t6_1, F, rfl, H⟩
          have R0 := H.ext
          replace F := ref01_CheckBest_L2_s F
          obtain ⟨mk2, rfl, F⟩ := F
          generalize hrec2 : ref01_CheckBest_L2 a0 a1 mk2 = rec2 at F
          unfold ref01_CheckBest_B2 at F
          refine CW.seq fun K18 hK18 => ?_
          refine CW.seq fun K19 hK19 => ?_
          refine CW.region ?_
          refine LW.pure rfl rfl (RV.move rfl) ?_
          refine LW.pure rfl rfl (RV.fieldAddr Tf59_1 rfl) ?_
          refine LW.pure rfl rfl (RV.load1 Tk39 rfl ((H.blk 1 rfl).cells.off 1) rfl) ?_
          refine LW.pure rfl rfl (RV.len Ts39 rfl) ?_
          refine LW.pure rfl rfl (RV.lss rfl rfl) ?_
          refine LW.nil (hK19 _ _ ?_)
          by_cases hp5 : t6_1 < ((a1.num.length : Int))
          ·
            replace F := ite_y hp5 F
            have hq5 := dec_t hp5
            refine CW.condT rfl hq5 ?_
            refine CW.skip (hK18 _ _ ?_)
            refine CW.seq fun K20 hK20 => ?_
            refine CW.block ?_
            refine CW.seq fun K21 hK21 => ?_
            obtain ⟨x3, hbx3, hx3, F⟩ := ix_some F
            obtain ⟨r3, hr3, F⟩ := bnd_some F
            refine CW.region ?_
            refine LW.pure rfl rfl (RV.fieldAddr Tf59_1 rfl) ?_
            refine LW.pure rfl rfl (RV.load1 Tk39 rfl ((H.blk 1 rfl).cells.off 1) rfl) ?_
            refine LW.pure rfl rfl (RV.move rfl) ?_
            refine LW.pure rfl rfl (RV.indexAddr Ts39 rfl rfl hbx3 (h_a1_num.addr_ hx3)) ?_
            refine LW.pure rfl rfl (RV.load1 Tk3 rfl ((h_a1_num.at_ hx3).ext R0) rfl) ?_
            refine LW.go rfl rfl (OW.call Tc69 rfl (ref01_within_ok (a0 := x3) (a1 := (-1000000000 : Int)) (a2 := (1000000000 : Int)) hr3) ?_)
            rintro _ w7 ⟨rfl, E5⟩
            refine ⟨_, rfl, ?_⟩
            replace H := H.grow E5
            replace R0 := H.ext
            refine LW.pure rfl rfl (RV.not rfl) ?_
            refine LW.nil (hK21 _ _ ?_)
            by_cases hp6 : r3 = true
            ·
              replace F := ite_y hp6 F
              have hq6 : r3 = true := hp6
              refine CW.condF rfl (not_f hq6) ?_
              refine CW.skip (hK20 _ _ ?_)
              obtain ⟨hg2, F⟩ := gd_some F
              refine CW.region ?_
              refine LW.pure rfl rfl (RV.move rfl) ?_
              refine LW.pure rfl rfl (RV.add rfl rfl hg2) ?_
              refine LW.pure rfl rfl (RV.assign rfl) ?_
              refine LW.nil ?_
              subst hrec2
              refine ⟨mk2, Nat.lt_succ_self _, _, ?_, (t6_1 + 1), F, rfl, H⟩
              exact ⟨rfl, rfl, rfl, rfl, trivial⟩
            ·
              replace F := ite_n hp6 F
              have hq6 : r3 = false := raw_f hp6
              refine CW.condT rfl (not_t hq6) ?_
              refine CW.seq fun K22 hK22 => ?_
              refine CW.region ?_
              refine LW.pure rfl rfl (RV.assign rfl) ?_
              refine LW.nil (hK22 _ _ ?_)
              refine CW.ret ?_
              obtain rfl := Option.some.inj F
              refine ⟨_, (ResOK.one rfl), ?_⟩
              refine ⟨(by first | rfl | simp), R0⟩
          ·
            replace F := ite_n hp5 F
            have hq5 := dec_f hp5
            refine CW.condF rfl hq5 ?_
            refine CW.exit (jK134 _ _ ⟨_, ?_, ⟨F, rfl, H⟩⟩)
            exact ⟨rfl, rfl, rfl, trivial⟩
    ·
      intro K23 hK23 jK151
      obtain ⟨r5, hr5, F⟩ := bnd_some F
      by_cases hp7 : r5 = true
      ·
        replace F := ite_y hp7 F
        have hq7 : r5 = true := hp7
        refine CW.region ?_
        refine LW.pure rfl rfl (RV.fieldAddr Tf59_0 rfl) ?_
        refine LW.pure rfl rfl (RV.load1 Tk3 rfl ((H.blk 0 rfl).cells.off 0) rfl) ?_
        refine LW.go rfl rfl (OW.call Tc69 rfl (ref01_within_ok (a0 := a1.den) (a1 := (1 : Int)) (a2 := (1000000 : Int)) hr5) ?_)
        rintro _ w8 ⟨rfl, E6⟩
        refine ⟨_, rfl, ?_⟩
        replace H := H.grow E6
        replace R0 := H.ext
        refine LW.pure rfl rfl (RV.not rfl) ?_
        refine LW.pure rfl rfl (RV.move rfl) ?_
        refine LW.pureYB rfl rfl rfl rfl (not_f hq7) (RV.fieldAddr Tf59_1 rfl) ?_
        refine LW.pureYB rfl rfl rfl rfl (not_f hq7) (RV.load1 Tk39 rfl ((H.blk 0 rfl).cells.off 1) rfl) ?_
        refine LW.pureYB rfl rfl rfl rfl (not_f hq7) (RV.len Ts39 rfl) ?_
        refine LW.pureYB rfl rfl rfl rfl (not_f hq7) (RV.fieldAddr Tf24_0 rfl) ?_
        refine LW.pureYB rfl rfl rfl rfl (not_f hq7) (RV.load1 Tk3 rfl ((H.blk 1 rfl).cells.off 0) rfl) ?_
        refine LW.pureYB rfl rfl rfl rfl (not_f hq7) (RV.nei rfl rfl) ?_
        refine LW.pure rfl rfl (RV.pickFB rfl (not_f hq7) rfl) ?_
        replace H := H.pick (L' := [.blk b1 24 [.int .i64 a0.points, .slice A_a0_readings a0.readings.length c_a0_readings], .blk b2 59 [.int .i64 a1.den, .slice A_a1_num a1.num.length c_a1_num]]) [1, 0] (by decide) rfl
        replace R0 := H.ext
        refine LW.nil (jK151 _ _ ⟨_, ?_, ⟨(!(decide (((a1.num.length : Int)) = a0.points))), F, rfl, H⟩⟩)
        exact ⟨rfl, rfl, rfl, rfl, trivial⟩
      ·
        replace F := ite_n hp7 F
        have hq7 : r5 = false := raw_f hp7
        refine CW.region ?_
        refine LW.pure rfl rfl (RV.fieldAddr Tf59_0 rfl) ?_
        refine LW.pure rfl rfl (RV.load1 Tk3 rfl ((H.blk 0 rfl).cells.off 0) rfl) ?_
        refine LW.go rfl rfl (OW.call Tc69 rfl (ref01_within_ok (a0 := a1.den) (a1 := (1 : Int)) (a2 := (1000000 : Int)) hr5) ?_)
        rintro _ w9 ⟨rfl, E7⟩
        refine ⟨_, rfl, ?_⟩
        replace H := H.grow E7
        replace R0 := H.ext
        refine LW.pure rfl rfl (RV.not rfl) ?_
        refine LW.pure rfl rfl (RV.move rfl) ?_
        refine LW.noB rfl rfl rfl rfl (ne_beq (v := true) (not_t hq7) rfl) ?_
        refine LW.noB rfl rfl rfl rfl (ne_beq (v := true) (not_t hq7) rfl) ?_
        refine LW.noB rfl rfl rfl rfl (ne_beq (v := true) (not_t hq7) rfl) ?_
        refine LW.noB rfl rfl rfl rfl (ne_beq (v := true) (not_t hq7) rfl) ?_
        refine LW.noB rfl rfl rfl rfl (ne_beq (v := true) (not_t hq7) rfl) ?_
        refine LW.noB rfl rfl rfl rfl (ne_beq (v := true) (not_t hq7) rfl) ?_
        refine LW.pure rfl rfl (RV.pickTB rfl (not_t hq7) rfl) ?_
        replace H := H.pick (L' := [.blk b1 24 [.int .i64 a0.points, .slice A_a0_readings a0.readings.length c_a0_readings], .blk b2 59 [.int .i64 a1.den, .slice A_a1_num a1.num.length c_a1_num]]) [1, 0] (by decide) rfl
        replace R0 := H.ext
        refine LW.nil (jK151 _ _ ⟨_, ?_, ⟨true, F, rfl, H⟩⟩)
        exact ⟨rfl, rfl, rfl, rfl, trivial⟩
  ·
    replace F := ite_n hp1 F
    have hq1 := dec_f hp1
    refine CW.condT rfl (not_t hq1) ?_
    refine CW.seq fun K24 hK24 => ?_
    refine CW.region ?_
    refine LW.pure rfl rfl (RV.move rfl) ?_
    refine LW.pure rfl rfl (RV.assign rfl) ?_
    refine LW.nil (hK24 _ _ ?_)
    refine CW.ret ?_
    obtain rfl := Option.some.inj F
    refine ⟨_, (ResOK.one rfl), ?_⟩
    refine ⟨(by first | rfl | simp), R0⟩
end Go.D1

set_option linter.unusedVariables false
set_option linter.unusedSimpArgs false
namespace Go.D1
open Go.Tb Go.Proofs Go.RowKit
theorem Tc41 : callable Try.prog 41 = true := by kernel_rfl
theorem Tc42 : callable Try.prog 42 = true := by kernel_rfl
theorem Tk59 : tyK Try.prog 59 = some (true, 2) := by kernel_rfl
set_option maxRecDepth 20000 in
set_option maxHeartbeats 1000000 in
theorem law01_LevelChecks_ok {a0 : Survey} {a1 : Table} {A_a0_readings : Option Addr} {c_a0_readings : Nat} {A_a1_num : Option Addr} {c_a1_num : Nat} {w : World} {res : Bool} (h_a0_readings : Sl w A_a0_readings c_a0_readings 4 (a0.readings.map encReading)) (h_a1_num : Sl w A_a1_num c_a1_num 1 (a1.num.map encN)) (F : law01_LevelChecks a0 a1 = some res) : Calls Try.prog 9 #[.agg #[.int .i64 a0.points, .slice A_a0_readings a0.readings.length c_a0_readings], .agg #[.int .i64 a1.den, .slice A_a1_num a1.num.length c_a1_num]] w (Rt w (.bool res)) := by
  refine calls_of_cw (args := [.agg #[.int .i64 a0.points, .slice A_a0_readings a0.readings.length c_a0_readings], .agg #[.int .i64 a1.den, .slice A_a1_num a1.num.length c_a1_num]]) Try.func9 rfl rfl rfl rfl ?_
  have H := Hp.start w
  have R0 := H.ext
  unfold law01_LevelChecks at F
  refine CW.seq fun K1 hK1 => ?_
  refine CW.region ?_
  refine LW.go rfl rfl (OW.box rfl fun b1 w1 N1 => ?_)
  replace H := H.new N1 N1.blk
  replace R0 := H.ext
  refine LW.go rfl rfl (OW.box rfl fun b2 w2 N2 => ?_)
  replace H := H.new N2 N2.blk
  replace R0 := H.ext
  refine LW.pure rfl rfl (RV.assign rfl) ?_
  refine LW.nil (hK1 _ _ ?_)
  refine CW.seq fun K2 hK2 => ?_
  refine CW.seqJ (fun ρ wl1 => (∃ (t12_1 : Bool), law01_LevelChecks_k1 a0 a1 t12_1 = some res ∧ ρ = [(2, .pointer (some (⟨b1, 0, none⟩))), (3, .pointer (some (⟨b2, 0, none⟩))), (4, .bool false), (12, .bool t12_1)] ∧ Hp w wl1 [.blk b1 24 [.int .i64 a0.points, .slice A_a0_readings a0.readings.length c_a0_readings], .blk b2 59 [.int .i64 a1.den, .slice A_a1_num a1.num.length c_a1_num]])) ?_ ?_
  ·
    rintro _ wl1 ⟨t12_1, F, rfl, H⟩
    have R0 := H.ext
    unfold law01_LevelChecks_k1 at F
    by_cases hp1 : t12_1 = true
    ·
      replace F := ite_y hp1 F
      have hq1 : t12_1 = true := hp1
      refine CW.condT rfl hq1 ?_
      refine CW.seq fun K3 hK3 => ?_
      obtain ⟨r1, hr1, F⟩ := bnd_some F
      refine CW.region ?_
      refine LW.go rfl rfl (OW.call Tc18 rfl (law01_known_ok hr1) ?_)
      rintro _ w3 ⟨rfl, E1⟩
      refine ⟨_, rfl, ?_⟩
      replace H := H.grow E1
      replace R0 := H.ext
      refine LW.pure rfl rfl (RV.assign rfl) ?_
      refine LW.nil (hK3 _ _ ?_)
      refine CW.ret ?_
      obtain rfl := Option.some.inj F
      refine ⟨_, (ResOK.one rfl), ?_⟩
      refine ⟨(by first | rfl | simp), R0⟩
    ·
      replace F := ite_n hp1 F
      have hq1 : t12_1 = false := raw_f hp1
      refine CW.condF rfl hq1 ?_
      refine CW.skip (hK2 _ _ ?_)
      refine CW.seq fun K4 hK4 => ?_
      obtain ⟨r2, hr2, F⟩ := bnd_some F
      obtain ⟨r3, hr3, F⟩ := bnd_some F
      by_cases hp2 : r2 = r3
      ·
        replace F := ite_y hp2 F
        have hq2 := dec_t hp2
        obtain ⟨r4, hr4, F⟩ := bnd_some F
        refine CW.draw [] (fun _ => True) (.cons 0 1 (.cons 1 1 (.cons 3 1 (.cons 4 1 (.cons 2 0 (.cons 5 0 (.cons 6 1 (.cons 7 1 (.cons 8 0 (.cons 9 1 (.cons 10 1 .nil))))))))))) mixed (by kernel_rfl) fun w4 E2 => ?_
        replace H := H.grow E2
        replace R0 := H.ext
        refine DW.fix rfl rfl rfl (fun _ EQ => RV.loadA [.int .i64 a0.points, .slice A_a0_readings a0.readings.length c_a0_readings] Tk24 rfl ((H.grow EQ).blk 0 rfl).cells rfl rfl) ?_
        refine DW.fix rfl rfl rfl (fun _ EQ => RV.loadA [.int .i64 a1.den, .slice A_a1_num a1.num.length c_a1_num] Tk59 rfl ((H.grow EQ).blk 1 rfl).cells rfl rfl) ?_
        refine DW.fix rfl rfl rfl (fun _ EQ => RV.loadA [.int .i64 a0.points, .slice A_a0_readings a0.readings.length c_a0_readings] Tk24 rfl ((H.grow EQ).blk 0 rfl).cells rfl rfl) ?_
        refine DW.fix rfl rfl rfl (fun _ EQ => RV.loadA [.int .i64 a1.den, .slice A_a1_num a1.num.length c_a1_num] Tk59 rfl ((H.grow EQ).blk 1 rfl).cells rfl rfl) ?_
        refine DW.sole rfl rfl rfl (OW.call Tc41 rfl (level_CheckBest_ok (a0 := a0) (a1 := a1) (h_a0_readings.ext R0) (h_a1_num.ext R0) hr2) ?_)
        rintro _ w5 ⟨rfl, E3⟩
        refine ⟨_, rfl, fun _ => E3, ModX.ext E3, ?_⟩
        replace H := H.grow E3
        replace R0 := H.ext
        refine DW.sole rfl rfl rfl (OW.call Tc42 rfl (ref01_CheckBest_ok (a0 := a0) (a1 := a1) (h_a0_readings.ext R0) (h_a1_num.ext R0) hr3) ?_)
        rintro _ w6 ⟨rfl, E4⟩
        refine ⟨_, rfl, fun _ => E4, ModX.ext E4, ?_⟩
        replace H := H.grow E4
        replace R0 := H.ext
        refine DW.fix rfl rfl rfl (fun _ EQ => RV.eqi rfl rfl) ?_
        refine DW.fix rfl rfl rfl (fun _ EQ => RV.move rfl) ?_
        refine DW.soleYB rfl rfl rfl rfl rfl hq2 (OW.call Tc18 rfl (law01_known_ok hr4) ?_)
        rintro _ w7 ⟨rfl, E5⟩
        refine ⟨_, rfl, fun _ => E5, ModX.ext E5, ?_⟩
        replace H := H.grow E5
        replace R0 := H.ext
        refine DW.fix rfl rfl rfl (fun _ EQ => RV.pickTB rfl hq2 rfl) ?_
        refine DW.fix rfl rfl rfl (fun _ EQ => RV.assign rfl) ?_
        refine DW.nil (hK4 _ _ ?_)
        refine CW.ret ?_
        obtain rfl := Option.some.inj F
        refine ⟨_, (ResOK.one rfl), ?_⟩
        refine ⟨(by first | rfl | simp), R0⟩
      ·
        replace F := ite_n hp2 F
        have hq2 := dec_f hp2
        refine CW.draw [] (fun _ => True) (.cons 0 1 (.cons 1 1 (.cons 3 1 (.cons 4 1 (.cons 2 0 (.cons 5 0 (.cons 6 1 (.cons 7 1 (.cons 8 0 (.cons 9 1 (.cons 10 1 .nil))))))))))) mixed (by kernel_rfl) fun w8 E6 => ?_
        replace H := H.grow E6
        replace R0 := H.ext
        refine DW.fix rfl rfl rfl (fun _ EQ => RV.loadA [.int .i64 a0.points, .slice A_a0_readings a0.readings.length c_a0_readings] Tk24 rfl ((H.grow EQ).blk 0 rfl).cells rfl rfl) ?_
        refine DW.fix rfl rfl rfl (fun _ EQ => RV.loadA [.int .i64 a1.den, .slice A_a1_num a1.num.length c_a1_num] Tk59 rfl ((H.grow EQ).blk 1 rfl).cells rfl rfl) ?_
        refine DW.fix rfl rfl rfl (fun _ EQ => RV.loadA [.int .i64 a0.points, .slice A_a0_readings a0.readings.length c_a0_readings] Tk24 rfl ((H.grow EQ).blk 0 rfl).cells rfl rfl) ?_
        refine DW.fix rfl rfl rfl (fun _ EQ => RV.loadA [.int .i64 a1.den, .slice A_a1_num a1.num.length c_a1_num] Tk59 rfl ((H.grow EQ).blk 1 rfl).cells rfl rfl) ?_
        refine DW.sole rfl rfl rfl (OW.call Tc41 rfl (level_CheckBest_ok (a0 := a0) (a1 := a1) (h_a0_readings.ext R0) (h_a1_num.ext R0) hr2) ?_)
        rintro _ w9 ⟨rfl, E7⟩
        refine ⟨_, rfl, fun _ => E7, ModX.ext E7, ?_⟩
        replace H := H.grow E7
        replace R0 := H.ext
        refine DW.sole rfl rfl rfl (OW.call Tc42 rfl (ref01_CheckBest_ok (a0 := a0) (a1 := a1) (h_a0_readings.ext R0) (h_a1_num.ext R0) hr3) ?_)
        rintro _ w10 ⟨rfl, E8⟩
        refine ⟨_, rfl, fun _ => E8, ModX.ext E8, ?_⟩
        replace H := H.grow E8
        replace R0 := H.ext
        refine DW.fix rfl rfl rfl (fun _ EQ => RV.eqi rfl rfl) ?_
        refine DW.fix rfl rfl rfl (fun _ EQ => RV.move rfl) ?_
        refine DW.soleNB rfl rfl rfl rfl rfl (ne_beq (v := false) hq2 rfl) ?_
        refine DW.fix rfl rfl rfl (fun _ EQ => RV.pickFB rfl hq2 rfl) ?_
        refine DW.fix rfl rfl rfl (fun _ EQ => RV.assign rfl) ?_
        refine DW.nil (hK4 _ _ ?_)
        refine CW.ret ?_
        obtain rfl := Option.some.inj F
        refine ⟨_, (ResOK.one rfl), ?_⟩
        refine ⟨(by first | rfl | simp), R0⟩
  ·
    intro K5 hK5 jK10
    obtain ⟨r5, hr5, F⟩ := bnd_some F
    by_cases hp3 : r5 = true
    ·
      replace F := ite_y hp3 F
      have hq3 : r5 = true := hp3
      refine CW.region ?_
      refine LW.pure rfl rfl (RV.loadA [.int .i64 a0.points, .slice A_a0_readings a0.readings.length c_a0_readings] Tk24 rfl (H.blk 1 rfl).cells rfl rfl) ?_
      refine LW.go rfl rfl (OW.call Tc17 rfl (law01_Long_ok (a0 := a0) (h_a0_readings.ext R0) hr5) ?_)
      rintro _ w11 ⟨rfl, E9⟩
      refine ⟨_, rfl, ?_⟩
      replace H := H.grow E9
      replace R0 := H.ext
      refine LW.pure rfl rfl (RV.move rfl) ?_
      refine LW.noB rfl rfl rfl rfl (ne_beq (v := true) hq3 rfl) ?_
      refine LW.noB rfl rfl rfl rfl (ne_beq (v := true) hq3 rfl) ?_
      refine LW.noB rfl rfl rfl rfl (ne_beq (v := true) hq3 rfl) ?_
      refine LW.noB rfl rfl rfl rfl (ne_beq (v := true) hq3 rfl) ?_
      refine LW.pure rfl rfl (RV.pickTB rfl hq3 rfl) ?_
      replace H := H.pick (L' := [.blk b1 24 [.int .i64 a0.points, .slice A_a0_readings a0.readings.length c_a0_readings], .blk b2 59 [.int .i64 a1.den, .slice A_a1_num a1.num.length c_a1_num]]) [1, 0] (by decide) rfl
      replace R0 := H.ext
      refine LW.nil (jK10 _ _ ⟨_, ?_, ⟨true, F, rfl, H⟩⟩)
      exact ⟨rfl, rfl, rfl, rfl, trivial⟩
    ·
      replace F := ite_n hp3 F
      have hq3 : r5 = false := raw_f hp3
      refine CW.region ?_
      refine LW.pure rfl rfl (RV.loadA [.int .i64 a0.points, .slice A_a0_readings a0.readings.length c_a0_readings] Tk24 rfl (H.blk 1 rfl).cells rfl rfl) ?_
      refine LW.go rfl rfl (OW.call Tc17 rfl (law01_Long_ok (a0 := a0) (h_a0_readings.ext R0) hr5) ?_)
      rintro _ w12 ⟨rfl, E10⟩
      refine ⟨_, rfl, ?_⟩
      replace H := H.grow E10
      replace R0 := H.ext
      refine LW.pure rfl rfl (RV.move rfl) ?_
      refine LW.pureYB rfl rfl rfl rfl hq3 (RV.fieldAddr Tf59_1 rfl) ?_
      refine LW.pureYB rfl rfl rfl rfl hq3 (RV.load1 Tk39 rfl ((H.blk 0 rfl).cells.off 1) rfl) ?_
      refine LW.pureYB rfl rfl rfl rfl hq3 (RV.len Ts39 rfl) ?_
      refine LW.pureYB rfl rfl rfl rfl hq3 (RV.gtr rfl rfl) ?_
      refine LW.pure rfl rfl (RV.pickFB rfl hq3 rfl) ?_
      replace H := H.pick (L' := [.blk b1 24 [.int .i64 a0.points, .slice A_a0_readings a0.readings.length c_a0_readings], .blk b2 59 [.int .i64 a1.den, .slice A_a1_num a1.num.length c_a1_num]]) [1, 0] (by decide) rfl
      replace R0 := H.ext
      refine LW.nil (jK10 _ _ ⟨_, ?_, ⟨(decide ((100 : Int) < ((a1.num.length : Int)))), F, rfl, H⟩⟩)
      exact ⟨rfl, rfl, rfl, rfl, trivial⟩
end Go.D1

namespace Go.Tb
/-- A loop over 0 .. N - 1 with a state, that is left at the first i for which p does not hold. -/
theorem scan_loop {S R : Type} (N : Nat) (p : Nat → Bool) (g : Nat → S) (L : Nat → S → Int → Option R) (yes : Option R) (no : Nat → Option R)
    (step : ∀ n i : Nat, i < N → L (n + 1) (g i) (i : Int) = if p i = true then L n (g (i + 1)) ((i + 1 : Nat) : Int) else no i)
    (stop : ∀ n : Nat, L (n + 1) (g N) (N : Int) = yes) : ∀ (d n i : Nat), N = i + d → d < n → L n (g i) (i : Int) = match (List.range' i d).find? (fun j => !p j) with | none => yes | some j => no j
  | 0, n + 1, i, hd, hn => by
    have hi : i = N := by omega
    subst hi
    rw [stop n]; rfl
  | d + 1, n + 1, i, hd, hn => by
    rw [step n i (by omega), List.range'_succ, List.find?_cons]
    cases hp : p i
    · simp
    · simp only [if_true, Bool.not_true]
      exact scan_loop N p g L yes no step stop d n (i + 1) (by omega) (by omega)
theorem find_all {p : Nat → Bool} {i d : Nat} : (List.range' i d).find? (fun j => !p j) = none ↔ ∀ j, i ≤ j → j < i + d → p j = true := by
  rw [List.find?_eq_none]
  constructor
  · intro h j h1 h2
    have := h j (by rw [List.mem_range'_1]; omega)
    simpa using this
  · intro h x hx
    rw [List.mem_range'_1] at hx
    simp [h x hx.1 hx.2]
/-- A loop over 0 .. N - 1 with a state and no way out. -/
theorem for_loop {S R : Type} (N : Nat) (g : Nat → S) (L : Nat → S → Int → Option R) (yes : Option R)
    (step : ∀ n i : Nat, i < N → L (n + 1) (g i) (i : Int) = L n (g (i + 1)) ((i + 1 : Nat) : Int))
    (stop : ∀ n : Nat, L (n + 1) (g N) (N : Int) = yes) : ∀ (d n i : Nat), N = i + d → d < n → L n (g i) (i : Int) = yes
  | 0, n + 1, i, hd, hn => by
    have hi : i = N := by omega
    subst hi
    exact stop n
  | d + 1, n + 1, i, hd, hn => by
    rw [step n i (by omega)]
    exact for_loop N g L yes step stop d n (i + 1) (by omega) (by omega)
theorem for_loop0 {S R : Type} (N : Nat) (g : Nat → S) (L : Nat → S → Int → Option R) (yes : Option R)
    (step : ∀ n i : Nat, i < N → L (n + 1) (g i) (i : Int) = L n (g (i + 1)) ((i + 1 : Nat) : Int))
    (stop : ∀ n : Nat, L (n + 1) (g N) (N : Int) = yes) (hN : N ≤ 9223372036854775807) : L FU (g 0) 0 = yes :=
  for_loop N g L yes step stop N FU 0 (by omega) (by have := FU_pos; omega)
theorem scan_loop0 {S R : Type} (N : Nat) (p : Nat → Bool) (g : Nat → S) (L : Nat → S → Int → Option R) (yes no : Option R)
    (step : ∀ n i : Nat, i < N → L (n + 1) (g i) (i : Int) = if p i = true then L n (g (i + 1)) ((i + 1 : Nat) : Int) else no)
    (stop : ∀ n : Nat, L (n + 1) (g N) (N : Int) = yes) (hN : N ≤ 9223372036854775807) : L FU (g 0) 0 = if (∀ j, j < N → p j = true) then yes else no := by
  have h := scan_loop N p g L yes (fun _ => no) step stop N FU 0 (by omega) (by have := FU_pos; omega)
  refine Eq.trans h ?_
  cases hf : (List.range' 0 N).find? (fun j => !p j) with
  | none => rw [if_pos (fun j hj => find_all.1 hf j (by omega) (by omega))]
  | some j =>
    have h1 := List.find?_some hf
    have h2 := List.mem_of_find?_eq_some hf
    rw [List.mem_range'_1] at h2
    rw [if_neg]
    intro hall
    have := hall j (by omega)
    simp [this] at h1
/-- The same over the elements of a list. -/
theorem list_loop0 {α R : Type} (l : List α) (p : α → Bool) (L : Nat → Int → Option R) (yes no : Option R)
    (step : ∀ (n i : Nat) (x : α), l[i]? = some x → L (n + 1) (i : Int) = if p x = true then L n ((i + 1 : Nat) : Int) else no)
    (stop : ∀ n : Nat, L (n + 1) (l.length : Int) = yes) (hl : l.length ≤ 9223372036854775807) : L FU 0 = if l.all p = true then yes else no := by
  have h := scan_loop0 l.length (fun i => (l[i]?.map p).getD true) (fun _ => ()) (fun n _ i => L n i) yes no (fun n i hi => by
    have hx : l[i]? = some l[i] := by simp [hi]
    rw [step n i _ hx]; simp [hx]) stop hl
  refine Eq.trans h ?_
  by_cases ha : l.all p = true
  · rw [if_pos ha, if_pos]
    intro j hj
    have := List.all_eq_true.1 ha l[j] (List.getElem_mem hj)
    simp [hj, this]
  · rw [if_neg ha, if_neg]
    intro hc
    refine ha (List.all_eq_true.2 fun x hx => ?_)
    obtain ⟨j, hj⟩ := List.getElem?_of_mem hx
    have := hc j (lt_of_at hj)
    simpa [hj] using this
end Go.Tb

set_option linter.unusedVariables false
set_option linter.unusedSimpArgs false
namespace Go.D1
open Go.Tb
theorem known_eq : law01_known = some true := by decide +kernel
theorem ix0 {α β : Type} {l : List α} {k : α → Option β} {x : α} (h : l[0]? = some x) : ix l 0 k = k x := ix_nat (i := 0) h
theorem for0 {S R : Type} (N : Nat) (g : Nat → S) (L : Nat → S → Int → Option R) (yes : Option R) {s0 : S} (h0 : g 0 = s0)
    (step : ∀ n i : Nat, i < N → L (n + 1) (g i) (i : Int) = L n (g (i + 1)) ((i + 1 : Nat) : Int))
    (stop : ∀ n : Nat, L (n + 1) (g N) (N : Int) = yes) (hN : N ≤ 9223372036854775807) : L FU s0 0 = yes := by
  rw [← h0]; exact for_loop0 N g L yes step stop hN
def gi (l : List Int) (i : Nat) : Int := l.getD i 0
theorem gi_at {l : List Int} {i : Nat} (h : i < l.length) : l[i]? = some (gi l i) := by simp [gi, List.getD, h]
theorem gi_of {l : List Int} {i : Nat} {x : Int} (h : l[i]? = some x) : gi l i = x := by simp [gi, List.getD, h]
theorem gi_set {l : List Int} {i j : Nat} {x : Int} : gi (l.set i x) j = if i = j ∧ j < l.length then x else gi l j := by
  unfold gi
  simp only [List.getD_eq_getElem?_getD, List.getElem?_set]
  by_cases h : i = j
  · subst h
    by_cases h2 : i < l.length
    · simp [h2]
    · simp [h2]
  · simp [h]
theorem gi_ext {l l' : List Int} (hl : l.length = l'.length) (h : ∀ j, j < l.length → gi l j = gi l' j) : l = l' := by
  apply List.ext_getElem?
  intro j
  by_cases hj : j < l.length
  · rw [gi_at hj, gi_at (by omega), h j hj]
  · rw [List.getElem?_eq_none (by omega), List.getElem?_eq_none (by omega)]
def within (n lo hi : Int) : Bool := decide (lo ≤ n) && decide (n ≤ hi)
theorem within_iff {n lo hi : Int} : within n lo hi = true ↔ lo ≤ n ∧ n ≤ hi := by unfold within; simp
theorem lwithin_eq (n lo hi : Int) : level_within n lo hi = some (within n lo hi) := by
  unfold level_within within
  by_cases h : lo ≤ n <;> simp [h]
theorem rwithin_eq (n lo hi : Int) : ref01_within n lo hi = some (within n lo hi) := by
  unfold ref01_within within
  by_cases h : lo ≤ n <;> simp [h]
def okR (s : Survey) (r : Reading) : Bool := within r.from_ 0 (s.points - 1) && within r.to_ 0 (s.points - 1) && !decide (r.from_ = r.to_) && within r.rise (-1000) 1000 && within r.weight 1 3
def validate (s : Survey) : Int := if within s.points 1 5 = true then (if 8 < s.readings.length then 3 else if s.readings.all (okR s) = true then 0 else 1) else 1
theorem Validate_eq (s : Survey) : level_Validate s = some (validate s) := by
  unfold level_Validate validate
  rw [bnd_eq (lwithin_eq _ _ _)]
  by_cases hp : within s.points 1 5 = true
  · have hw := within_iff.1 hp
    rw [if_pos hp, if_pos hp]
    by_cases h8 : 8 < s.readings.length
    · rw [if_pos (by omega), if_pos h8]
    · rw [if_neg (by omega), if_neg h8]
      refine Eq.trans (list_loop0 s.readings (okR s) (level_Validate_L1 s) (some 0) (some 1) (fun k i x hx => ?_) (fun k => ?_) (by omega)) (by split <;> rfl)
      · have := lt_of_at hx
        show level_Validate_B1 s (level_Validate_L1 s k) _ = _
        unfold level_Validate_B1 okR level_Validate_k2
        rw [if_pos (by omega), ix_nat hx, gd_pos (by omega), bnd_eq (lwithin_eq _ _ _)]
        cases h1 : within x.from_ 0 (s.points - 1)
        · rw [if_neg (by simp), if_pos rfl]; rfl
        · rw [if_pos rfl, gd_pos (by omega), bnd_eq (lwithin_eq _ _ _)]
          cases h2 : within x.to_ 0 (s.points - 1)
          · rw [if_neg (by simp), if_pos rfl]; rfl
          · rw [if_pos rfl]
            by_cases h3 : x.from_ = x.to_
            · rw [if_pos h3, if_pos rfl, decide_eq_true h3]; rfl
            · rw [if_neg h3, decide_eq_false h3, bnd_eq (lwithin_eq _ _ _)]
              cases h4 : within x.rise (-1000) 1000
              · rw [if_neg (by simp), if_pos rfl]; rfl
              · rw [if_pos rfl, bnd_eq (lwithin_eq _ _ _)]
                cases h5 : within x.weight 1 3
                · rw [if_pos (by rfl)]; rfl
                · rw [if_neg (by simp), gd_pos (by omega)]; rfl
      · show level_Validate_B1 s (level_Validate_L1 s k) _ = _
        unfold level_Validate_B1
        rw [if_neg (by omega)]; rfl
  · rw [if_neg hp, if_neg hp]
theorem rValidate_eq (s : Survey) : ref01_Validate s = some (validate s) := by
  unfold ref01_Validate validate
  rw [bnd_eq (rwithin_eq _ _ _)]
  by_cases hp : within s.points 1 5 = true
  · have hw := within_iff.1 hp
    rw [if_pos hp, if_pos hp]
    by_cases h8 : 8 < s.readings.length
    · rw [if_pos (by omega), if_pos h8]
    · rw [if_neg (by omega), if_neg h8]
      refine Eq.trans (list_loop0 s.readings (okR s) (ref01_Validate_L1 s) (some 0) (some 1) (fun k i x hx => ?_) (fun k => ?_) (by omega)) (by split <;> rfl)
      · have := lt_of_at hx
        show ref01_Validate_B1 s (ref01_Validate_L1 s k) _ = _
        unfold ref01_Validate_B1 okR ref01_Validate_k2
        rw [if_pos (by omega), ix_nat hx, gd_pos (by omega), bnd_eq (rwithin_eq _ _ _)]
        cases h1 : within x.from_ 0 (s.points - 1)
        · rw [if_neg (by simp), if_pos rfl]; rfl
        · rw [if_pos rfl, gd_pos (by omega), bnd_eq (rwithin_eq _ _ _)]
          cases h2 : within x.to_ 0 (s.points - 1)
          · rw [if_neg (by simp), if_pos rfl]; rfl
          · rw [if_pos rfl]
            by_cases h3 : x.from_ = x.to_
            · rw [if_pos h3, if_pos rfl, decide_eq_true h3]; rfl
            · rw [if_neg h3, decide_eq_false h3, bnd_eq (rwithin_eq _ _ _)]
              cases h4 : within x.rise (-1000) 1000
              · rw [if_neg (by simp), if_pos rfl]; rfl
              · rw [if_pos rfl, bnd_eq (rwithin_eq _ _ _)]
                cases h5 : within x.weight 1 3
                · rw [if_pos (by rfl)]; rfl
                · rw [if_neg (by simp), gd_pos (by omega)]; rfl
      · show ref01_Validate_B1 s (ref01_Validate_L1 s k) _ = _
        unfold ref01_Validate_B1
        rw [if_neg (by omega)]; rfl
  · rw [if_neg hp, if_neg hp]
structure SvOk (s : Survey) : Prop where
  p1 : 1 ≤ s.points
  p5 : s.points ≤ 5
  len : s.readings.length ≤ 8
  rd : ∀ r ∈ s.readings, (0 ≤ r.from_ ∧ r.from_ < s.points) ∧ (0 ≤ r.to_ ∧ r.to_ < s.points) ∧ r.from_ ≠ r.to_ ∧ (-1000 ≤ r.rise ∧ r.rise ≤ 1000) ∧ (1 ≤ r.weight ∧ r.weight ≤ 3)
theorem val0 {s : Survey} : validate s = 0 ↔ SvOk s := by
  unfold validate
  constructor
  · intro h
    split at h
    · rename_i hp
      have hw := within_iff.1 hp
      split at h
      · omega
      · split at h
        · rename_i hall
          refine ⟨hw.1, hw.2, by omega, fun r hr => ?_⟩
          have := List.all_eq_true.1 hall r hr
          unfold okR at this
          simp only [Bool.and_eq_true, within_iff, Bool.not_eq_true', decide_eq_false_iff_not] at this
          omega
        · omega
    · omega
  · intro h
    rw [if_pos (within_iff.2 ⟨h.p1, h.p5⟩), if_neg (by have := h.len; omega), if_pos]
    rw [List.all_eq_true]
    intro r hr
    have := h.rd r hr
    unfold okR
    simp only [Bool.and_eq_true, within_iff, Bool.not_eq_true', decide_eq_false_iff_not]
    omega
theorem Long_eq (s : Survey) : law01_Long s = some (decide ((100 : Int) < (s.readings.length : Int))) := rfl
end Go.D1

set_option linter.unusedVariables false
set_option linter.unusedSimpArgs false
namespace Go.D1
open Go.Tb
def gr (l : List Reading) (i : Nat) : Reading := l.getD i ⟨0, 0, 0, 0⟩
theorem gr_at {l : List Reading} {i : Nat} (h : i < l.length) : l[i]? = some (gr l i) := by simp [gr, List.getD, h]
theorem gr_ok {s : Survey} (h : SvOk s) {i : Nat} (hi : i < s.readings.length) : (0 ≤ (gr s.readings i).from_ ∧ (gr s.readings i).from_ < s.points) ∧ (0 ≤ (gr s.readings i).to_ ∧ (gr s.readings i).to_ < s.points) ∧ (gr s.readings i).from_ ≠ (gr s.readings i).to_ ∧ (-1000 ≤ (gr s.readings i).rise ∧ (gr s.readings i).rise ≤ 1000) ∧ (1 ≤ (gr s.readings i).weight ∧ (gr s.readings i).weight ≤ 3) := h.rd _ (List.mem_of_getElem? (gr_at hi))
/-- Joined by the first j readings. -/
inductive Con (s : Survey) (j : Nat) : Int → Int → Prop where
  | refl (a : Int) : Con s j a a
  | edge {i : Nat} : i < j → i < s.readings.length → Con s j (gr s.readings i).from_ (gr s.readings i).to_
  | symm {a b : Int} : Con s j a b → Con s j b a
  | trans {a b c : Int} : Con s j a b → Con s j b c → Con s j a c
theorem Con.mono {s : Survey} {j k : Nat} (hjk : j ≤ k) {a b : Int} (h : Con s j a b) : Con s k a b := by
  induction h with
  | refl a => exact .refl a
  | edge h1 h2 => exact .edge (by omega) h2
  | symm _ ih => exact ih.symm
  | trans _ _ i1 i2 => exact i1.trans i2
/-- A list that gives the smallest point of each point's part. -/
structure Roots (s : Survey) (j : Nat) (f : List Int) : Prop where
  len : f.length = s.points.toNat
  le : ∀ i, i < f.length → 0 ≤ gi f i ∧ gi f i ≤ i
  con : ∀ i, i < f.length → Con s j (gi f i) (i : Int)
  same : ∀ i, i < j → i < s.readings.length → gi f (gr s.readings i).from_.toNat = gi f (gr s.readings i).to_.toNat
theorem Roots.eq_of {s : Survey} (hs : SvOk s) {j : Nat} {f : List Int} (h : Roots s j f) {a b : Int} (hc : Con s j a b) : (0 ≤ a ∧ a < s.points ↔ 0 ≤ b ∧ b < s.points) ∧ (0 ≤ a ∧ a < s.points → gi f a.toNat = gi f b.toNat) := by
  induction hc with
  | refl a => exact ⟨Iff.rfl, fun _ => rfl⟩
  | edge h1 h2 =>
    have := gr_ok hs h2
    exact ⟨by omega, fun _ => h.same _ h1 h2⟩
  | symm _ ih => exact ⟨ih.1.symm, fun hb => (ih.2 (ih.1.2 hb)).symm⟩
  | trans _ _ i1 i2 => exact ⟨i1.1.trans i2.1, fun ha => (i1.2 ha).trans (i2.2 (i1.1.1 ha))⟩
theorem Roots.uniq {s : Survey} (hs : SvOk s) {j : Nat} {f g : List Int} (hf : Roots s j f) (hg : Roots s j g) : f = g := by
  have hp := hs.p1
  refine gi_ext (by rw [hf.len, hg.len]) fun i hi => ?_
  have hfl := hf.len
  have hgl := hg.len
  have key : ∀ {f g : List Int}, Roots s j f → Roots s j g → ∀ i, i < s.points.toNat → gi g i ≤ gi f i := fun {f g} hf hg i hi => by
    have h1 := hf.le i (by rw [hf.len]; exact hi)
    have h2 := (hg.eq_of hs (hf.con i (by rw [hf.len]; exact hi))).2 (by omega)
    have h3 := hg.le (gi f i).toNat (by rw [hg.len]; omega)
    rw [show ((i : Int)).toNat = i by omega] at h2
    omega
  have := key hf hg i (by omega)
  have := key hg hf i (by omega)
  omega
def relab (f : List Int) (a b : Int) : List Int := f.map fun x => if x = max (gi f a.toNat) (gi f b.toNat) then min (gi f a.toNat) (gi f b.toNat) else x
theorem relab_len (f : List Int) (a b : Int) : (relab f a b).length = f.length := by unfold relab; simp
theorem relab_gi {f : List Int} {a b : Int} {i : Nat} (hi : i < f.length) : gi (relab f a b) i = if gi f i = max (gi f a.toNat) (gi f b.toNat) then min (gi f a.toNat) (gi f b.toNat) else gi f i := by
  apply gi_of
  unfold relab
  rw [List.getElem?_map, gi_at hi]; rfl
theorem join_eq {f : List Int} {a b : Int} (hf : f.length ≤ 1000) (ha : 0 ≤ a ∧ a < (f.length : Int)) (hb : 0 ≤ b ∧ b < (f.length : Int)) : level_forest_1 f a b = some (!decide (gi f a.toNat = gi f b.toNat), relab f a b) := by
  have hA : f[a.toNat]? = some (gi f a.toNat) := gi_at (by omega)
  have hB : f[b.toNat]? = some (gi f b.toNat) := gi_at (by omega)
  unfold level_forest_1
  rw [ix_eq ha.1 hA, ix_eq hb.1 hB, ix_eq ha.1 hA, ix_eq hb.1 hB]
  refine Eq.trans (for0 f.length (fun i => (relab f a b).take i ++ f.drop i) (fun k s i => level_forest_1_L1 f (gi f a.toNat) (gi f b.toNat) (gi f a.toNat) (gi f b.toNat) k i s) (some (!decide (gi f a.toNat = gi f b.toNat), relab f a b)) (by simp) (fun k i hi => ?_) (fun k => ?_) (by omega)) rfl
  · show level_forest_1_B1 f _ _ _ _ (level_forest_1_L1 f _ _ _ _ k) _ _ = _
    have hl := relab_len f a b
    have hx : ((relab f a b).take i ++ f.drop i)[i]? = some (gi f i) := by
      rw [List.getElem?_append_right (by rw [List.length_take]; omega), List.length_take, hl, List.getElem?_drop, show i + (i - min i f.length) = i by omega]
      exact gi_at hi
    have hnext : (relab f a b).take (i + 1) ++ f.drop (i + 1) = ((relab f a b).take i ++ f.drop i).set i (gi (relab f a b) i) := by
      rw [List.set_append_right _ _ (by rw [List.length_take]; omega), List.length_take, hl, show i - min i f.length = 0 by omega, List.drop_eq_getElem_cons hi, List.set_cons_zero, List.take_add_one, gi_at (by omega)]
      simp
    unfold level_forest_1_B1 level_forest_1_k2
    rw [if_pos (by omega), ix_nat hx]
    by_cases hm : gi f i = max (gi f a.toNat) (gi f b.toNat)
    · rw [if_pos hm, ix_nat hx, gd_pos (by omega), hnext, relab_gi hi, if_pos hm]; rfl
    · rw [if_neg hm, gd_pos (by omega), hnext, relab_gi hi, if_neg hm]
      have e : ((relab f a b).take i ++ f.drop i).set i (gi f i) = (relab f a b).take i ++ f.drop i := by
        apply List.ext_getElem?
        intro q
        rw [List.getElem?_set]
        by_cases hq : i = q
        · subst hq; rw [if_pos rfl, if_pos (lt_of_at hx), hx]
        · rw [if_neg hq]
      rw [e]; rfl
  · show level_forest_1_B1 f _ _ _ _ (level_forest_1_L1 f _ _ _ _ k) _ _ = _
    unfold level_forest_1_B1 level_forest_1_k1
    have hl := relab_len f a b
    rw [if_neg (by omega), List.drop_of_length_le (Nat.le_refl _), List.append_nil, List.take_of_length_le (by omega)]
    congr 3
    exact decide_eq_decide.2 (by omega)
def iota (n : Nat) : List Int := (List.range n).map fun (i : Nat) => (i : Int)
theorem iota_gi {n i : Nat} (h : i < n) : gi (iota n) i = i := by
  apply gi_of
  unfold iota
  rw [List.getElem?_map, List.getElem?_range h]; rfl
theorem iota_len (n : Nat) : (iota n).length = n := by unfold iota; simp
theorem iota_succ (n : Nat) : iota (n + 1) = iota n ++ [(n : Int)] := by unfold iota; rw [List.range_succ, List.map_append]; rfl
def firsts (s : Survey) : Nat → List Int
  | 0 => iota s.points.toNat
  | j + 1 => relab (firsts s j) (gr s.readings j).from_ (gr s.readings j).to_
theorem firsts_ok {s : Survey} (hs : SvOk s) : ∀ j, j ≤ s.readings.length → Roots s j (firsts s j)
  | 0, _ => {
    len := iota_len _
    le := fun i hi => by
      simp only [firsts] at hi ⊢
      rw [iota_len] at hi
      rw [iota_gi hi]; omega
    con := fun i hi => by
      simp only [firsts] at hi ⊢
      rw [iota_len] at hi
      rw [iota_gi hi]; exact .refl _
    same := fun i hi => by omega }
  | j + 1, hj => by
    have ih := firsts_ok hs j (by omega)
    have hr := gr_ok hs (i := j) (by omega)
    have hl := ih.len
    have hp := hs.p1
    have la := ih.le (gr s.readings j).from_.toNat (by omega)
    have lb := ih.le (gr s.readings j).to_.toNat (by omega)
    have ca := (ih.con (gr s.readings j).from_.toNat (by omega)).mono (Nat.le_succ j)
    have cb := (ih.con (gr s.readings j).to_.toNat (by omega)).mono (Nat.le_succ j)
    rw [show (((gr s.readings j).from_.toNat : Nat) : Int) = (gr s.readings j).from_ by omega] at ca
    rw [show (((gr s.readings j).to_.toNat : Nat) : Int) = (gr s.readings j).to_ by omega] at cb
    have cab : Con s (j + 1) (gi (firsts s j) (gr s.readings j).from_.toNat) (gi (firsts s j) (gr s.readings j).to_.toNat) := ca.trans ((Con.edge (Nat.lt_succ_self j) (by omega)).trans cb.symm)
    have hg : ∀ i, i < (firsts s j).length → gi (firsts s (j + 1)) i = if gi (firsts s j) i = max (gi (firsts s j) (gr s.readings j).from_.toNat) (gi (firsts s j) (gr s.readings j).to_.toNat) then min (gi (firsts s j) (gr s.readings j).from_.toNat) (gi (firsts s j) (gr s.readings j).to_.toNat) else gi (firsts s j) i := fun i hi => relab_gi hi
    generalize hA : gi (firsts s j) (gr s.readings j).from_.toNat = A at *
    generalize hB : gi (firsts s j) (gr s.readings j).to_.toNat = B at *
    have hl' : (firsts s (j + 1)).length = (firsts s j).length := relab_len _ _ _
    refine ⟨by rw [hl', hl], fun i hi => ?_, fun i hi => ?_, fun i hi hi2 => ?_⟩
    · rw [hl'] at hi
      have := ih.le i hi
      rw [hg i hi]
      split <;> omega
    · rw [hl'] at hi
      rw [hg i hi]
      have hc := (ih.con i hi).mono (Nat.le_succ j)
      split
      · rename_i he
        rw [he] at hc
        have cm : Con s (j + 1) (min A B) (max A B) := by
          rcases Int.le_total A B with h | h
          · rw [show min A B = A by omega, show max A B = B by omega]; exact cab
          · rw [show min A B = B by omega, show max A B = A by omega]; exact cab.symm
        exact cm.trans hc
      · exact hc
    · have hri := gr_ok hs hi2
      rw [hg _ (by omega), hg _ (by omega)]
      by_cases e : i = j
      · subst e
        rw [hA, hB]
        split <;> split <;> omega
      · rw [ih.same i (by omega) hi2]
def treeL (s : Survey) : Nat → List Int
  | 0 => []
  | j + 1 => treeL s j ++ (if gi (firsts s j) (gr s.readings j).from_.toNat = gi (firsts s j) (gr s.readings j).to_.toNat then [] else [(j : Int)])
theorem treeL_len (s : Survey) : ∀ j, (treeL s j).length ≤ j
  | 0 => Nat.le_refl _
  | j + 1 => by
    have := treeL_len s j
    simp only [treeL]
    split <;> simp <;> omega
theorem forest_eq {s : Survey} (hs : SvOk s) : level_forest s = some (firsts s s.readings.length, treeL s s.readings.length) := by
  have hp := hs.p1
  have hp5 := hs.p5
  have h8 := hs.len
  unfold level_forest
  refine for0 s.points.toNat iota (fun k l i => level_forest_L2 s k i l) _ rfl (fun k i hi => ?_) (fun k => ?_) (by omega)
  · show level_forest_B2 s (level_forest_L2 s k) _ _ = _
    unfold level_forest_B2
    have := iota_len i
    rw [if_pos (by omega), gd_pos (by rw [this]; simp; omega), gd_pos (by omega), iota_succ]; rfl
  · show level_forest_B2 s (level_forest_L2 s k) _ _ = _
    unfold level_forest_B2 level_forest_k3
    rw [if_neg (by omega)]
    refine for0 s.readings.length (fun i => (treeL s i, firsts s i)) (fun k l i => level_forest_L1 s k i l.1 l.2) _ (s0 := ([], iota s.points.toNat)) rfl (fun k i hi => ?_) (fun k => ?_) (by omega)
    · show level_forest_B1 s (level_forest_L1 s k) (i : Int) (treeL s i) (firsts s i) = _
      have hF := firsts_ok hs i (by omega)
      have hl := hF.len
      have hr := gr_ok hs hi
      have ht := treeL_len s i
      unfold level_forest_B1 level_forest_k2
      rw [if_pos (by omega), ix_nat (gr_at hi), bnd_eq (join_eq (by omega) (by omega) (by omega))]
      simp only [treeL, firsts]
      by_cases he : gi (firsts s i) (gr s.readings i).from_.toNat = gi (firsts s i) (gr s.readings i).to_.toNat
      · rw [if_neg (by simp [he]), gd_pos (by omega), if_pos he, List.append_nil]; rfl
      · rw [if_pos (by simp [he]), gd_pos (by simp; omega), gd_pos (by omega), if_neg he]; rfl
    · show level_forest_B1 s (level_forest_L1 s k) _ _ _ = _
      unfold level_forest_B1
      rw [if_neg (by omega)]; rfl
/-- What is kept while points are told smaller ones. -/
structure Pre (s : Survey) (j : Nat) (f : List Int) : Prop where
  len : f.length = s.points.toNat
  le : ∀ i, i < f.length → 0 ≤ gi f i ∧ gi f i ≤ i
  con : ∀ i, i < f.length → Con s j (gi f i) (i : Int)
def tot : List Int → Nat
  | [] => 0
  | x :: r => x.toNat + tot r
theorem tot_set : ∀ {l : List Int} {i : Nat} {x : Int}, i < l.length → tot (l.set i x) + (gi l i).toNat = tot l + x.toNat
  | [], i, x, h => by simp at h
  | y :: r, 0, x, h => by simp [tot, gi]; omega
  | y :: r, i + 1, x, h => by
    have := tot_set (l := r) (i := i) (x := x) (by simpa using h)
    have e : gi (y :: r) (i + 1) = gi r i := by simp [gi]
    simp only [List.set_cons_succ, tot, e]; omega
theorem tot_le {B : Nat} : ∀ {l : List Int}, (∀ x ∈ l, x.toNat ≤ B) → tot l ≤ B * l.length
  | [], _ => Nat.le_refl _
  | x :: r, h => by
    have := tot_le (l := r) (fun y hy => h y (List.mem_cons_of_mem _ hy))
    have := h x (List.mem_cons_self ..)
    simp only [tot, List.length_cons, Nat.mul_succ]; omega
/-- One step: two points are told the smaller number. -/
def step (f : List Int) (a b : Nat) : List Int := (f.set a (min (gi f a) (gi f b))).set b (min (gi f a) (gi f b))
theorem step_len (f : List Int) (a b : Nat) : (step f a b).length = f.length := by unfold step; simp
theorem step_gi {f : List Int} {a b : Nat} (ha : a < f.length) (hb : b < f.length) (i : Nat) : gi (step f a b) i = if i = a ∨ i = b then min (gi f a) (gi f b) else gi f i := by
  unfold step
  rw [gi_set, gi_set]
  simp only [List.length_set]
  by_cases h1 : b = i
  · subst h1; rw [if_pos ⟨rfl, hb⟩, if_pos (.inr rfl)]
  · rw [if_neg (fun h => h1 h.1)]
    by_cases h2 : a = i
    · subst h2; rw [if_pos ⟨rfl, ha⟩, if_pos (.inl rfl)]
    · rw [if_neg (fun h => h2 h.1), if_neg (by omega)]
theorem step_pre {s : Survey} (hs : SvOk s) {j : Nat} {f : List Int} (h : Pre s j f) {i : Nat} (hi : i < j) (hi2 : i < s.readings.length) (hne : gi f (gr s.readings i).from_.toNat ≠ gi f (gr s.readings i).to_.toNat) :
    Pre s j (step f (gr s.readings i).from_.toNat (gr s.readings i).to_.toNat) ∧ tot (step f (gr s.readings i).from_.toNat (gr s.readings i).to_.toNat) < tot f := by
  have hr := gr_ok hs hi2
  have hl := h.len
  have ha : (gr s.readings i).from_.toNat < f.length := by omega
  have hb : (gr s.readings i).to_.toNat < f.length := by omega
  have hab : (gr s.readings i).from_.toNat ≠ (gr s.readings i).to_.toNat := by omega
  have ca := h.con _ ha
  have cb := h.con _ hb
  rw [show (((gr s.readings i).from_.toNat : Nat) : Int) = (gr s.readings i).from_ by omega] at ca
  rw [show (((gr s.readings i).to_.toNat : Nat) : Int) = (gr s.readings i).to_ by omega] at cb
  have ce : Con s j (gr s.readings i).from_ (gr s.readings i).to_ := .edge hi hi2
  have la := h.le _ ha
  have lb := h.le _ hb
  constructor
  · refine ⟨by rw [step_len, hl], fun q hq => ?_, fun q hq => ?_⟩
    · rw [step_len] at hq
      have := h.le q hq
      rw [step_gi ha hb]
      split
      · rename_i e
        rcases e with e | e <;> subst e <;> omega
      · exact this
    · rw [step_len] at hq
      rw [step_gi ha hb]
      split
      · rename_i e
        have cm : Con s j (min (gi f (gr s.readings i).from_.toNat) (gi f (gr s.readings i).to_.toNat)) (gr s.readings i).from_ := by
          rcases Int.le_total (gi f (gr s.readings i).from_.toNat) (gi f (gr s.readings i).to_.toNat) with h | h
          · rw [show min (gi f (gr s.readings i).from_.toNat) (gi f (gr s.readings i).to_.toNat) = gi f (gr s.readings i).from_.toNat by omega]; exact ca
          · rw [show min (gi f (gr s.readings i).from_.toNat) (gi f (gr s.readings i).to_.toNat) = gi f (gr s.readings i).to_.toNat by omega]; exact cb.trans ce.symm
        rcases e with e | e
        · rw [e, show (((gr s.readings i).from_.toNat : Nat) : Int) = (gr s.readings i).from_ by omega]; exact cm
        · rw [e, show (((gr s.readings i).to_.toNat : Nat) : Int) = (gr s.readings i).to_ by omega]; exact cm.trans ce
      · exact h.con q hq
  · have t1 := tot_set (l := f) (x := min (gi f (gr s.readings i).from_.toNat) (gi f (gr s.readings i).to_.toNat)) ha
    have t2 := tot_set (l := f.set (gr s.readings i).from_.toNat (min (gi f (gr s.readings i).from_.toNat) (gi f (gr s.readings i).to_.toNat))) (x := min (gi f (gr s.readings i).from_.toNat) (gi f (gr s.readings i).to_.toNat)) (i := (gr s.readings i).to_.toNat) (by rw [List.length_set]; exact hb)
    rw [gi_set, if_neg (fun h => hab h.1)] at t2
    unfold step
    omega
/-- One round of the document's search. -/
theorem round_eq {s : Survey} (hs : SvOk s) {j : Nat} (hj : j ≤ s.readings.length) (rec2 : Bool → List Int → Option (List Int)) : ∀ (d i k : Nat) (f : List Int) (b : Bool), j = i + d → d < k → Pre s j f → (b = false → ∀ q, q < i → gi f (gr s.readings q).from_.toNat = gi f (gr s.readings q).to_.toNat) →
    ∃ f' b', ref01_roots_L1 s (j : Int) rec2 k b (i : Int) f = rec2 b' f' ∧ Pre s j f' ∧ tot f' ≤ tot f ∧ (b = true → b' = true) ∧ (b = false → b' = true → tot f' < tot f) ∧ (b' = false → Roots s j f')
  | 0, i, k + 1, f, b, hd, hk, hP, hb => by
    have h8 := hs.len
    refine ⟨f, b, ?_, hP, Nat.le_refl _, id, (fun h1 h2 => by rw [h1] at h2; cases h2), fun h => ⟨hP.len, hP.le, hP.con, fun q hq hq2 => hb h q (by omega)⟩⟩
    show ref01_roots_B1 s (j : Int) rec2 (ref01_roots_L1 s (j : Int) rec2 k) b _ f = _
    unfold ref01_roots_B1
    rw [if_neg (by omega)]
  | d + 1, i, k + 1, f, b, hd, hk, hP, hb => by
    have h8 := hs.len
    have hi2 : i < s.readings.length := by omega
    have hr := gr_ok hs hi2
    have hl := hP.len
    have hA : f[(gr s.readings i).from_.toNat]? = some (gi f (gr s.readings i).from_.toNat) := gi_at (by omega)
    have hB : f[(gr s.readings i).to_.toNat]? = some (gi f (gr s.readings i).to_.toNat) := gi_at (by omega)
    have e : ref01_roots_L1 s (j : Int) rec2 (k + 1) b (i : Int) f = ref01_roots_B1 s (j : Int) rec2 (ref01_roots_L1 s (j : Int) rec2 k) b (i : Int) f := rfl
    rw [e]
    unfold ref01_roots_B1 ref01_roots_k2
    rw [if_pos (by omega), ix_nat (gr_at hi2), ix_nat (gr_at hi2), ix_eq hr.1.1 hA, ix_eq hr.2.1.1 hB]
    by_cases he : gi f (gr s.readings i).from_.toNat = gi f (gr s.readings i).to_.toNat
    · rw [if_pos he, gd_pos (by omega)]
      exact round_eq hs hj rec2 d (i + 1) k f b (by omega) (by omega) hP (fun h q hq => by
        by_cases e : q = i
        · subst e; exact he
        · exact hb h q (by omega))
    · rw [if_neg he, ix_eq hr.1.1 hA, ix_eq hr.2.1.1 hB, ix_eq hr.1.1 hA]
      have ⟨s1, s2⟩ := step_pre hs hP (i := i) (by omega) hi2 he
      have hX : (f.set (gr s.readings i).from_.toNat (min (gi f (gr s.readings i).from_.toNat) (gi f (gr s.readings i).to_.toNat)))[(gr s.readings i).to_.toNat]? = some (gi (f.set (gr s.readings i).from_.toNat (min (gi f (gr s.readings i).from_.toNat) (gi f (gr s.readings i).to_.toNat))) (gr s.readings i).to_.toNat) := gi_at (by rw [List.length_set]; omega)
      rw [ix_eq hr.2.1.1 hX, gd_pos (by omega)]
      obtain ⟨f', b', q1, q2, q3, q4, q5, q6⟩ := round_eq hs hj rec2 d (i + 1) k (step f (gr s.readings i).from_.toNat (gr s.readings i).to_.toNat) true (by omega) (by omega) s1 (fun h => by cases h)
      exact ⟨f', b', q1, q2, by omega, fun _ => q4 rfl, fun _ _ => by omega, q6⟩
theorem rounds_eq {s : Survey} (hs : SvOk s) {j : Nat} (hj : j ≤ s.readings.length) : ∀ (q k : Nat) (f : List Int), tot f < q → q < k → Pre s j f → ref01_roots_L2 s (j : Int) k true f = some (firsts s j)
  | 0, k, f, hq, _, _ => by omega
  | q + 1, k + 1, f, hq, hk, hP => by
    have e : ref01_roots_L2 s (j : Int) (k + 1) true f = ref01_roots_B2 s (j : Int) (ref01_roots_L2 s (j : Int) k) true f := rfl
    rw [e]
    unfold ref01_roots_B2
    rw [if_pos rfl]
    obtain ⟨f', b', q1, q2, q3, q4, q5, q6⟩ := round_eq hs hj (ref01_roots_L2 s (j : Int) k) j 0 FU f false (by omega) (by have := FU_pos; have := hs.len; omega) hP (fun _ q hq => by omega)
    have q1' : ref01_roots_L1 s (j : Int) (ref01_roots_L2 s (j : Int) k) FU false 0 f = ref01_roots_L2 s (j : Int) k b' f' := q1
    rw [q1']
    cases b' with
    | true => exact rounds_eq hs hj q k f' (by have := q5 rfl rfl; omega) (by omega) q2
    | false =>
      cases k with
      | zero => omega
      | succ k =>
        show ref01_roots_B2 s (j : Int) (ref01_roots_L2 s (j : Int) k) false f' = _
        unfold ref01_roots_B2 ref01_roots_k1
        rw [if_neg (by simp), (q6 rfl).uniq hs (firsts_ok hs j hj)]
theorem roots_eq {s : Survey} (hs : SvOk s) {j : Nat} (hj : j ≤ s.readings.length) : ref01_roots s (j : Int) = some (firsts s j) := by
  have hp := hs.p1
  have hp5 := hs.p5
  have h8 := hs.len
  unfold ref01_roots
  rw [gd_pos (by omega)]
  refine for0 s.points.toNat (fun i => iota i ++ List.replicate (s.points.toNat - i) 0) (fun k l i => ref01_roots_L3 s (j : Int) k i l) _ (by simp [iota]) (fun k i hi => ?_) (fun k => ?_) (by omega)
  · show ref01_roots_B3 s (j : Int) (ref01_roots_L3 s (j : Int) k) _ _ = _
    have hil := iota_len i
    have hx : (iota i ++ List.replicate (s.points.toNat - i) 0)[i]? = some 0 := by
      rw [List.getElem?_append_right (by omega), hil, Nat.sub_self, List.getElem?_replicate, if_pos (by omega)]
    have hn : iota (i + 1) ++ List.replicate (s.points.toNat - (i + 1)) 0 = (iota i ++ List.replicate (s.points.toNat - i) 0).set i (i : Int) := by
      rw [List.set_append_right _ _ (by omega), hil, Nat.sub_self, show s.points.toNat - i = (s.points.toNat - (i + 1)) + 1 by omega, List.replicate_succ, List.set_cons_zero, iota_succ]; simp
    unfold ref01_roots_B3
    rw [if_pos (by omega), ix_nat hx, gd_pos (by omega), hn]; rfl
  · show ref01_roots_B3 s (j : Int) (ref01_roots_L3 s (j : Int) k) _ _ = _
    unfold ref01_roots_B3 ref01_roots_k3
    rw [if_neg (by omega), Nat.sub_self, List.replicate_zero, List.append_nil]
    have h0 := firsts_ok hs 0 (by omega)
    have hP : Pre s j (iota s.points.toNat) := ⟨h0.len, h0.le, fun i hi => (h0.con i hi).mono (Nat.zero_le _)⟩
    have ht : tot (iota s.points.toNat) ≤ 5 * (iota s.points.toNat).length := tot_le fun x hx => by
      obtain ⟨q, hq⟩ := List.getElem?_of_mem hx
      have := hP.le q (lt_of_at hq)
      have := hP.len
      have := lt_of_at hq
      rw [gi_of hq] at *
      omega
    rw [iota_len] at ht
    exact rounds_eq hs hj 100 FU _ (by omega) (by have := FU_pos; omega) hP
end Go.D1

set_option linter.unusedVariables false
set_option linter.unusedSimpArgs false
namespace Go.D1
open Go.Tb
def nodesOf (n : Nat) (p : Int → Bool) : List Int := (iota n).filter p
theorem nodesOf_len (n : Nat) (p : Int → Bool) : (nodesOf n p).length ≤ n := by
  have := List.length_filter_le p (iota n)
  rw [iota_len] at this
  exact this
theorem nodesOf_succ (n : Nat) (p : Int → Bool) : nodesOf (n + 1) p = nodesOf n p ++ (if p (n : Int) = true then [(n : Int)] else []) := by
  unfold nodesOf
  rw [iota_succ, List.filter_append]
  congr 1
  by_cases h : p (n : Int) = true
  · rw [if_pos h, List.filter_cons, if_pos h]; rfl
  · rw [if_neg h, List.filter_cons, if_neg h]; rfl
/-- The points of a part. -/
def partOf (f : List Int) (i : Int) : List Int := nodesOf f.length fun k => decide (gi f k.toNat = i)
def isRoot (f : List Int) (i : Int) : Bool := decide (gi f i.toNat = i)
def partsL (f : List Int) (j : Nat) : List (List Int) := (nodesOf j (isRoot f)).map (partOf f)
theorem partsL_succ (f : List Int) (j : Nat) : partsL f (j + 1) = partsL f j ++ (if gi f j = (j : Int) then [partOf f (j : Int)] else []) := by
  unfold partsL
  rw [nodesOf_succ, List.map_append]
  congr 1
  by_cases h : gi f j = (j : Int)
  · rw [if_pos h, if_pos (show isRoot f (j : Int) = true from decide_eq_true h)]; rfl
  · rw [if_neg h, if_neg (by unfold isRoot; simpa using h)]; rfl
theorem partsL_len (f : List Int) (j : Nat) : (partsL f j).length ≤ j := by
  unfold partsL
  rw [List.length_map]
  exact nodesOf_len _ _
def rootsOf (s : Survey) : List Int := firsts s s.readings.length
theorem rootsOf_ok {s : Survey} (hs : SvOk s) : Roots s s.readings.length (rootsOf s) := firsts_ok hs _ (Nat.le_refl _)
def partsR (s : Survey) : List (List Int) := partsL (rootsOf s) s.points.toNat
theorem parts_eq {s : Survey} (hs : SvOk s) : level_parts s = some (partsR s) := by
  have hp := hs.p1
  have hp5 := hs.p5
  have hf := rootsOf_ok hs
  have hfl := hf.len
  unfold level_parts
  rw [bnd_eq (forest_eq hs)]
  show level_parts_L2 (rootsOf s, _) FU 0 [] = _
  refine for0 s.points.toNat (partsL (rootsOf s)) (fun k l i => level_parts_L2 (rootsOf s, treeL s s.readings.length) k i l) _ rfl (fun k i hi => ?_) (fun k => ?_) (by omega)
  · show level_parts_B2 (rootsOf s, treeL s s.readings.length) (level_parts_L2 (rootsOf s, treeL s s.readings.length) k) _ _ = _
    have hx : (rootsOf s)[i]? = some (gi (rootsOf s) i) := gi_at (by omega)
    have hpl := partsL_len (rootsOf s) i
    unfold level_parts_B2 level_parts_k2
    rw [if_pos (by simp only; omega), ix_nat hx, partsL_succ]
    by_cases he : gi (rootsOf s) i = (i : Int)
    · rw [if_pos he, if_pos he]
      refine for0 (rootsOf s).length (fun q => nodesOf q fun k => decide (gi (rootsOf s) k.toNat = (i : Int))) (fun k' l q => level_parts_L1 (rootsOf s, treeL s s.readings.length) (i : Int) (partsL (rootsOf s) i) (level_parts_L2 (rootsOf s, treeL s s.readings.length) k) k' q l) _ rfl (fun k' q hq => ?_) (fun k' => ?_) (by omega)
      · have hll := nodesOf_len q fun k => decide (gi (rootsOf s) k.toNat = (i : Int))
        show level_parts_B1 _ _ _ _ (level_parts_L1 _ _ _ _ k') _ _ = _
        unfold level_parts_B1 level_parts_k4
        rw [if_pos (by simp only; omega), ix_nat (gi_at hq), nodesOf_succ]
        by_cases h2 : gi (rootsOf s) q = (i : Int)
        · rw [if_pos h2, gd_pos (by simp; omega), gd_pos (by omega), if_pos (show decide (gi (rootsOf s) ((q : Int)).toNat = (i : Int)) = true from decide_eq_true h2)]; rfl
        · rw [if_neg h2, gd_pos (by omega), if_neg (show ¬ decide (gi (rootsOf s) ((q : Int)).toNat = (i : Int)) = true by simpa using h2), List.append_nil]; rfl
      · show level_parts_B1 _ _ _ _ (level_parts_L1 _ _ _ _ k') _ _ = _
        unfold level_parts_B1 level_parts_k3 level_parts_k2
        rw [if_neg (by simp only; omega), gd_pos (by omega), gd_pos (by omega)]; rfl
    · rw [if_neg he, if_neg he, gd_pos (by omega), List.append_nil]; rfl
  · show level_parts_B2 (rootsOf s, treeL s s.readings.length) (level_parts_L2 (rootsOf s, treeL s s.readings.length) k) _ _ = _
    unfold level_parts_B2
    rw [if_neg (by simp only; omega)]; rfl
theorem whole_eq {s : Survey} (hs : SvOk s) : ref01_whole s = some (rootsOf s) := by
  unfold ref01_whole
  rw [bnd_eq (roots_eq hs (Nat.le_refl _))]; rfl
end Go.D1
