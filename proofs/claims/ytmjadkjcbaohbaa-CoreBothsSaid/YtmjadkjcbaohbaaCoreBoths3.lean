/- Lemmas and walks that the proof of this claim uses: D3m4, D3m5, D3m7D, D3m7, Tb23, Tb24, Tb25, Tb26, Tb28, Tb29, Tb30, Tb31, Tb32, Tb33, Tb34, D3n1D, D3n2D, D3n1, D3n2, Tb22, TbCoreSpec6, D3p1, D3p2, D3p3, D3p5, D3p6. -/
import Derived.Test.YtmjadkjcbaohbaaCoreBoths2
set_option linter.unusedVariables false
set_option linter.unusedSimpArgs false
namespace Go.D3
open Go.Tb Go.Proofs Go.RowKit Go.Core
theorem Tc37 : callable Try.prog 37 = true := by kernel_rfl
theorem Tc67 : callable Try.prog 67 = true := by kernel_rfl
theorem Tc85 : callable Try.prog 85 = true := by kernel_rfl
theorem Tc86 : callable Try.prog 86 = true := by kernel_rfl
theorem Tc94 : callable Try.prog 94 = true := by kernel_rfl
set_option maxRecDepth 20000 in
set_option maxHeartbeats 1000000 in
theorem slices_IndexFunc_int_ok {a0 : List Int} {a1 : Int → Option Bool} {A_a0 : Option Addr} {c_a0 : Nat} {f_a1 : Nat} {p_a1 : Array Value} {q_a1 : Array Value} {w : World} {res : Int} (h_a0 : Sl w A_a0 c_a0 1 (a0.map encN)) (h_a1 : ∀ (x2 : Int) (r : Bool), a1 x2 = some r → ∀ w1, Ext w w1 → CallsV Try.prog f_a1 p_a1 q_a1 #[.int .i64 x2] w1 (Rt w1 (.bool r))) (F : slices_IndexFunc_int a0 a1 = some res) : Calls Try.prog 94 #[.slice A_a0 a0.length c_a0, .func (.func f_a1) p_a1 q_a1] w (Rt w (.int .i64 res)) := by
  refine calls_of_cw (args := [.slice A_a0 a0.length c_a0, .func (.func f_a1) p_a1 q_a1]) Try.func94 rfl rfl rfl rfl ?_
  have H := Hp.start w
  have R0 := H.ext
  unfold slices_IndexFunc_int at F
  refine CW.seq fun K1 hK1 => ?_
  refine CW.region ?_
  refine LW.pure rfl rfl (RV.assign rfl) ?_
  refine LW.nil (hK1 _ _ ?_)
  refine CW.seqJ (fun ρ wl1 => (slices_IndexFunc_int_k1 = some res ∧ ρ = [(4, .int .i64 0)] ∧ Hp w wl1 [])) ?_ ?_
  ·
    rintro _ wl1 ⟨F, rfl, H⟩
    have R0 := H.ext
    unfold slices_IndexFunc_int_k1 at F
    refine CW.seq fun K2 hK2 => ?_
    refine CW.region ?_
    refine LW.pure rfl rfl (RV.assign rfl) ?_
    refine LW.nil (hK2 _ _ ?_)
    refine CW.ret ?_
    obtain rfl := Option.some.inj F
    refine ⟨_, (ResOK.one rfl), ?_⟩
    refine ⟨(by first | rfl | simp), R0⟩
  ·
    intro K3 hK3 jK63
    refine CW.seq fun K4 hK4 => ?_
    refine CW.region ?_
    refine LW.pure rfl rfl (RV.move rfl) ?_
    refine LW.pure rfl rfl (RV.len Ts43 rfl) ?_
    refine LW.pure rfl rfl (RV.move rfl) ?_
    refine LW.nil (hK4 _ _ ?_)
    refine CW.block ?_
    refine CW.loop (fun meas ρ wl2 => ∃ (t8_1 : Int), slices_IndexFunc_int_L1 a0 a1 meas t8_1 = some res ∧ ρ = [(0, .slice A_a0 a0.length c_a0), (1, .func (.func f_a1) p_a1 q_a1), (4, .int .i64 0), (7, .int .i64 ((a0.length : Int))), (8, .int .i64 t8_1)] ∧ Hp w wl2 []) FU ⟨_, ?_, ((0 : Int)), F, rfl, H⟩ ?_
    · exact ⟨rfl, rfl, rfl, rfl, rfl, trivial⟩
    rintro mk1 _ wl2 ⟨t8_1, F, rfl, H⟩
    have R0 := H.ext
    replace F := slices_IndexFunc_int_L1_s F
    obtain ⟨mk1, rfl, F⟩ := F
    generalize hrec1 : slices_IndexFunc_int_L1 a0 a1 mk1 = rec1 at F
    unfold slices_IndexFunc_int_B1 at F
    refine CW.seq fun K5 hK5 => ?_
    refine CW.region ?_
    refine LW.pure rfl rfl (RV.lss rfl rfl) ?_
    refine LW.nil (hK5 _ _ ?_)
    refine CW.seq fun K6 hK6 => ?_
    by_cases hp1 : t8_1 < ((a0.length : Int))
    ·
      replace F := ite_y hp1 F
      have hq1 := dec_t hp1
      refine CW.condT rfl hq1 ?_
      refine CW.skip (hK6 _ _ ?_)
      refine CW.seq fun K7 hK7 => ?_
      refine CW.block ?_
      refine CW.seq fun K8 hK8 => ?_
      refine CW.region ?_
      refine LW.pure rfl rfl (RV.move rfl) ?_
      refine LW.pure rfl rfl (RV.assign rfl) ?_
      refine LW.nil (hK8 _ _ ?_)
      refine CW.seq fun K9 hK9 => ?_
      obtain ⟨x1, hbx1, hx1, F⟩ := ix_some F
      obtain ⟨r1, hr1, F⟩ := bnd_some F
      refine CW.region ?_
      refine LW.pure rfl rfl (RV.move rfl) ?_
      refine LW.pure rfl rfl (RV.move rfl) ?_
      refine LW.pure rfl rfl (RV.move rfl) ?_
      refine LW.pure rfl rfl (RV.indexAddr Ts43 rfl rfl hbx1 (h_a0.addr_ hx1)) ?_
      refine LW.pure rfl rfl (RV.load1 Tk3 rfl ((h_a0.at_ hx1).ext R0) rfl) ?_
      refine LW.go rfl rfl (OW.callV2 rfl rfl rfl (h_a1 _ _ hr1 _ R0) ?_)
      rintro _ w2 ⟨rfl, E1⟩
      refine ⟨_, rfl, ?_⟩
      replace H := H.grow E1
      replace R0 := H.ext
      refine LW.nil (hK9 _ _ ?_)
      by_cases hp2 : r1 = true
      ·
        replace F := ite_y hp2 F
        have hq2 : r1 = true := hp2
        refine CW.condT rfl hq2 ?_
        refine CW.seq fun K10 hK10 => ?_
        refine CW.region ?_
        refine LW.pure rfl rfl (RV.move rfl) ?_
        refine LW.pure rfl rfl (RV.assign rfl) ?_
        refine LW.nil (hK10 _ _ ?_)
        refine CW.ret ?_
        obtain rfl := Option.some.inj F
        refine ⟨_, (ResOK.one rfl), ?_⟩
        refine ⟨(by first | rfl | simp), R0⟩
      ·
        replace F := ite_n hp2 F
        have hq2 : r1 = false := raw_f hp2
        refine CW.condF rfl hq2 ?_
        refine CW.skip (hK7 _ _ ?_)
        obtain ⟨hg1, F⟩ := gd_some F
        refine CW.region ?_
        refine LW.pure rfl rfl (RV.add rfl rfl hg1) ?_
        refine LW.pure rfl rfl (RV.move rfl) ?_
        refine LW.nil ?_
        subst hrec1
        refine ⟨mk1, Nat.lt_succ_self _, _, ?_, (t8_1 + 1), F, rfl, H⟩
        exact ⟨rfl, rfl, rfl, rfl, rfl, trivial⟩
    ·
      replace F := ite_n hp1 F
      have hq1 := dec_f hp1
      refine CW.condF rfl hq1 ?_
      refine CW.exit (jK63 _ _ ⟨_, ?_, ⟨F, rfl, H⟩⟩)
      exact ⟨rfl, trivial⟩
set_option maxRecDepth 20000 in
set_option maxHeartbeats 1000000 in
theorem slices_ContainsFunc_int_ok {a0 : List Int} {a1 : Int → Option Bool} {A_a0 : Option Addr} {c_a0 : Nat} {f_a1 : Nat} {p_a1 : Array Value} {q_a1 : Array Value} {w : World} {res : Bool} (h_a0 : Sl w A_a0 c_a0 1 (a0.map encN)) (h_a1 : ∀ (x0 : Int) (r : Bool), a1 x0 = some r → ∀ w1, Ext w w1 → CallsV Try.prog f_a1 p_a1 q_a1 #[.int .i64 x0] w1 (Rt w1 (.bool r))) (F : slices_ContainsFunc_int a0 a1 = some res) : Calls Try.prog 85 #[.slice A_a0 a0.length c_a0, .func (.func f_a1) p_a1 q_a1] w (Rt w (.bool res)) := by
  refine calls_of_cw (args := [.slice A_a0 a0.length c_a0, .func (.func f_a1) p_a1 q_a1]) Try.func85 rfl rfl rfl rfl ?_
  have H := Hp.start w
  have R0 := H.ext
  unfold slices_ContainsFunc_int at F
  refine CW.seq fun K1 hK1 => ?_
  refine CW.region ?_
  refine LW.pure rfl rfl (RV.assign rfl) ?_
  refine LW.nil (hK1 _ _ ?_)
  refine CW.seq fun K2 hK2 => ?_
  obtain ⟨r1, hr1, F⟩ := bnd_some F
  refine CW.region ?_
  refine LW.pure rfl rfl (RV.move rfl) ?_
  refine LW.pure rfl rfl (RV.move rfl) ?_
  refine LW.go rfl rfl (OW.call Tc94 rfl (slices_IndexFunc_int_ok (a0 := a0) (a1 := a1) (h_a0.ext R0) (fun x0 r hF w1 hE => h_a1 x0 r hF w1 (R0.trans hE)) hr1) ?_)
  rintro _ w2 ⟨rfl, E1⟩
  refine ⟨_, rfl, ?_⟩
  replace H := H.grow E1
  replace R0 := H.ext
  refine LW.pure rfl rfl (RV.geq rfl rfl) ?_
  refine LW.pure rfl rfl (RV.assign rfl) ?_
  refine LW.nil (hK2 _ _ ?_)
  refine CW.ret ?_
  obtain rfl := Option.some.inj F
  refine ⟨_, (ResOK.one rfl), ?_⟩
  refine ⟨(by first | rfl | simp), R0⟩
set_option maxRecDepth 20000 in
set_option maxHeartbeats 1000000 in
theorem core_dated_1_ok {a0 : Int} {w : World} {res : Bool} (F : core_dated_1 a0 = some res) : Calls Try.prog 86 #[.int .i64 a0] w (Rt w (.bool res)) := by
  refine calls_of_cw (args := [.int .i64 a0]) Try.func86 rfl rfl rfl rfl ?_
  have H := Hp.start w
  have R0 := H.ext
  unfold core_dated_1 at F
  refine CW.seq fun K1 hK1 => ?_
  refine CW.region ?_
  refine LW.pure rfl rfl (RV.assign rfl) ?_
  refine LW.nil (hK1 _ _ ?_)
  refine CW.seq fun K2 hK2 => ?_
  obtain ⟨r1, hr1, F⟩ := bnd_some F
  refine CW.region ?_
  refine LW.pure rfl rfl (RV.move rfl) ?_
  refine LW.go rfl rfl (OW.call Tc70 rfl (core_within_ok (a0 := a0) (a1 := (-1000000 : Int)) (a2 := (1000000 : Int)) hr1) ?_)
  rintro _ w1 ⟨rfl, E1⟩
  refine ⟨_, rfl, ?_⟩
  replace H := H.grow E1
  replace R0 := H.ext
  refine LW.pure rfl rfl (RV.not rfl) ?_
  refine LW.pure rfl rfl (RV.assign rfl) ?_
  refine LW.nil (hK2 _ _ ?_)
  refine CW.ret ?_
  obtain rfl := Option.some.inj F
  refine ⟨_, (ResOK.one rfl), ?_⟩
  refine ⟨(by first | rfl | simp), R0⟩
set_option maxRecDepth 20000 in
set_option maxHeartbeats 1000000 in
theorem core_dated_ok {a0 : Core} {a1 : List Int} {A_a0_bounds : Option Addr} {c_a0_bounds : Nat} {A_a1 : Option Addr} {c_a1 : Nat} {w : World} {res : Int} (h_a0_bounds : Sl w A_a0_bounds c_a0_bounds 3 (a0.bounds.map encBound)) (h_a1 : Sl w A_a1 c_a1 1 (a1.map encN)) (F : core_dated a0 a1 = some res) : Calls Try.prog 67 #[.agg #[.int .i64 a0.layers, .slice A_a0_bounds a0.bounds.length c_a0_bounds], .slice A_a1 a1.length c_a1] w (Rt w (.int .i64 res)) := by
  refine calls_of_cw (args := [.agg #[.int .i64 a0.layers, .slice A_a0_bounds a0.bounds.length c_a0_bounds], .slice A_a1 a1.length c_a1]) Try.func67 rfl rfl rfl rfl ?_
  have H := Hp.start w
  have R0 := H.ext
  unfold core_dated at F
  refine CW.seq fun K1 hK1 => ?_
  refine CW.region ?_
  refine LW.go rfl rfl (OW.box rfl fun b1 w1 N1 => ?_)
  replace H := H.new N1 N1.blk
  replace R0 := H.ext
  refine LW.pure rfl rfl (RV.assign rfl) ?_
  refine LW.nil (hK1 _ _ ?_)
  refine CW.seq fun K2 hK2 => ?_
  refine CW.seq fun K3 hK3 => ?_
  obtain ⟨r1, hr1, F⟩ := bnd_some F
  refine CW.region ?_
  refine LW.pure rfl rfl (RV.loadA [.int .i64 a0.layers, .slice A_a0_bounds a0.bounds.length c_a0_bounds] Tk24 rfl (H.blk 0 rfl).cells rfl rfl) ?_
  refine LW.go rfl rfl (OW.call Tc36 rfl (core_Validate_ok (a0 := a0) (h_a0_bounds.ext R0) hr1) ?_)
  rintro _ w2 ⟨rfl, E1⟩
  refine ⟨_, rfl, ?_⟩
  replace H := H.grow E1
  replace R0 := H.ext
  refine LW.pure rfl rfl (RV.assign rfl) ?_
  refine LW.nil (hK3 _ _ ?_)
  refine CW.seq fun K4 hK4 => ?_
  refine CW.region ?_
  refine LW.pure rfl rfl (RV.move rfl) ?_
  refine LW.pure rfl rfl (RV.nei rfl rfl) ?_
  refine LW.nil (hK4 _ _ ?_)
  by_cases hp1 : r1 = 0
  ·
    replace F := ite_y hp1 F
    have hq1 := dec_t hp1
    refine CW.condF rfl (not_f hq1) ?_
    refine CW.skip (hK2 _ _ ?_)
    refine CW.seq fun K5 hK5 => ?_
    refine CW.seqJ (fun ρ wl1 => (∃ (t19_1 : Bool), core_dated_k1 t19_1 = some res ∧ ρ = [(4, .int .i64 0), (19, .bool t19_1)] ∧ Hp w wl1 [])) ?_ ?_
    ·
      rintro _ wl1 ⟨t19_1, F, rfl, H⟩
      have R0 := H.ext
      unfold core_dated_k1 at F
      by_cases hp2 : t19_1 = true
      ·
        replace F := ite_y hp2 F
        have hq2 : t19_1 = true := hp2
        refine CW.condT rfl hq2 ?_
        refine CW.seq fun K6 hK6 => ?_
        refine CW.region ?_
        refine LW.pure rfl rfl (RV.assign rfl) ?_
        refine LW.nil (hK6 _ _ ?_)
        refine CW.ret ?_
        obtain rfl := Option.some.inj F
        refine ⟨_, (ResOK.one rfl), ?_⟩
        refine ⟨(by first | rfl | simp), R0⟩
      ·
        replace F := ite_n hp2 F
        have hq2 : t19_1 = false := raw_f hp2
        refine CW.condF rfl hq2 ?_
        refine CW.skip (hK5 _ _ ?_)
        refine CW.seq fun K7 hK7 => ?_
        refine CW.region ?_
        refine LW.pure rfl rfl (RV.assign rfl) ?_
        refine LW.nil (hK7 _ _ ?_)
        refine CW.ret ?_
        obtain rfl := Option.some.inj F
        refine ⟨_, (ResOK.one rfl), ?_⟩
        refine ⟨(by first | rfl | simp), R0⟩
    ·
      intro K8 hK8 jK17
      by_cases hp3 : ((a1.length : Int)) = a0.layers
      ·
        replace F := ite_y hp3 F
        have hq3 := dec_t hp3
        obtain ⟨r2, hr2, F⟩ := bnd_some F
        refine CW.region ?_
        refine LW.pure rfl rfl (RV.move rfl) ?_
        refine LW.pure rfl rfl (RV.len Ts43 rfl) ?_
        refine LW.pure rfl rfl (RV.fieldAddr Tf24_0 rfl) ?_
        refine LW.pure rfl rfl (RV.load1 Tk3 rfl ((H.blk 0 rfl).cells.off 0) rfl) ?_
        refine LW.pure rfl rfl (RV.nei rfl rfl) ?_
        refine LW.pure rfl rfl (RV.move rfl) ?_
        refine LW.pureYB rfl rfl rfl rfl (not_f hq3) (RV.move rfl) ?_
        refine LW.yesB rfl rfl rfl rfl (not_f hq3) (OW.call Tc85 rfl (slices_ContainsFunc_int_ok (a0 := a1) (a1 := core_dated_1) (h_a1.ext R0) (fun x0 r hF w3 hE => CallsV.of Tc86 (core_dated_1_ok hF)) hr2) ?_)
        rintro _ w4 ⟨rfl, E2⟩
        refine ⟨_, rfl, ?_⟩
        replace H := H.grow E2
        replace R0 := H.ext
        refine LW.pure rfl rfl (RV.pickFB rfl (not_f hq3) rfl) ?_
        replace H := H.pick (L' := []) [] (by decide) rfl
        replace R0 := H.ext
        refine LW.nil (jK17 _ _ ⟨_, ?_, ⟨r2, F, rfl, H⟩⟩)
        exact ⟨rfl, rfl, trivial⟩
      ·
        replace F := ite_n hp3 F
        have hq3 := dec_f hp3
        refine CW.region ?_
        refine LW.pure rfl rfl (RV.move rfl) ?_
        refine LW.pure rfl rfl (RV.len Ts43 rfl) ?_
        refine LW.pure rfl rfl (RV.fieldAddr Tf24_0 rfl) ?_
        refine LW.pure rfl rfl (RV.load1 Tk3 rfl ((H.blk 0 rfl).cells.off 0) rfl) ?_
        refine LW.pure rfl rfl (RV.nei rfl rfl) ?_
        refine LW.pure rfl rfl (RV.move rfl) ?_
        refine LW.noB rfl rfl rfl rfl (ne_beq (v := true) (not_t hq3) rfl) ?_
        refine LW.noB rfl rfl rfl rfl (ne_beq (v := true) (not_t hq3) rfl) ?_
        refine LW.pure rfl rfl (RV.pickTB rfl (not_t hq3) rfl) ?_
        replace H := H.pick (L' := []) [] (by decide) rfl
        replace R0 := H.ext
        refine LW.nil (jK17 _ _ ⟨_, ?_, ⟨true, F, rfl, H⟩⟩)
        exact ⟨rfl, rfl, trivial⟩
  ·
    replace F := ite_n hp1 F
    have hq1 := dec_f hp1
    refine CW.condT rfl (not_t hq1) ?_
    refine CW.seq fun K9 hK9 => ?_
    refine CW.region ?_
    refine LW.pure rfl rfl (RV.move rfl) ?_
    refine LW.pure rfl rfl (RV.assign rfl) ?_
    refine LW.nil (hK9 _ _ ?_)
    refine CW.ret ?_
    obtain rfl := Option.some.inj F
    refine ⟨_, (ResOK.one rfl), ?_⟩
    refine ⟨(by first | rfl | simp), R0⟩
set_option maxRecDepth 20000 in
set_option maxHeartbeats 1000000 in
theorem core_CheckDates_ok {a0 : Core} {a1 : List Int} {A_a0_bounds : Option Addr} {c_a0_bounds : Nat} {A_a1 : Option Addr} {c_a1 : Nat} {w : World} {res : Int} (h_a0_bounds : Sl w A_a0_bounds c_a0_bounds 3 (a0.bounds.map encBound)) (h_a1 : Sl w A_a1 c_a1 1 (a1.map encN)) (F : core_CheckDates a0 a1 = some res) : Calls Try.prog 33 #[.agg #[.int .i64 a0.layers, .slice A_a0_bounds a0.bounds.length c_a0_bounds], .slice A_a1 a1.length c_a1] w (Rt w (.int .i64 res)) := by
  refine calls_of_cw (args := [.agg #[.int .i64 a0.layers, .slice A_a0_bounds a0.bounds.length c_a0_bounds], .slice A_a1 a1.length c_a1]) Try.func33 rfl rfl rfl rfl ?_
  have H := Hp.start w
  have R0 := H.ext
  unfold core_CheckDates at F
  refine CW.seq fun K1 hK1 => ?_
  refine CW.region ?_
  refine LW.go rfl rfl (OW.box rfl fun b1 w1 N1 => ?_)
  replace H := H.new N1 N1.blk
  replace R0 := H.ext
  refine LW.pure rfl rfl (RV.assign rfl) ?_
  refine LW.nil (hK1 _ _ ?_)
  refine CW.seq fun K2 hK2 => ?_
  refine CW.seq fun K3 hK3 => ?_
  obtain ⟨r1, hr1, F⟩ := bnd_some F
  refine CW.region ?_
  refine LW.pure rfl rfl (RV.loadA [.int .i64 a0.layers, .slice A_a0_bounds a0.bounds.length c_a0_bounds] Tk24 rfl (H.blk 0 rfl).cells rfl rfl) ?_
  refine LW.pure rfl rfl (RV.move rfl) ?_
  refine LW.go rfl rfl (OW.call Tc67 rfl (core_dated_ok (a0 := a0) (a1 := a1) (h_a0_bounds.ext R0) (h_a1.ext R0) hr1) ?_)
  rintro _ w2 ⟨rfl, E1⟩
  refine ⟨_, rfl, ?_⟩
  replace H := H.grow E1
  replace R0 := H.ext
  refine LW.pure rfl rfl (RV.assign rfl) ?_
  refine LW.nil (hK3 _ _ ?_)
  refine CW.seq fun K4 hK4 => ?_
  refine CW.region ?_
  refine LW.pure rfl rfl (RV.move rfl) ?_
  refine LW.pure rfl rfl (RV.nei rfl rfl) ?_
  refine LW.nil (hK4 _ _ ?_)
  by_cases hp1 : r1 = 0
  ·
    replace F := ite_y hp1 F
    have hq1 := dec_t hp1
    refine CW.condF rfl (not_f hq1) ?_
    refine CW.skip (hK2 _ _ ?_)
    refine CW.seqJ (fun ρ wl1 => (core_CheckDates_k1 = some res ∧ ρ = [(4, .int .i64 0)] ∧ Hp w wl1 [])) ?_ ?_
    ·
      rintro _ wl1 ⟨F, rfl, H⟩
      have R0 := H.ext
      unfold core_CheckDates_k1 at F
      refine CW.seq fun K5 hK5 => ?_
      refine CW.region ?_
      refine LW.pure rfl rfl (RV.assign rfl) ?_
      refine LW.nil (hK5 _ _ ?_)
      refine CW.ret ?_
      obtain rfl := Option.some.inj F
      refine ⟨_, (ResOK.one rfl), ?_⟩
      refine ⟨(by first | rfl | simp), R0⟩
    ·
      intro K6 hK6 jK70
      refine CW.seq fun K7 hK7 => ?_
      refine CW.region ?_
      refine LW.pure rfl rfl (RV.fieldAddr Tf24_1 rfl) ?_
      refine LW.pure rfl rfl (RV.load1 Tk22 rfl ((H.blk 0 rfl).cells.off 1) rfl) ?_
      refine LW.pure rfl rfl (RV.len Ts22 rfl) ?_
      refine LW.pure rfl rfl (RV.move rfl) ?_
      refine LW.nil (hK7 _ _ ?_)
      refine CW.block ?_
      replace H := H.pick (L' := []) [] (by decide) rfl
      replace R0 := H.ext
      refine CW.loop (fun meas ρ wl2 => ∃ (t17_1 : Int), core_CheckDates_L1 a0 a1 meas t17_1 = some res ∧ ρ = [(1, .slice A_a1 a1.length c_a1), (4, .int .i64 0), (15, .slice A_a0_bounds a0.bounds.length c_a0_bounds), (16, .int .i64 ((a0.bounds.length : Int))), (17, .int .i64 t17_1)] ∧ Hp w wl2 []) FU ⟨_, ?_, ((0 : Int)), F, rfl, H⟩ ?_
      · exact ⟨rfl, rfl, rfl, rfl, rfl, trivial⟩
      rintro mk1 _ wl2 ⟨t17_1, F, rfl, H⟩
      have R0 := H.ext
      replace F := core_CheckDates_L1_s F
      obtain ⟨mk1, rfl, F⟩ := F
      generalize hrec1 : core_CheckDates_L1 a0 a1 mk1 = rec1 at F
      unfold core_CheckDates_B1 at F
      refine CW.seq fun K8 hK8 => ?_
      refine CW.region ?_
      refine LW.pure rfl rfl (RV.lss rfl rfl) ?_
      refine LW.nil (hK8 _ _ ?_)
      refine CW.seq fun K9 hK9 => ?_
      by_cases hp2 : t17_1 < ((a0.bounds.length : Int))
      ·
        replace F := ite_y hp2 F
        have hq2 := dec_t hp2
        refine CW.condT rfl hq2 ?_
        refine CW.skip (hK9 _ _ ?_)
        refine CW.seq fun K10 hK10 => ?_
        refine CW.block ?_
        refine CW.seq fun K11 hK11 => ?_
        obtain ⟨x1, hbx1, hx1, F⟩ := ix_some F
        refine CW.region ?_
        refine LW.pure rfl rfl (RV.indexAddr Ts22 rfl rfl hbx1 (h_a0_bounds.addr_ hx1)) ?_
        refine LW.pure rfl rfl (RV.loadA [.int .i64 x1.a, .int .i64 x1.b, .int .i64 x1.most] Tk26 rfl ((h_a0_bounds.at_ hx1).ext R0) rfl rfl) ?_
        refine LW.go rfl rfl (OW.alloc Tz26 fun b2 w3 N2 => ?_)
        replace H := H.new N2 N2.blk
        replace R0 := H.ext
        refine LW.go rfl rfl (OW.store Tk26 rfl rfl (H.blk 0 rfl) (off := 0) (vs := [.int .i64 x1.a, .int .i64 x1.b, .int .i64 x1.most]) rfl rfl rfl rfl rfl fun w4 S1 => ?_)
        replace H : Hp w w4 [.blk b2 26 [.int .i64 x1.a, .int .i64 x1.b, .int .i64 x1.most]] := H.stored 0 rfl S1
        replace R0 := H.ext
        refine LW.nil (hK11 _ _ ?_)
        refine CW.seq fun K12 hK12 => ?_
        obtain ⟨x2, hbx2, hx2, F⟩ := ix_some F
        obtain ⟨x3, hbx3, hx3, F⟩ := ix_some F
        obtain ⟨hg1, F⟩ := gd_some F
        refine CW.draw [] (fun _ => True) (.cons 0 1 (.cons 1 1 (.cons 2 1 (.cons 3 1 (.cons 4 1 (.cons 5 1 (.cons 6 1 (.cons 7 1 (.cons 8 1 (.cons 9 1 (.cons 10 1 (.cons 11 1 (.cons 12 1 (.cons 13 1 .nil)))))))))))))) mixed (by kernel_rfl) fun w5 E2 => ?_
        replace H := H.grow E2
        replace R0 := H.ext
        refine DW.fix rfl rfl rfl (fun _ EQ => RV.move rfl) ?_
        refine DW.fix rfl rfl rfl (fun _ EQ => RV.fieldAddr Tf26_1 rfl) ?_
        refine DW.fix rfl rfl rfl (fun _ EQ => RV.load1 Tk3 rfl (((H.grow EQ).blk 0 rfl).cells.off 1) rfl) ?_
        refine DW.fix rfl rfl rfl (fun _ EQ => RV.indexAddr Ts43 rfl rfl hbx2 (h_a1.addr_ hx2)) ?_
        refine DW.fix rfl rfl rfl (fun _ EQ => RV.load1 Tk3 rfl ((h_a1.at_ hx2).ext (R0.trans EQ)) rfl) ?_
        refine DW.fix rfl rfl rfl (fun _ EQ => RV.move rfl) ?_
        refine DW.fix rfl rfl rfl (fun _ EQ => RV.fieldAddr Tf26_0 rfl) ?_
        refine DW.fix rfl rfl rfl (fun _ EQ => RV.load1 Tk3 rfl (((H.grow EQ).blk 0 rfl).cells.off 0) rfl) ?_
        refine DW.fix rfl rfl rfl (fun _ EQ => RV.indexAddr Ts43 rfl rfl hbx3 (h_a1.addr_ hx3)) ?_
        refine DW.fix rfl rfl rfl (fun _ EQ => RV.load1 Tk3 rfl ((h_a1.at_ hx3).ext (R0.trans EQ)) rfl) ?_
        refine DW.fix rfl rfl rfl (fun _ EQ => RV.sub rfl rfl hg1) ?_
        refine DW.fix rfl rfl rfl (fun _ EQ => RV.fieldAddr Tf26_2 rfl) ?_
        refine DW.fix rfl rfl rfl (fun _ EQ => RV.load1 Tk3 rfl (((H.grow EQ).blk 0 rfl).cells.off 2) rfl) ?_
        refine DW.fix rfl rfl rfl (fun _ EQ => RV.gtr rfl rfl) ?_
        refine DW.nil (hK12 _ _ ?_)
        by_cases hp3 : x1.most < (x2 - x3)
        ·
          replace F := ite_y hp3 F
          have hq3 := dec_t hp3
          refine CW.condT rfl hq3 ?_
          refine CW.seq fun K13 hK13 => ?_
          refine CW.region ?_
          refine LW.pure rfl rfl (RV.assign rfl) ?_
          refine LW.nil (hK13 _ _ ?_)
          refine CW.ret ?_
          obtain rfl := Option.some.inj F
          refine ⟨_, (ResOK.one rfl), ?_⟩
          refine ⟨(by first | rfl | simp), R0⟩
        ·
          replace F := ite_n hp3 F
          have hq3 := dec_f hp3
          refine CW.condF rfl hq3 ?_
          refine CW.skip (hK10 _ _ ?_)
          obtain ⟨hg2, F⟩ := gd_some F
          refine CW.region ?_
          refine LW.pure rfl rfl (RV.add rfl rfl hg2) ?_
          refine LW.pure rfl rfl (RV.move rfl) ?_
          refine LW.nil ?_
          replace H := H.pick (L' := []) [] (by decide) rfl
          replace R0 := H.ext
          subst hrec1
          refine ⟨mk1, Nat.lt_succ_self _, _, ?_, (t17_1 + 1), F, rfl, H⟩
          exact ⟨rfl, rfl, rfl, rfl, rfl, trivial⟩
      ·
        replace F := ite_n hp2 F
        have hq2 := dec_f hp2
        refine CW.condF rfl hq2 ?_
        refine CW.exit (jK70 _ _ ⟨_, ?_, ⟨F, rfl, H⟩⟩)
        exact ⟨rfl, trivial⟩
  ·
    replace F := ite_n hp1 F
    have hq1 := dec_f hp1
    refine CW.condT rfl (not_t hq1) ?_
    refine CW.seq fun K14 hK14 => ?_
    refine CW.region ?_
    refine LW.pure rfl rfl (RV.move rfl) ?_
    refine LW.pure rfl rfl (RV.assign rfl) ?_
    refine LW.nil (hK14 _ _ ?_)
    refine CW.ret ?_
    obtain rfl := Option.some.inj F
    refine ⟨_, (ResOK.one rfl), ?_⟩
    refine ⟨(by first | rfl | simp), R0⟩
end Go.D3

set_option linter.unusedVariables false
set_option linter.unusedSimpArgs false
namespace Go.D3
open Go.Tb Go.Proofs Go.RowKit Go.Core
theorem Tb4 : Try.prog.underlying 4 = some .bool := by kernel_rfl
theorem Tc17 : callable Try.prog 17 = true := by kernel_rfl
theorem Tc18 : callable Try.prog 18 = true := by kernel_rfl
theorem Tc33 : callable Try.prog 33 = true := by kernel_rfl
end Go.D3

set_option linter.unusedVariables false
namespace Go.D3
open Go.Tb Go.Core
def ref03_Copy (a0 : Core) : Option Core :=
  gd ((([] : List Bound)).length + a0.bounds.length ≤ 1000000) <|
  some ((⟨a0.layers, (([] : List Bound) ++ a0.bounds)⟩ : Core))
def ref03_SameBounds_k1 : Option Bool :=
  some true
def ref03_SameBounds_B1 (a0 : List Bound) (a1 : List Bound) (rec1 : Int → Option Bool) (t5_1 : Int) : Option Bool :=
  if t5_1 < ((a0.length : Int)) then
    ix a0 t5_1 fun x1 =>
    ix a1 t5_1 fun x2 =>
    if ((x1.a == x2.a) && (x1.b == x2.b) && (x1.most == x2.most)) = true then
      gd (InR (t5_1 + 1)) <|
      rec1 ((t5_1 + 1))
    else
      some false
  else
    ref03_SameBounds_k1
def ref03_SameBounds_L1 (a0 : List Bound) (a1 : List Bound) : Nat → Int → Option Bool
  | 0, _ => none
  | n_ + 1, t5_1 => ref03_SameBounds_B1 a0 a1 (ref03_SameBounds_L1 a0 a1 n_) t5_1
theorem ref03_SameBounds_L1_s {a0 : List Bound} {a1 : List Bound} {m_ : Nat} {t5_1 : Int} {res : Bool} (h : ref03_SameBounds_L1 a0 a1 m_ t5_1 = some res) : ∃ k, m_ = k + 1 ∧ ref03_SameBounds_B1 a0 a1 (ref03_SameBounds_L1 a0 a1 k) t5_1 = some res := by
  cases m_ with
  | zero => cases h
  | succ k => exact ⟨k, rfl, h⟩
def ref03_SameBounds (a0 : List Bound) (a1 : List Bound) : Option Bool :=
  if ((a0.length : Int)) = ((a1.length : Int)) then
    ref03_SameBounds_L1 a0 a1 FU (((0 : Int)))
  else
    some false
def ref03_Equal (a0 : Core) (a1 : Core) : Option Bool :=
  if a0.layers = a1.layers then
    bnd (ref03_SameBounds a0.bounds a1.bounds) fun r1 =>
    some r1
  else
    some false
end Go.D3

set_option linter.unusedVariables false
set_option linter.unusedSimpArgs false
namespace Go.D3
open Go.Tb Go.Proofs Go.RowKit Go.Core
theorem Tc32 : callable Try.prog 32 = true := by kernel_rfl
theorem Tc52 : callable Try.prog 52 = true := by kernel_rfl
theorem Tc55 : callable Try.prog 55 = true := by kernel_rfl
theorem Te26g : Try.prog.eqGuardType Try.prog.depth 26 = false := by kernel_rfl
theorem Te26 (a0 : Int) (a1 : Int) (a2 : Int) (b0 : Int) (b1 : Int) (b2 : Int) (w : World) : (Op.equalIn 10000 26 (.agg #[.int .i64 a0, .int .i64 a1, .int .i64 a2]) (.agg #[.int .i64 b0, .int .i64 b1, .int .i64 b2])).run Try.prog w = .ok ((a0 == b0) && (a1 == b1) && (a2 == b2)) w := by
  rw [run_equalIn_agg w 9999 26 _ _ (by kernel_rfl) (by kernel_rfl)]
  simp [Program.fieldsOf, Try.underlying26, Op.eqFields, go_sem]
  by_cases h0 : a0 = b0 <;> by_cases h1 : a1 = b1 <;> by_cases h2 : a2 = b2 <;> simp [h0, h1, h2]
set_option maxRecDepth 20000 in
set_option maxHeartbeats 1000000 in
theorem ref03_Copy_ok {a0 : Core} {A_a0_bounds : Option Addr} {c_a0_bounds : Nat} {w : World} {res : Core} (h_a0_bounds : Sl w A_a0_bounds c_a0_bounds 3 (a0.bounds.map encBound)) (F : ref03_Copy a0 = some res) : Calls Try.prog 55 #[.agg #[.int .i64 a0.layers, .slice A_a0_bounds a0.bounds.length c_a0_bounds]] w (fun e w' => ∃ (A0_bounds : Option Addr) (c0_bounds : Nat), e = .returned (.agg #[.int .i64 res.layers, .slice A0_bounds res.bounds.length c0_bounds]) ∧ Hp w w' [.own A0_bounds c0_bounds 26 3 (List.map encBound res.bounds)]) := by
  refine calls_of_cw (args := [.agg #[.int .i64 a0.layers, .slice A_a0_bounds a0.bounds.length c_a0_bounds]]) Try.func55 rfl rfl rfl rfl ?_
  have H := Hp.start w
  have R0 := H.ext
  unfold ref03_Copy at F
  refine CW.seq fun K1 hK1 => ?_
  refine CW.region ?_
  refine LW.go rfl rfl (OW.box rfl fun b1 w1 N1 => ?_)
  replace H := H.new N1 N1.blk
  replace R0 := H.ext
  refine LW.go rfl rfl (OW.alloc Tz24 fun b2 w2 N2 => ?_)
  replace H := H.new N2 N2.blk
  replace R0 := H.ext
  refine LW.nil (hK1 _ _ ?_)
  refine CW.seq fun K2 hK2 => ?_
  obtain ⟨hg1, F⟩ := gd_some F
  have H0 := H
  have hz : w2.heap.size ≤ w2.heap.size := Nat.le_refl _
  refine CW.draw [5, 7] (XB w2 [.blk b2 24 [.int .i64 0, .slice none 0 0], .blk b1 24 [.int .i64 a0.layers, .slice A_a0_bounds a0.bounds.length c_a0_bounds]] [0]) (.cons 0 2 (.cons 1 2 (.cons 3 2 (.cons 4 1 (.cons 2 0 (.cons 5 0 (.cons 6 2 (.cons 7 0 .nil)))))))) mixed (by kernel_rfl) fun w3 E1 => ?_
  replace H := H.grow E1
  replace R0 := H.ext
  replace hz := Nat.le_trans hz (Ext.size E1)
  refine DW.thru rfl rfl rfl (fun _ EQ => RV.fieldAddr Tf24_0 rfl) ?_
  refine DW.thru rfl rfl rfl (fun _ EQ => RV.load1 Tk3 rfl ((H.thruB 1 rfl EQ (H0.notX [0] 1 rfl (by decide))).cells.off 0) rfl) ?_
  refine DW.thru rfl rfl rfl (fun _ EQ => RV.fieldAddr Tf24_1 rfl) ?_
  refine DW.fix rfl rfl rfl (fun _ EQ => RV.load1 Tk22 rfl (((H.grow EQ).blk 1 rfl).cells.off 1) rfl) ?_
  refine DW.sole rfl rfl rfl (OW.buildSlice (e := 26) (vs := []) (cs := []) rfl (fun _ => by kernel_rfl) fun b3 w4 N3 => ?_)
  refine ⟨fun _ => N3.ext, ModX.ext N3.ext, ?_⟩
  have G0_b3 : w2.heap.size ≤ b3 := by rw [N3.at_]; exact hz
  replace H := H.made' (k := 3) (t := 26) (enc := encBound) (l := ([] : List Bound)) N3 N3.blk (fun _ => rfl) rfl (by first | decide | omega | (simp; done) | (simp; omega))
  replace R0 := H.ext
  replace hz := Nat.le_trans hz (Ext.size N3.ext)
  refine DW.sole rfl rfl rfl (OW.appendG (enc := encBound) (l := ([] : List Bound)) (xs := a0.bounds) Ts22 (look_slice rfl (by first | rfl | (simp; done) | (simp; omega))) rfl (H.own 0 rfl) (h_a0_bounds.ext R0) (fun _ => rfl) rfl rfl hg1 (by decide) fun A1 c1 w5 O1 M1 D1 => ?_)
  have G0_A1 := Fresh.nextZ (Fresh.at_ G0_b3) D1 hz
  refine ⟨fun h => absurd h (by decide), M1.modx (XB.newA (Fresh.at_ G0_b3)), ?_⟩
  replace H : Hp w w5 [.own A1 c1 26 3 (List.map encBound ((([] : List Bound) ++ a0.bounds))), .blk b2 24 [.int .i64 0, .slice none 0 0], .blk b1 24 [.int .i64 a0.layers, .slice A_a0_bounds a0.bounds.length c_a0_bounds]] := H.mod 0 rfl M1 O1 D1
  replace R0 := H.ext
  replace hz := Nat.le_trans hz M1.size
  refine DW.thru rfl rfl rfl (fun _ EQ => RV.build (vs := [.int .i64 a0.layers, .slice A1 (((([] : List Bound) ++ a0.bounds)).length) c1]) (cs := [.int .i64 a0.layers, .slice A1 (((([] : List Bound) ++ a0.bounds)).length) c1]) rfl (fun _ => by kernel_rfl)) ?_
  refine DW.sole rfl rfl rfl (OW.store Tk24 rfl rfl (H.blk 1 rfl) (off := 0) (vs := [.int .i64 a0.layers, .slice A1 (((([] : List Bound) ++ a0.bounds)).length) c1]) rfl rfl rfl rfl rfl fun w6 S1 => ?_)
  refine ⟨fun h => absurd h (by decide), S1.modx (XB.in_ 0 (by decide) rfl (List.mem_singleton.2 rfl)), ?_⟩
  replace H : Hp w w6 [.own A1 c1 26 3 (List.map encBound ((([] : List Bound) ++ a0.bounds))), .blk b2 24 [.int .i64 a0.layers, .slice A1 (((([] : List Bound) ++ a0.bounds)).length) c1], .blk b1 24 [.int .i64 a0.layers, .slice A_a0_bounds a0.bounds.length c_a0_bounds]] := H.stored 1 rfl S1
  replace R0 := H.ext
  replace hz := Nat.le_trans hz (Nat.le_of_eq S1.size.symm)
  refine DW.nil (hK2 _ _ ?_)
  refine CW.ret ?_
  obtain rfl := Option.some.inj F
  refine ⟨_, (ResOK.cell1 ⟨_, rfl, run_loadVar_agg Tk24 (H.blk 1 rfl).cells (us := [.int .i64 a0.layers, .slice A1 (((([] : List Bound) ++ a0.bounds)).length) c1]) rfl rfl⟩), ?_⟩
  replace H := H.pick (L' := [.own A1 c1 26 3 (List.map encBound ((([] : List Bound) ++ a0.bounds)))]) [0] (by decide) rfl
  replace R0 := H.ext
  exact ⟨A1, c1, (by first | rfl | (simp; done) | (simp; omega)), H⟩
set_option maxRecDepth 20000 in
set_option maxHeartbeats 1000000 in
theorem ref03_SameBounds_ok {a0 : List Bound} {a1 : List Bound} {A_a0 : Option Addr} {c_a0 : Nat} {A_a1 : Option Addr} {c_a1 : Nat} {w : World} {res : Bool} (h_a0 : Sl w A_a0 c_a0 3 (a0.map encBound)) (h_a1 : Sl w A_a1 c_a1 3 (a1.map encBound)) (F : ref03_SameBounds a0 a1 = some res) : Calls Try.prog 52 #[.slice A_a0 a0.length c_a0, .slice A_a1 a1.length c_a1] w (Rt w (.bool res)) := by
  refine calls_of_cw (args := [.slice A_a0 a0.length c_a0, .slice A_a1 a1.length c_a1]) Try.func52 rfl rfl rfl rfl ?_
  have H := Hp.start w
  have R0 := H.ext
  unfold ref03_SameBounds at F
  refine CW.seq fun K1 hK1 => ?_
  refine CW.region ?_
  refine LW.pure rfl rfl (RV.assign rfl) ?_
  refine LW.nil (hK1 _ _ ?_)
  refine CW.seq fun K2 hK2 => ?_
  refine CW.seq fun K3 hK3 => ?_
  refine CW.region ?_
  refine LW.pure rfl rfl (RV.move rfl) ?_
  refine LW.pure rfl rfl (RV.len Ts22 rfl) ?_
  refine LW.pure rfl rfl (RV.move rfl) ?_
  refine LW.pure rfl rfl (RV.len Ts22 rfl) ?_
  refine LW.pure rfl rfl (RV.nei rfl rfl) ?_
  refine LW.nil (hK3 _ _ ?_)
  by_cases hp1 : ((a0.length : Int)) = ((a1.length : Int))
  ·
    replace F := ite_y hp1 F
    have hq1 := dec_t hp1
    refine CW.condF rfl (not_f hq1) ?_
    refine CW.skip (hK2 _ _ ?_)
    refine CW.seqJ (fun ρ wl1 => (ref03_SameBounds_k1 = some res ∧ ρ = [(4, .bool false)] ∧ Hp w wl1 [])) ?_ ?_
    ·
      rintro _ wl1 ⟨F, rfl, H⟩
      have R0 := H.ext
      unfold ref03_SameBounds_k1 at F
      refine CW.seq fun K4 hK4 => ?_
      refine CW.region ?_
      refine LW.pure rfl rfl (RV.assign rfl) ?_
      refine LW.nil (hK4 _ _ ?_)
      refine CW.ret ?_
      obtain rfl := Option.some.inj F
      refine ⟨_, (ResOK.one rfl), ?_⟩
      refine ⟨(by first | rfl | simp), R0⟩
    ·
      intro K5 hK5 jK59
      refine CW.seq fun K6 hK6 => ?_
      refine CW.region ?_
      refine LW.pure rfl rfl (RV.assign rfl) ?_
      refine LW.nil (hK6 _ _ ?_)
      refine CW.block ?_
      refine CW.loop (fun meas ρ wl2 => ∃ (t5_1 : Int), ref03_SameBounds_L1 a0 a1 meas t5_1 = some res ∧ ρ = [(0, .slice A_a0 a0.length c_a0), (1, .slice A_a1 a1.length c_a1), (4, .bool false), (5, .int .i64 t5_1)] ∧ Hp w wl2 []) FU ⟨_, ?_, ((0 : Int)), F, rfl, H⟩ ?_
      · exact ⟨rfl, rfl, rfl, rfl, trivial⟩
      rintro mk1 _ wl2 ⟨t5_1, F, rfl, H⟩
      have R0 := H.ext
      replace F := ref03_SameBounds_L1_s F
      obtain ⟨mk1, rfl, F⟩ := F
      generalize hrec1 : ref03_SameBounds_L1 a0 a1 mk1 = rec1 at F
      unfold ref03_SameBounds_B1 at F
      refine CW.seq fun K7 hK7 => ?_
      refine CW.seq fun K8 hK8 => ?_
      refine CW.region ?_
      refine LW.pure rfl rfl (RV.move rfl) ?_
      refine LW.pure rfl rfl (RV.move rfl) ?_
      refine LW.pure rfl rfl (RV.len Ts22 rfl) ?_
      refine LW.pure rfl rfl (RV.lss rfl rfl) ?_
      refine LW.nil (hK8 _ _ ?_)
      by_cases hp2 : t5_1 < ((a0.length : Int))
      ·
        replace F := ite_y hp2 F
        have hq2 := dec_t hp2
        refine CW.condT rfl hq2 ?_
        refine CW.skip (hK7 _ _ ?_)
        refine CW.seq fun K9 hK9 => ?_
        refine CW.block ?_
        refine CW.seq fun K10 hK10 => ?_
        obtain ⟨x1, hbx1, hx1, F⟩ := ix_some F
        obtain ⟨x2, hbx2, hx2, F⟩ := ix_some F
        refine CW.draw [] (fun _ => True) (.cons 0 1 (.cons 1 1 (.cons 2 1 (.cons 3 1 (.cons 4 1 (.cons 5 1 (.cons 6 1 (.cons 7 1 (.cons 8 1 .nil))))))))) mixed (by kernel_rfl) fun w1 E1 => ?_
        replace H := H.grow E1
        replace R0 := H.ext
        refine DW.fix rfl rfl rfl (fun _ EQ => RV.move rfl) ?_
        refine DW.fix rfl rfl rfl (fun _ EQ => RV.move rfl) ?_
        refine DW.fix rfl rfl rfl (fun _ EQ => RV.indexAddr Ts22 rfl rfl hbx1 (h_a0.addr_ hx1)) ?_
        refine DW.fix rfl rfl rfl (fun _ EQ => RV.loadA [.int .i64 x1.a, .int .i64 x1.b, .int .i64 x1.most] Tk26 rfl ((h_a0.at_ hx1).ext (R0.trans EQ)) rfl rfl) ?_
        refine DW.fix rfl rfl rfl (fun _ EQ => RV.move rfl) ?_
        refine DW.fix rfl rfl rfl (fun _ EQ => RV.move rfl) ?_
        refine DW.fix rfl rfl rfl (fun _ EQ => RV.indexAddr Ts22 rfl rfl hbx2 (h_a1.addr_ hx2)) ?_
        refine DW.fix rfl rfl rfl (fun _ EQ => RV.loadA [.int .i64 x2.a, .int .i64 x2.b, .int .i64 x2.most] Tk26 rfl ((h_a1.at_ hx2).ext (R0.trans EQ)) rfl rfl) ?_
        refine DW.fix rfl rfl rfl (fun _ EQ => RV.neA Te26g (Te26 _ _ _ _ _ _ ) rfl rfl) ?_
        refine DW.nil (hK10 _ _ ?_)
        by_cases hp3 : ((x1.a == x2.a) && (x1.b == x2.b) && (x1.most == x2.most)) = true
        ·
          replace F := ite_y hp3 F
          have hq3 : ((x1.a == x2.a) && (x1.b == x2.b) && (x1.most == x2.most)) = true := hp3
          refine CW.condF rfl (not_f hq3) ?_
          refine CW.skip (hK9 _ _ ?_)
          obtain ⟨hg1, F⟩ := gd_some F
          refine CW.region ?_
          refine LW.pure rfl rfl (RV.move rfl) ?_
          refine LW.pure rfl rfl (RV.add rfl rfl hg1) ?_
          refine LW.pure rfl rfl (RV.assign rfl) ?_
          refine LW.nil ?_
          subst hrec1
          refine ⟨mk1, Nat.lt_succ_self _, _, ?_, (t5_1 + 1), F, rfl, H⟩
          exact ⟨rfl, rfl, rfl, rfl, trivial⟩
        ·
          replace F := ite_n hp3 F
          have hq3 : ((x1.a == x2.a) && (x1.b == x2.b) && (x1.most == x2.most)) = false := raw_f hp3
          refine CW.condT rfl (not_t hq3) ?_
          refine CW.seq fun K11 hK11 => ?_
          refine CW.region ?_
          refine LW.pure rfl rfl (RV.assign rfl) ?_
          refine LW.nil (hK11 _ _ ?_)
          refine CW.ret ?_
          obtain rfl := Option.some.inj F
          refine ⟨_, (ResOK.one rfl), ?_⟩
          refine ⟨(by first | rfl | simp), R0⟩
      ·
        replace F := ite_n hp2 F
        have hq2 := dec_f hp2
        refine CW.condF rfl hq2 ?_
        refine CW.exit (jK59 _ _ ⟨_, ?_, ⟨F, rfl, H⟩⟩)
        exact ⟨rfl, trivial⟩
  ·
    replace F := ite_n hp1 F
    have hq1 := dec_f hp1
    refine CW.condT rfl (not_t hq1) ?_
    refine CW.seq fun K12 hK12 => ?_
    refine CW.region ?_
    refine LW.pure rfl rfl (RV.assign rfl) ?_
    refine LW.nil (hK12 _ _ ?_)
    refine CW.ret ?_
    obtain rfl := Option.some.inj F
    refine ⟨_, (ResOK.one rfl), ?_⟩
    refine ⟨(by first | rfl | simp), R0⟩
set_option maxRecDepth 20000 in
set_option maxHeartbeats 1000000 in
theorem ref03_Equal_ok {a0 : Core} {a1 : Core} {A_a0_bounds : Option Addr} {c_a0_bounds : Nat} {A_a1_bounds : Option Addr} {c_a1_bounds : Nat} {w : World} {res : Bool} (h_a0_bounds : Sl w A_a0_bounds c_a0_bounds 3 (a0.bounds.map encBound)) (h_a1_bounds : Sl w A_a1_bounds c_a1_bounds 3 (a1.bounds.map encBound)) (F : ref03_Equal a0 a1 = some res) : Calls Try.prog 32 #[.agg #[.int .i64 a0.layers, .slice A_a0_bounds a0.bounds.length c_a0_bounds], .agg #[.int .i64 a1.layers, .slice A_a1_bounds a1.bounds.length c_a1_bounds]] w (Rt w (.bool res)) := by
  refine calls_of_cw (args := [.agg #[.int .i64 a0.layers, .slice A_a0_bounds a0.bounds.length c_a0_bounds], .agg #[.int .i64 a1.layers, .slice A_a1_bounds a1.bounds.length c_a1_bounds]]) Try.func32 rfl rfl rfl rfl ?_
  have H := Hp.start w
  have R0 := H.ext
  unfold ref03_Equal at F
  refine CW.seq fun K1 hK1 => ?_
  refine CW.region ?_
  refine LW.go rfl rfl (OW.box rfl fun b1 w1 N1 => ?_)
  replace H := H.new N1 N1.blk
  replace R0 := H.ext
  refine LW.go rfl rfl (OW.box rfl fun b2 w2 N2 => ?_)
  replace H := H.new N2 N2.blk
  replace R0 := H.ext
  refine LW.pure rfl rfl (RV.assign rfl) ?_
  refine LW.nil (hK1 _ _ ?_)
  refine CW.seq fun K2 hK2 => ?_
  by_cases hp1 : a0.layers = a1.layers
  ·
    replace F := ite_y hp1 F
    have hq1 := dec_t hp1
    obtain ⟨r1, hr1, F⟩ := bnd_some F
    refine CW.region ?_
    refine LW.pure rfl rfl (RV.fieldAddr Tf24_0 rfl) ?_
    refine LW.pure rfl rfl (RV.load1 Tk3 rfl ((H.blk 1 rfl).cells.off 0) rfl) ?_
    refine LW.pure rfl rfl (RV.fieldAddr Tf24_0 rfl) ?_
    refine LW.pure rfl rfl (RV.load1 Tk3 rfl ((H.blk 0 rfl).cells.off 0) rfl) ?_
    refine LW.pure rfl rfl (RV.eqi rfl rfl) ?_
    refine LW.pure rfl rfl (RV.move rfl) ?_
    refine LW.pureYB rfl rfl rfl rfl hq1 (RV.fieldAddr Tf24_1 rfl) ?_
    refine LW.pureYB rfl rfl rfl rfl hq1 (RV.load1 Tk22 rfl ((H.blk 1 rfl).cells.off 1) rfl) ?_
    refine LW.pureYB rfl rfl rfl rfl hq1 (RV.fieldAddr Tf24_1 rfl) ?_
    refine LW.pureYB rfl rfl rfl rfl hq1 (RV.load1 Tk22 rfl ((H.blk 0 rfl).cells.off 1) rfl) ?_
    refine LW.yesB rfl rfl rfl rfl hq1 (OW.call Tc52 rfl (ref03_SameBounds_ok (a0 := a0.bounds) (a1 := a1.bounds) (h_a0_bounds.ext R0) (h_a1_bounds.ext R0) hr1) ?_)
    rintro _ w3 ⟨rfl, E1⟩
    refine ⟨_, rfl, ?_⟩
    replace H := H.grow E1
    replace R0 := H.ext
    refine LW.pure rfl rfl (RV.pickTB rfl hq1 rfl) ?_
    refine LW.pure rfl rfl (RV.assign rfl) ?_
    refine LW.nil (hK2 _ _ ?_)
    refine CW.ret ?_
    obtain rfl := Option.some.inj F
    refine ⟨_, (ResOK.one rfl), ?_⟩
    refine ⟨(by first | rfl | simp), R0⟩
  ·
    replace F := ite_n hp1 F
    have hq1 := dec_f hp1
    refine CW.region ?_
    refine LW.pure rfl rfl (RV.fieldAddr Tf24_0 rfl) ?_
    refine LW.pure rfl rfl (RV.load1 Tk3 rfl ((H.blk 1 rfl).cells.off 0) rfl) ?_
    refine LW.pure rfl rfl (RV.fieldAddr Tf24_0 rfl) ?_
    refine LW.pure rfl rfl (RV.load1 Tk3 rfl ((H.blk 0 rfl).cells.off 0) rfl) ?_
    refine LW.pure rfl rfl (RV.eqi rfl rfl) ?_
    refine LW.pure rfl rfl (RV.move rfl) ?_
    refine LW.noB rfl rfl rfl rfl (ne_beq (v := false) hq1 rfl) ?_
    refine LW.noB rfl rfl rfl rfl (ne_beq (v := false) hq1 rfl) ?_
    refine LW.noB rfl rfl rfl rfl (ne_beq (v := false) hq1 rfl) ?_
    refine LW.noB rfl rfl rfl rfl (ne_beq (v := false) hq1 rfl) ?_
    refine LW.noB rfl rfl rfl rfl (ne_beq (v := false) hq1 rfl) ?_
    refine LW.pure rfl rfl (RV.pickFB rfl hq1 rfl) ?_
    refine LW.pure rfl rfl (RV.assign rfl) ?_
    refine LW.nil (hK2 _ _ ?_)
    refine CW.ret ?_
    obtain rfl := Option.some.inj F
    refine ⟨_, (ResOK.one rfl), ?_⟩
    refine ⟨(by first | rfl | simp), R0⟩
end Go.D3

set_option linter.unusedVariables false
set_option linter.unusedSimpArgs false
namespace Go.Tb
open Go.RowKit
section
variable {P : Program} {n : Nat} {ops : Array Oper} {Q : Exit → Env → World → Prop} {ρ : Env} {w : World}
variable {d : Option Tmp} {ty : TypeId} {pos : String} {after : Array Edge} {g : Option (Nat × Bool)} {K : Value → World → Prop}
/-- clear of a part of a slice or an array of the call's own. -/
theorem zero_flat {α : Type} {enc : α → List Value} {x0 : α} {z : List Value} {m : Nat} (hz : enc x0 = z) (hm : z.length = m) (h0 : Nat.blt 0 m = true) (c : Nat) : Builtin.zeroCells z.toArray c = ((List.replicate c x0).flatMap enc).toArray := by
  have h0' : 0 < m := by simpa [Nat.blt_eq] using h0
  apply Array.toList_inj.1
  apply List.ext_getElem?
  intro i
  have hl : ((List.replicate c x0).flatMap enc).length = c * m := by
    induction c with
    | zero => simp
    | succ c ih => simp only [List.replicate_succ, List.flatMap_cons, List.length_append, ih, hz, hm, Nat.succ_mul]; omega
  have hrow : ∀ r ∈ (List.replicate c x0).map enc, r.length = m := by
    intro r hr
    obtain ⟨x, hx, rfl⟩ := List.mem_map.1 hr
    rw [(List.mem_replicate.1 hx).2, hz, hm]
  by_cases hi : i < c * m
  · have hmod : i % m < m := Nat.mod_lt _ h0'
    have hq : i / m < c := (Nat.div_lt_iff_lt_mul h0').2 hi
    have hv : z[i % m]? = some (z[i % m]'(by rw [hm]; exact hmod)) := by simp [hm, hmod]
    have hf := flatten_row hrow (i / m) z (by simp [hq, hz]) (i % m) _ hv
    have hjm : i / m * m + i % m = i := by rw [Nat.mul_comm]; exact Nat.div_add_mod i m
    rw [hjm] at hf
    simp only [List.flatMap_def, List.toList_toArray]
    rw [hf]
    simp only [Builtin.zeroCells]
    simp [hi, hm, hmod]
  · rw [List.getElem?_eq_none (by simp [Builtin.zeroCells, hm]; omega), List.getElem?_eq_none (by simp only [List.toList_toArray]; rw [hl]; omega)]
end
end Go.Tb

set_option linter.unusedVariables false
set_option linter.unusedSimpArgs false
namespace Go.Tb
open Go.RowKit
theorem evs_cast {ρ : Env} {a : List Operand} {vs vs' : List Value} (h : evs ρ a = some vs) (e : vs = vs') : evs ρ a = some vs' := e ▸ h
theorem CallsV.cap {P : Program} {f : Nat} {first cap args all : Array Value} {w : World} {R : Ending → World → Prop} (hc : callable P f = true) (e : first ++ args ++ cap = all) (h : Calls P f all w R) : CallsV P f first cap args w R := ⟨hc, by rw [e]; exact h⟩
section
variable {P : Program} {n : Nat} {ops : Array Oper} {Q : Exit → Env → World → Prop} {ρ : Env} {w : World}
variable {d : Option Tmp} {ty : TypeId} {pos : String} {after : Array Edge} {g : Option (Nat × Bool)} {K : Value → World → Prop}
end
end Go.Tb

set_option linter.unusedVariables false
set_option linter.unusedSimpArgs false
namespace Go.Tb
open Go.RowKit
/-- The rows hs, m are rows of the table hT, mT. -/
structure SubT {α : Type} (hs : List (Option Addr × Nat)) (m : List (List α)) (hT : List (Option Addr × Nat)) (mT : List (List α)) : Prop where
  len : hs.length = m.length
  sub : ∀ p ∈ hs.zip m, p ∈ hT.zip mT
section
variable {α : Type} {enc : α → List Value} {hs hT : List (Option Addr × Nat)} {m mT : List (List α)} {w : World} {A AT : Option Addr} {c cT to toT ti k : Nat}
theorem SubT.nil : SubT (α := α) [] [] hT mT := ⟨rfl, by simp⟩
end
section
variable {P : Program} {n : Nat} {ops : Array Oper} {Q : Exit → Env → World → Prop} {ρ : Env} {w : World}
variable {d : Option Tmp} {ty : TypeId} {pos : String} {after : Array Edge} {g : Option (Nat × Bool)} {K : Value → World → Prop}
end
end Go.Tb

set_option linter.unusedVariables false
set_option linter.unusedSimpArgs false
namespace Go.Tb
open Go.RowKit
section
variable {κ ν : Type}
/-- Where an entry lies. -/
def mfind (eq : κ → κ → Bool) (x : κ) : List κ → List MapEntry → Nat → Option (Nat × Value)
  | y :: ks, e :: es, i => if eq x y = true then some (i, e.val) else mfind eq x ks es (i + 1)
  | _, _, _ => none
/-- What a key's type must have: its values are asked for and compared ags eq says. -/
structure KeyOK (P : Program) (k : TypeId) (ek : κ → Value) (eq : κ → κ → Bool) : Prop where
  check : ∀ (w : World) (em : Bool) (x : κ), (Instr.checkKey em 10000 k (ek x)).run P w = .ok () w
  same : ∀ x y : κ, eq x y = true ↔ ek x = ek y
  find : ∀ (w : World) (x : κ) (es : List MapEntry) (ks : List κ), es.map (·.key) = ks.map ek → (Instr.findKey k (ek x) es).run P w = .ok (mfind eq x ks es 0) w
  stays : ∀ (w : World) (x : κ), (Instr.keyThatStays (ek x) (ek x)).run P w = .ok (ek x) w
def ekI (x : Int) : Value := .int .i64 x
def eqI (x y : Int) : Bool := x == y
theorem KeyOK.int {P : Program} {k : TypeId} (hk : P.underlying k = some (.int .i64)) : KeyOK P k ekI eqI where
  check w em x := MapKept.run_checkKey hk (show MapKept.IsKey (.int .i64) (.int .i64 x) from rfl) em 9999
  same x y := by simp [eqI, ekI]
  find w x es ks h := by
    refine MapKept.run_findKey hk ?_
    have : ∀ (es : List MapEntry) (ks : List Int) (i : Nat), es.map (·.key) = ks.map ekI → Instr.findNow (.int .i64) (ekI x) es i = some (mfind eqI x ks es i) := by
      intro es
      induction es with
      | nil => intro ks i h; cases ks <;> rfl
      | cons e es ih =>
        intro ks i h
        cases ks with
        | nil => simp at h
        | cons y ks =>
          simp only [List.map_cons, List.cons.injEq] at h
          unfold Instr.findNow mfind
          rw [h.1]
          have e1 : Instr.sameNow (.int .i64) (ekI x) (ekI y) = some (eqI x y) := by simp [Instr.sameNow, ekI, eqI]
          rw [e1]
          cases eqI x y
          · simpa using ih ks (i + 1) h.2
          · simp
    exact this es ks 0 h
  stays w x := MapKept.run_keyThatStays (show MapKept.IsKey (.int .i64) (.int .i64 x) from rfl)
theorem KeyOK.agg {P : Program} {k : TypeId} {d : TypeDesc} {ek : κ → Value} {eq : κ → κ → Bool} (ags : κ → Array Value) (hk : P.underlying k = some d) (hek : ∀ x, ek x = .agg (ags x)) (hc : ∀ (w : World) (em : Bool) (x : κ), (Instr.checkKey em 10000 k (.agg (ags x))).run P w = .ok () w)
    (he : ∀ (w : World) (x y : κ), (Op.equalIn 10000 k (.agg (ags x)) (.agg (ags y))).run P w = .ok (eq x y) w) (hs : ∀ x y : κ, eq x y = true ↔ ags x = ags y) (hb : ∀ x : κ, Instr.sameBits 10000 (.agg (ags x)) (.agg (ags x)) = true) : KeyOK P k ek eq where
  check w em x := by rw [hek]; exact hc w em x
  same x y := by rw [hs, hek, hek]; constructor <;> intro h <;> simp_all
  find w x es ks h := by
    have asking : ∀ (es : List MapEntry) (ks : List κ) (i : Nat), es.map (·.key) = ks.map ek → (Instr.findAsking k (ek x) es i).run P w = .ok (mfind eq x ks es i) w := by
      intro es
      induction es with
      | nil => intro ks i h; cases ks <;> rfl
      | cons e es ih =>
        intro ks i h
        cases ks with
        | nil => simp at h
        | cons y ks =>
          simp only [List.map_cons, List.cons.injEq] at h
          unfold Instr.findAsking mfind
          rw [h.1, hek, hek]
          have e1 : (Op.equal k (.agg (ags x)) (.agg (ags y))).run P w = .ok (eq x y) w := he w x y
          simp only [Sem.run_bind, e1, Result.andThen_ok, Sem.run_ite, Sem.run_pure]
          cases eq x y
          · have := ih ks (i + 1) h.2
            rw [hek] at this
            simpa using this
          · simp
    cases es with
    | nil => cases ks <;> simp [Instr.findKey, run_underlying hk, Result.andThen, Instr.findNow, mfind]
    | cons e es =>
      cases ks with
      | nil => simp at h
      | cons y ks =>
        have e0 : e.key = ek y := by simp at h; exact h.1
        have e1 : Instr.findNow d (ek x) (e :: es) 0 = none := by
          unfold Instr.findNow
          rw [e0, hek, hek]
          simp [Instr.sameNow]
        simp only [Instr.findKey, Sem.run_bind, run_underlying hk, Result.andThen_ok, e1]
        exact asking _ _ 0 h
  stays w x := by rw [hek]; simp [Instr.keyThatStays, hb x]
end
section
variable {κ ν : Type} {P : Program} {k : TypeId} {ek : κ → Value} {ev : ν → Value} {eq : κ → κ → Bool} {w : World} {b : Nat} {m : List (κ × ν)}
end
section
variable {P : Program} {n : Nat} {ops : Array Oper} {Q : Exit → Env → World → Prop} {ρ : Env} {w : World}
variable {d : Option Tmp} {ty : TypeId} {pos : String} {after : Array Edge} {g : Option (Nat × Bool)} {K : Value → World → Prop}
end
section
variable {w0 w w' : World} {L : List Ck}
end
end Go.Tb

set_option linter.unusedVariables false
set_option linter.unusedSimpArgs false
namespace Go.Tb
open Go.RowKit
theorem Own.shrink {w : World} {A : Option Addr} {c : Nat} {e : TypeId} {k : Nat} {rows news : List (List Value)} (h : Own w A c e k (rows ++ news)) (hA : A ≠ none) : Own w A c e k rows := by
  refine ⟨?_, fun r hr => h.row r (List.mem_append.2 (.inl hr))⟩
  obtain ⟨h1, h2⟩ := h.own
  have hlen : ∀ l : List (List Value), (∀ r ∈ l, r.length = k) → l.flatten.length = l.length * k := fun l hl => by
    induction l with
    | nil => simp
    | cons r q ih =>
      simp only [List.flatten_cons, List.length_append, List.length_cons, Nat.succ_mul]
      rw [ih (fun r hr => hl r (List.mem_cons_of_mem _ hr)), hl r (List.mem_cons_self ..)]; omega
  have hr := hlen rows (fun r hr => h.row r (List.mem_append.2 (.inl hr)))
  refine ⟨hr, ?_⟩
  rcases h2 with ⟨hv, _⟩ | ⟨g, cap, cur, hv, hg, hh, hn, hm, hs, ht⟩
  · injection hv with hv1; exact absurd hv1 hA
  · injection hv with hv1 hv2 hv3
    subst hv1 hv3
    have hle : rows.length ≤ (rows ++ news).length := by simp
    refine .inr ⟨g, c, cur, rfl, hg, hh, Nat.le_trans hle hn, hm, hs, ?_⟩
    have hk : rows.length * k ≤ (rows ++ news).length * k := Nat.mul_le_mul_right _ hle
    rw [← Nat.min_eq_left hk, ← List.take_take, ht, List.flatten_append, ← hr, List.take_left]
section
variable {P : Program} {n : Nat} {ops : Array Oper} {Q : Exit → Env → World → Prop} {ρ : Env} {w : World}
variable {d : Option Tmp} {ty : TypeId} {pos : String} {after : Array Edge} {g : Option (Nat × Bool)} {K : Value → World → Prop}
theorem Below.drew_ {b : Nat} {w w' : World} (h : Below b w w') : Below b w w'.drew := ⟨h.1, h.2, h.3, h.4, h.5⟩
end
section
variable {w0 w w' : World} {L : List Ck}
/-- A chunk is known as less. -/
theorem Hp.weaken (h : Hp w0 w L) (p : Nat) {x y : Ck} (hp : L[p]? = some x) (hy : y.holds w) (hb : ∀ b ∈ y.bl, b ∈ x.bl) : Hp w0 w (L.set p y) :=
  h.step p hp h.ext (fun _ _ _ => rfl) hy fun b hb' => .inl (hb b hb')
end
end Go.Tb

set_option linter.unusedVariables false
set_option linter.unusedSimpArgs false
namespace Go.Tb
open Go.RowKit
section
variable {P : Program} {n : Nat} {ops : Array Oper} {Q : Exit → Env → World → Prop} {ρ : Env} {w : World}
variable {d : Option Tmp} {ty : TypeId} {pos : String} {after : Array Edge} {g : Option (Nat × Bool)} {K : Value → World → Prop}
end
theorem Own.ne {w : World} {A : Option Addr} {c : Nat} {e : TypeId} {k : Nat} {rows : List (List Value)} (h : Own w A c e k rows) (hr : rows ≠ []) : A ≠ none := by
  rintro rfl
  rcases h.blk with ⟨_, h1, _⟩ | ⟨b, sp, h1, _⟩
  · exact hr h1
  · cases h1
end Go.Tb

set_option linter.unusedVariables false
set_option linter.unusedSimpArgs false
namespace Go.Tb
open Go.RowKit
structure FitsD (n : Nat) (ds : List Deferred) (ρ : Env) (a : Act) : Prop where
  defers : a.defers = ds
  fits : Fits n ρ { a with defers := [] }
def liftD (n : Nat) (ds : List Deferred) (Q : Exit → Env → World → Prop) : Exit → Act → World → Prop := fun e a w => ∃ ρ, FitsD n ds ρ a ∧ Q e ρ w
def CWD (P : Program) (n : Nat) (ds : List Deferred) (c : Code) (Q : Exit → Env → World → Prop) (ρ : Env) (w : World) : Prop := ∀ a, FitsD n ds ρ a → c.wp P (liftD n ds Q) a w
def LWD (P : Program) (n : Nat) (ds : List Deferred) (ops : Array Oper) (Q : Exit → Env → World → Prop) (l : List Oper) (ρ : Env) (w : World) : Prop := ∀ a, FitsD n ds ρ a → wpList P ops (liftD n ds Q) l a w
section
variable {P : Program} {n : Nat} {ds : List Deferred} {ops : Array Oper} {Q : Exit → Env → World → Prop} {ρ : Env} {w : World}
theorem eval_defers (a : Act) (l : List Deferred) : ({ a with defers := l } : Act).eval = a.eval := by
  funext x; cases x <;> rfl
theorem OW.toD {o : Oper} {K : Value → World → Prop} (h : OW P n Q o ρ w K) {a : Act} (ha : FitsD n ds ρ a) : wpV P o a w K (fun c w' => Q (.panic c) ρ w') := by
  have := h _ ha.fits
  unfold wpV at this ⊢
  rw [eval_defers] at this
  exact this
theorem FitsD.upd {a : Act} (h : FitsD n ds ρ a) {d : Option Nat} (hd : okDst n d = true) (v : Value) : FitsD n ds (Tb.upd ρ d v) (a.put d v) := by
  have := h.fits.upd hd v
  refine ⟨?_, ?_⟩
  · cases d <;> exact h.defers
  · cases d <;> exact this
theorem LWD.go {o : Oper} {rest : List Oper} (hg : o.guard = none) (hd : okDst n o.dst = true) (h : OW P n Q o ρ w (fun v w' => LWD P n ds ops Q rest (upd ρ o.dst v) w')) : LWD P n ds ops Q (o :: rest) ρ w := fun a ha => by
  unfold wpList
  rw [if_pos (by simp [Region.wanted, hg])]
  exact .inl (wp_of_wpV (h.toD ha) (fun v w' hk => hk _ (ha.upd hd v)) (fun c w' hk => ⟨ρ, ha, hk⟩))
theorem LWD.pure {o : Oper} {rest : List Oper} {v : Value} (hg : o.guard = none) (hd : okDst n o.dst = true) (h : RV P n o ρ w v) (k : LWD P n ds ops Q rest (upd ρ o.dst v) w) : LWD P n ds ops Q (o :: rest) ρ w :=
  LWD.go hg hd (OW.value h k)
theorem LWD.nil (h : Q .normal ρ w) : LWD P n ds ops Q [] ρ w := fun _ ha => wpList_nil ⟨ρ, ha, h⟩
theorem CWD.region {id : Nat} {l : List Oper} (h : LWD P n ds l.toArray Q l ρ w) : CWD P n ds (.region id l.toArray false) Q ρ w := fun a ha => wp_region_lit (h a ha)
theorem CWD.seq {x y : Code} (h : CWD P n ds x (thenE (fun ρ w => CWD P n ds y Q ρ w) Q) ρ w) : CWD P n ds (.seq x y) Q ρ w := fun a ha => by
  refine wp_seq (wp_mono (h a ha) fun e a' w' hq => ?_)
  obtain ⟨ρ', hf, hq⟩ := hq
  cases e <;> first | exact hq a' hf | exact ⟨ρ', hf, hq⟩
theorem CWD.ret (h : Q .ret ρ w) : CWD P n ds .ret Q ρ w := fun _ ha => wp_ret ⟨ρ, ha, h⟩
variable {d : Option Tmp} {ty : TypeId} {pos : String} {after : Array Edge} {g : Option (Nat × Bool)} {K : Value → World → Prop}
end
end Go.Tb
namespace Go.Tb
theorem Fits.empty {n : Nat} {a : Act} (hd : a.defers = []) (hs : a.tmps.size = n) : Fits n [] a := ⟨hd, hs, fun t v h => by simp [Tb.look] at h⟩
theorem Fits.add {n k : Nat} {v : Value} {ρ : Env} {a : Act} (h : Fits n ρ a) (hv : a.tmps[k]? = some v) : Fits n ((k, v) :: ρ) a := ⟨h.defers, h.size, fun t u hl => by
  unfold Tb.look at hl
  split at hl
  · rename_i hb
    have : k = t := Nat.eq_of_beq_eq_true hb
    subst this
    simp at hl; subst hl; exact hv
  · exact h.at_ t u hl⟩
end Go.Tb
namespace Go.Tb
section
variable {P : Program} {n : Nat} {ops : Array Oper} {Q : Exit → Act → World → Prop} {a : Act} {w : World} {ρ : Env}
end
end Go.Tb
namespace Go.Tb
section
variable {P : Program} {n : Nat} {ρ : Env} {w : World} {d : Option Tmp} {ty : TypeId} {pos : String} {after : Array Edge} {g : Option (Nat × Bool)}
end
end Go.Tb
namespace Go.Tb
section
variable {P : Program} {n : Nat} {ρ : Env} {w : World} {d : Option Tmp} {ty : TypeId} {pos : String} {after : Array Edge} {g : Option (Nat × Bool)}
end
end Go.Tb

set_option linter.unusedVariables false
namespace Go.Tb
structure SlT {α β : Type} (w : World) (A : Option Addr) (c k : Nat) (enc : (Option Addr × Nat) × α → List Value) (f : α → List β) (k2 : Nat) (enc2 : β → List Value) (l : List α) : Prop where
  ex : ∃ hs : List (Option Addr × Nat), hs.length = l.length ∧ Sl w A c k ((hs.zip l).map enc) ∧ ∀ (j : Nat) (h : Option Addr × Nat) (x : α), hs[j]? = some h → l[j]? = some x → Sl w h.1 h.2 k2 ((f x).map enc2)
section
variable {α β : Type} {w w' : World} {A : Option Addr} {c k k2 : Nat} {enc : (Option Addr × Nat) × α → List Value} {f : α → List β} {enc2 : β → List Value} {l : List α}
theorem SlT.ext (h : SlT w A c k enc f k2 enc2 l) (e : Ext w w') : SlT w' A c k enc f k2 enc2 l := by
  obtain ⟨hs, h1, h2, h3⟩ := h.ex
  exact ⟨hs, h1, h2.ext e, fun j h x hj hx => (h3 j h x hj hx).ext e⟩
theorem SlT.at_ (h : SlT w A c k enc f k2 enc2 l) {j : Nat} {x : α} (hx : l[j]? = some x) : ∃ (Aj : Option Addr) (cj : Nat), Cells w (elemPtr A k j) (enc ((Aj, cj), x)) ∧ Sl w Aj cj k2 ((f x).map enc2) := by
  obtain ⟨hs, h1, h2, h3⟩ := h.ex
  have hlt := lt_of_at hx
  have hh : hs[j]? = some hs[j] := by simp [h1, hlt]
  refine ⟨hs[j].1, hs[j].2, ?_, h3 j _ x hh hx⟩
  exact h2.at_ (enc := enc) (x := (hs[j], x)) (by simp [List.getElem?_zip_eq_some, hh, hx])
theorem SlT.addr (h : SlT w A c k enc f k2 enc2 l) {i : Int} (h0 : 0 ≤ i ∧ i < l.length) : ∃ a, A = some a := by
  obtain ⟨hs, h1, h2, _⟩ := h.ex
  exact h2.addr (i := i) (by simp [h1]; omega)
theorem SlT.max (h : SlT w A c k enc f k2 enc2 l) : (l.length : Int) ≤ 9223372036854775807 := by
  obtain ⟨hs, h1, h2, _⟩ := h.ex
  have := h2.max
  simp [h1] at this
  omega
theorem SlT.nil_ : SlT w none 0 k enc f k2 enc2 [] := ⟨⟨[], rfl, Sl.nil (by decide), fun j h l hj => by simp at hj⟩⟩
end
end Go.Tb

set_option linter.unusedVariables false
namespace Go.Tb
open Go.RowKit
section
variable {P : Program} {n : Nat} {ops : Array Oper} {Q : Exit → Env → World → Prop} {ρ : Env} {w : World} {d : Option Tmp} {ty : TypeId} {pos : String} {after : Array Edge} {g : Option (Nat × Bool)} {K : Value → World → Prop}
/-- What an assertion to the type q gives, with its word on whether it holds. -/
def AssertM (P : Program) (q : TypeId) (v r : Value) : Prop := ∀ (t : TypeId) (w : World), (Instr.typeAssert v t q true).run P w = .ok r w
theorem AssertM.yes {q : TypeId} {fs : TypeDesc} {v : Value} (hT : P.underlying q = some fs) (hn : (match fs with | .interface _ => true | _ => false) = false) : AssertM P q (.iface q v) (.tuple #[v, .bool true]) := fun t w => by
  simp only [Instr.typeAssert, Sem.run_bind, run_underlying hT, Result.andThen_ok]
  cases fs <;> simp_all
theorem zeroV_run {q : TypeId} {z : Value} (hz : tyZ P q = some z) (w : World) : (zeroValue q).run P w = .ok z w := by
  unfold tyZ at hz
  cases hi : P.info? q with
  | none => simp [hi] at hz
  | some i => simp [hi] at hz; simp [zeroValue, typeInfo, hi, hz]
theorem AssertM.no {q q' : TypeId} {fs : TypeDesc} {v z : Value} (hT : P.underlying q = some fs) (hn : (match fs with | .interface _ => true | _ => false) = false) (hz : tyZ P q = some z) (hq : q' ≠ q) : AssertM P q (.iface q' v) (.tuple #[z, .bool false]) := fun t w => by
  simp only [Instr.typeAssert, Sem.run_bind, run_underlying hT, Result.andThen_ok]
  cases fs <;> simp_all [zeroV_run hz]
theorem AssertM.nil {q : TypeId} {fs : TypeDesc} {z : Value} (hT : P.underlying q = some fs) (hn : (match fs with | .interface _ => true | _ => false) = false) (hz : tyZ P q = some z) : AssertM P q .nilIface (.tuple #[z, .bool false]) := fun t w => by
  simp only [Instr.typeAssert, Sem.run_bind, run_underlying hT, Result.andThen_ok]
  cases fs <;> simp_all [zeroV_run hz]
/-- A method called through an interface. -/
def CallsM (P : Program) (v : Value) (name : String) (args : List Value) (w : World) (R : Ending → World → Prop) : Prop :=
  ∃ (t : TypeId) (u : Value) (f : FuncId) (r : Value), v = .iface t u ∧ (∀ w, (method (P.types.size + Made.depth) t u name).run P w = .ok (f, r) w) ∧ callable P f = true ∧ Calls P f (r :: args).toArray w R
theorem OW.invoke {recv : Operand} {name : String} {args : Array Operand} {tys : Array TypeId} {vs : List Value} {v : Value} {R : Ending → World → Prop} (hx : ev ρ recv = some v) (hargs : evs ρ args.toList = some vs)
    (hc : CallsM P v name vs w R) (k : ∀ e w', R e w' → ∃ v, e = .returned v ∧ K v w') : OW P n Q ⟨d, .call ⟨.invoke recv name, args, tys⟩, ty, pos, after, g⟩ ρ w K := by
  obtain ⟨t, u, f, r, rfl, hm, hf, hc⟩ := hc
  refine OW.enters (f := f) (args := (r :: vs).toArray) (fun a ha => ?_) hc k
  have h1 : args.map a.eval = vs.toArray := by
    have := ha.evs hargs
    apply Array.toList_inj.1
    rw [Array.toList_map]; exact this
  have hx' := ha.ev hx
  simp only [execOp, resolve, hx', Sem.run_bind, Sem.run_pure, Result.andThen_ok, Go.invoke]
  rw [show (Array.map a.eval args) = vs.toArray from h1]
  have e0 : (#[Value.iface t u] ++ vs.toArray)[0]? = some (.iface t u) := by simp
  have e1 : (#[Value.iface t u] ++ vs.toArray).extract 1 (#[Value.iface t u] ++ vs.toArray).size = vs.toArray := by
    apply Array.toList_inj.1; simp
  simp only [e0, callMethod, Sem.run_bind]
  rw [e1]
  have hp : (program : Sem Program).run P w = .ok P w := rfl
  rw [hp]
  simp only [Result.andThen_ok, hm w]
  have e2 : (#[r] ++ vs.toArray) = (r :: vs).toArray := by
    apply Array.toList_inj.1; simp
  rw [e2]
  exact run_callFunc hf _
end
structure Sl3 {α : Type} (w : World) (A : Option Addr) (c k : Nat) (enc : α → List Value) (lll : List (List (List α))) : Prop where
  ex : ∃ hs : List (Option Addr × Nat), hs.length = lll.length ∧ Sl w A c 1 ((hs.zip lll).map encH) ∧ ∀ (j : Nat) (h : Option Addr × Nat) (l : List (List α)), hs[j]? = some h → lll[j]? = some l → Sl2 w h.1 h.2 k enc l
section
variable {α : Type} {w w' : World} {A : Option Addr} {c k : Nat} {enc : α → List Value} {ll : List (List (List α))}
theorem Sl3.ext (h : Sl3 w A c k enc ll) (e : Ext w w') : Sl3 w' A c k enc ll := by
  obtain ⟨hs, h1, h2, h3⟩ := h.ex
  exact ⟨hs, h1, h2.ext e, fun j h l hj hl => (h3 j h l hj hl).ext e⟩
theorem Sl3.at_ (h : Sl3 w A c k enc ll) {j : Nat} {l : List (List α)} (hl : ll[j]? = some l) : ∃ (Aj : Option Addr) (cj : Nat), Cells w (elemPtr A 1 j) [.slice Aj l.length cj] ∧ Sl2 w Aj cj k enc l := by
  obtain ⟨hs, h1, h2, h3⟩ := h.ex
  have hlt := lt_of_at hl
  have hh : hs[j]? = some hs[j] := by simp [h1, hlt]
  refine ⟨hs[j].1, hs[j].2, ?_, h3 j _ l hh hl⟩
  exact h2.at_ (enc := encH) (x := (hs[j], l)) (by simp [List.getElem?_zip_eq_some, hh, hl])
theorem Sl3.addr (h : Sl3 w A c k enc ll) {i : Int} (h0 : 0 ≤ i ∧ i < ll.length) : ∃ a, A = some a := by
  obtain ⟨hs, h1, h2, _⟩ := h.ex
  exact h2.addr (i := i) (by simp [h1]; omega)
theorem Sl3.nil_ : Sl3 w none 0 k enc ([] : List (List (List α))) := ⟨⟨[], rfl, Sl.nil (by decide), fun j h l hj => by simp at hj⟩⟩
theorem Sl3.one {A1 : Option Addr} {c1 : Nat} {l1 : List (List α)} (h : Sl w A c 1 ([((A1, c1), l1)].map encH)) (s1 : Sl2 w A1 c1 k enc l1) : Sl3 w A c k enc [l1] := by
  refine ⟨[(A1, c1)], rfl, h, fun j x l hj hl => ?_⟩
  match j, hj, hl with
  | 0, hj, hl => simp at hj hl; subst hj; subst hl; exact s1
end
end Go.Tb

set_option linter.unusedVariables false
set_option linter.unusedSimpArgs false
namespace Go.Tb
open Go.RowKit
section
variable {P : Program} {n : Nat} {ops : Array Oper} {Q : Exit → Env → World → Prop} {ρ : Env} {w : World}
variable {d : Option Tmp} {ty : TypeId} {pos : String} {after : Array Edge} {g : Option (Nat × Bool)} {K : Value → World → Prop}
theorem OW.appendZ {α : Type} {enc : α → List Value} (x0 : α) {t tn e m bt : Nat} {kn : IntKind} {z : List Value} {x y : Operand} {k : Int} (hT : tyS P t = some (e, m, bt, z)) (htn : P.underlying tn = some (.int kn))
    (hx : ev ρ x = some (.slice none 0 0)) (hy : ev ρ y = some (.int .i64 k)) (hz : enc x0 = z) (hzl : z.length = m) (hk : ∀ u, (enc u).length = m) (hm0 : Nat.blt 0 m = true) (h : 1 ≤ k ∧ k ≤ 1000000) (hb : bt ≤ 1000000)
    (kk : ∀ b c w', Own w' (some ⟨b, 0, none⟩) c e m ((List.replicate k.toNat x0).map enc) → b = w.heap.size → Ext w w' → K (.slice (some ⟨b, 0, none⟩) (List.replicate k.toNat x0).length c) w') :
    OW P n Q ⟨d, .call ⟨.builtin .append, #[x, y], #[t, tn]⟩, ty, pos, after, g⟩ ρ w K := by
  obtain ⟨hu, i, zv, hi, hs1, hs2, hs3, hs4⟩ := tyS_spec hT
  have hm0' : 0 < m := by simpa [Nat.blt_eq] using hm0
  subst hs1
  have hn0 : 0 < k.toNat := by omega
  have hbytes : (0 + k.toNat) * bt ≤ 140737488355328 := by
    have : k.toNat * bt ≤ 1000000 * 1000000 := Nat.mul_le_mul (by omega) hb
    rw [Nat.zero_add]; omega
  have hold : (Builtin.firstCells i.size 0 (.slice none 0 0)).run P w.drew = .ok (([] : List Value).toArray) w.drew := run_firstCells_none _ _ _ _ _
  have hr := Lib.run_append_grow_zeros (P := P) w t tn ty e i zv .i64 kn hu htn hi hs3 none 0 0 [] hold k.toNat hn0 hm0' (by omega) (by omega) (by rw [hs2]; rw [Nat.zero_add] at hbytes; omega) (growslice_fits (by omega) (by rw [hs2]; exact hbytes))
  have hge := grownCap_ge w (0 + k.toNat) 0 e
  have hcm : grownCap w (0 + k.toNat) 0 e ≤ maxLen := grownCap_le_maxLen w (0 + k.toNat) 0 e (by unfold maxLen; omega)
  simp only [Nat.zero_add] at hr hge hcm
  have hzs : zv.cells.size = i.size := by rw [← hzl, ← hs4]; simp
  have hzc : Builtin.zeroCells zv.cells k.toNat = ((List.replicate k.toNat x0).flatMap enc).toArray := by
    have := zero_flat (x0 := x0) (c := k.toNat) hz hzl hm0
    rw [← this, ← hs4]
  refine OW.value (w' := w.drew.alloc (.cells (([] : List Value).toArray ++ Builtin.zeroCells zv.cells k.toNat ++ Builtin.zeroCells zv.cells (grownCap w k.toNat 0 e - k.toNat)) e)) (v := .slice (some ⟨w.heap.size, 0, none⟩) k.toNat (grownCap w k.toNat 0 e)) (fun a ha => ?_) ?_
  · have e1 : ((k.toNat : Nat) : Int) = k := by omega
    rw [e1] at hr
    simp [execOp, resolve, ha.ev hx, ha.ev hy, Go.invoke, builtin, hr]
  · have e2 : k.toNat = (List.replicate k.toNat x0).length := by simp
    have hL : ((List.replicate k.toNat x0).flatMap enc).length = k.toNat * i.size := by rw [len_flatMap hk]; simp
    have own : Own (w.drew.alloc (.cells (([] : List Value).toArray ++ Builtin.zeroCells zv.cells k.toNat ++ Builtin.zeroCells zv.cells (grownCap w k.toNat 0 e - k.toNat)) e)) (some ⟨w.heap.size, 0, none⟩) (grownCap w k.toNat 0 e) e i.size ((List.replicate k.toNat x0).map enc) := by
      refine ⟨⟨?_, .inr ⟨w.heap.size, _, _, ?_, Nat.zero_le _, heap_alloc_new w.drew _, ?_, hcm, ?_, ?_⟩⟩, ?_⟩
      · rw [← List.flatMap_def, hL]; simp
      · rw [List.length_map]
      · simpa using hge
      · simp only [Array.size_append, List.size_toArray, size_zeroCells, hzs, List.length_nil, Nat.zero_add, ← Nat.add_mul]
        congr 1; omega
      · simp only [hzc, Array.toList_append, List.nil_append, List.length_map, List.length_replicate]
        rw [← List.flatMap_def, ← hL]
        exact List.take_left
      · intro r hr
        obtain ⟨q, _, rfl⟩ := List.mem_map.1 hr
        exact hk q
    have := kk w.heap.size _ _ own rfl (Below.alloc (Below.drew_ (Below.refl _ _)) (Nat.le_refl _) _)
    rw [List.length_replicate] at this
    exact this
end
end Go.Tb

set_option linter.unusedVariables false
set_option linter.unusedSimpArgs false
namespace Go.Tb
open Go.RowKit
section
variable {P : Program} {n : Nat} {ops : Array Oper} {Q : Exit → Env → World → Prop} {ρ : Env} {w : World}
variable {d : Option Tmp} {ty : TypeId} {pos : String} {after : Array Edge} {g : Option (Nat × Bool)} {K : Value → World → Prop}
theorem Mod.refl (w : World) (A : Option Addr) : Mod w w A := ⟨rfl, rfl, rfl, Nat.le_refl _, fun _ _ _ => rfl⟩
theorem Mod.trans {w w1 w2 : World} {A : Option Addr} (a : Mod w w1 A) (b : Mod w1 w2 A) : Mod w w2 A :=
  ⟨b.os.trans a.os, b.tape.trans a.tape, b.output.trans a.output, Nat.le_trans a.size b.size, fun k hk hn => (b.block k (Nat.lt_of_lt_of_le hk a.size) hn).trans (a.block k hk hn)⟩
end
section
variable {α : Type} {w : World} {A : Option Addr} {c e k : Nat} {enc : α → List Value} {l : List α}
theorem Own.at0 (h : Own w A c e k (l.map enc)) (h0 : 0 < l.length) : ∃ b, A = some ⟨b, 0, none⟩ := by
  rcases h.own.2 with ⟨hv, hn⟩ | ⟨g, cap, cur, hv, r⟩
  · simp at hn; simp [hn] at h0
  · injection hv with hv1
    exact ⟨g, hv1⟩
end
section
variable {w0 w w' : World} {L : List Ck}
end
end Go.Tb

set_option linter.unusedVariables false
namespace Go.D3
open Go.Tb Go.Core
def core_both (a0 : Core) (a1 : Core) : Option Int :=
  bnd (core_Validate a0) fun r1 =>
  if r1 = 0 then
    bnd (core_Validate a1) fun r2 =>
    if r2 = 0 then
      if a0.layers = a1.layers then
        some ((0 : Int))
      else
        some ((1 : Int))
    else
      some r2
  else
    some r1
def slices_Grow_Bound_k1 (l1 : List Bound) : Option ((List Bound)) :=
  some l1
def slices_Grow_Bound (a1 : Int) : Option ((List Bound)) :=
  if a1 < 0 then
    none
  else
    gd (InR (0 - 0)) <|
    gd (InR (a1 - (0 - 0))) <|
    if (0 : Int) < (a1 - (0 - 0)) then
      gd (1 ≤ a1 - (0 - 0) ∧ (a1 - (0 - 0)) ≤ 1000000) <|
      gd (0 ≤ ((0 : Int)) ∧ ((0 : Int)) ≤ (((List.replicate (Int.toNat (a1 - (0 - 0))) ((⟨0, 0, 0⟩ : Bound) : Bound))).length : Int)) <|
      slices_Grow_Bound_k1 (((List.take 0 ((List.replicate (Int.toNat (a1 - (0 - 0))) ((⟨0, 0, 0⟩ : Bound) : Bound))))))
    else
      slices_Grow_Bound_k1 ((([] : List Bound)))
def slices_Concat_Bound_k1 (l1 : List Bound) : Option ((List Bound)) :=
  some l1
def slices_Concat_Bound_B1 (a0 : List (List Bound)) (rec1 : Int → (List Bound) → Option ((List Bound))) (t27_1 : Int) (l2 : List Bound) : Option ((List Bound)) :=
  if t27_1 < ((a0.length : Int)) then
    ix a0 t27_1 fun x1 =>
    gd (l2.length + x1.length ≤ 1000000) <|
    gd (InR (t27_1 + 1)) <|
    rec1 ((t27_1 + 1)) (((l2 ++ x1)))
  else
    slices_Concat_Bound_k1 l2
def slices_Concat_Bound_L1 (a0 : List (List Bound)) : Nat → Int → (List Bound) → Option ((List Bound))
  | 0, _, _ => none
  | n_ + 1, t27_1, l2 => slices_Concat_Bound_B1 a0 (slices_Concat_Bound_L1 a0 n_) t27_1 l2
theorem slices_Concat_Bound_L1_s {a0 : List (List Bound)} {m_ : Nat} {t27_1 : Int} {l2 : List Bound} {res : (List Bound)} (h : slices_Concat_Bound_L1 a0 m_ t27_1 l2 = some res) : ∃ k, m_ = k + 1 ∧ slices_Concat_Bound_B1 a0 (slices_Concat_Bound_L1 a0 k) t27_1 l2 = some res := by
  cases m_ with
  | zero => cases h
  | succ k => exact ⟨k, rfl, h⟩
def slices_Concat_Bound_k2 (a0 : List (List Bound)) (t3_1 : Int) : Option ((List Bound)) :=
  bnd (slices_Grow_Bound t3_1) fun r1 =>
  slices_Concat_Bound_L1 a0 FU (((0 : Int))) r1
def slices_Concat_Bound_B2 (a0 : List (List Bound)) (rec2 : Int → Int → Option ((List Bound))) (t3_2 : Int) (t11_1 : Int) : Option ((List Bound)) :=
  if t11_1 < ((a0.length : Int)) then
    ix a0 t11_1 fun x2 =>
    gd (InR (t3_2 + ((x2.length : Int)))) <|
    if (t3_2 + ((x2.length : Int))) < 0 then
      none
    else
      gd (InR (t11_1 + 1)) <|
      rec2 ((t3_2 + ((x2.length : Int)))) ((t11_1 + 1))
  else
    slices_Concat_Bound_k2 a0 t3_2
def slices_Concat_Bound_L2 (a0 : List (List Bound)) : Nat → Int → Int → Option ((List Bound))
  | 0, _, _ => none
  | n_ + 1, t3_2, t11_1 => slices_Concat_Bound_B2 a0 (slices_Concat_Bound_L2 a0 n_) t3_2 t11_1
theorem slices_Concat_Bound_L2_s {a0 : List (List Bound)} {m_ : Nat} {t3_2 : Int} {t11_1 : Int} {res : (List Bound)} (h : slices_Concat_Bound_L2 a0 m_ t3_2 t11_1 = some res) : ∃ k, m_ = k + 1 ∧ slices_Concat_Bound_B2 a0 (slices_Concat_Bound_L2 a0 k) t3_2 t11_1 = some res := by
  cases m_ with
  | zero => cases h
  | succ k => exact ⟨k, rfl, h⟩
def slices_Concat_Bound (a0 : List (List Bound)) : Option ((List Bound)) :=
  slices_Concat_Bound_L2 a0 FU (((0 : Int))) (((0 : Int)))
def core_Both (a0 : Core) (a1 : Core) : Option (Core × Int) :=
  bnd (core_both a0 a1) fun r1 =>
  if r1 = 0 then
    gd (InR (((a0.bounds.length : Int)) + ((a1.bounds.length : Int)))) <|
    if (20 : Int) < (((a0.bounds.length : Int)) + ((a1.bounds.length : Int))) then
      some ((⟨0, []⟩ : Core), (3 : Int))
    else
      bnd (slices_Concat_Bound (([a0.bounds, a1.bounds] : List (List Bound)))) fun r2 =>
      some ((⟨a0.layers, r2⟩ : Core), (0 : Int))
  else
    some ((⟨0, []⟩ : Core), r1)
def ref03_two (a0 : Core) (a1 : Core) : Option Int :=
  bnd (ref03_Validate a0) fun r1 =>
  if r1 = 0 then
    bnd (ref03_Validate a1) fun r2 =>
    if r2 = 0 then
      if a0.layers = a1.layers then
        some ((0 : Int))
      else
        some ((1 : Int))
    else
      some r2
  else
    some r1
def ref03_Both (a0 : Core) (a1 : Core) : Option (Core × Int) :=
  bnd (ref03_two a0 a1) fun r1 =>
  if r1 = 0 then
    gd (InR (((a0.bounds.length : Int)) + ((a1.bounds.length : Int)))) <|
    if (20 : Int) < (((a0.bounds.length : Int)) + ((a1.bounds.length : Int))) then
      some ((⟨0, []⟩ : Core), (3 : Int))
    else
      bnd (ref03_Copy a0) fun r2 =>
      gd (r2.bounds.length + a1.bounds.length ≤ 1000000) <|
      some ((⟨r2.layers, (r2.bounds ++ a1.bounds)⟩ : Core), (0 : Int))
  else
    some ((⟨0, []⟩ : Core), r1)
end Go.D3

set_option linter.unusedVariables false
namespace Go.D3
open Go.Tb Go.Core
def law03_CoreBoths_k1 (a0 : Core) (a1 : Core) (a2 : List Int) (r1 : Core × Int) (t46_1 : Bool) : Option Bool :=
  if t46_1 = true then
    some false
  else
    bnd (core_CheckDates a0 a2) fun r2 =>
    bnd (core_CheckDates a1 a2) fun r3 =>
    bnd (core_CheckDates r1.1 a2) fun r4 =>
    if r1.2 = 0 then
      if r2 = 0 then
        if ((decide (r4 = 0)) == (decide (r3 = 0))) = true then
          bnd (law03_known) fun r5 =>
          some r5
        else
          some false
      else
        if r2 = 7 then
          if ((decide (r4 = 0)) == false) = true then
            bnd (law03_known) fun r6 =>
            some r6
          else
            some false
        else
          bnd (law03_known) fun r7 =>
          some r7
    else
      bnd (law03_known) fun r8 =>
      some r8
def law03_CoreBoths_k2 (a0 : Core) (a1 : Core) (a2 : List Int) (t24_1 : Bool) : Option Bool :=
  if t24_1 = true then
    bnd (law03_known) fun r9 =>
    some r9
  else
    bnd (core_Both a0 a1) fun r1 =>
    bnd (ref03_Both a0 a1) fun r10 =>
    bnd (ref03_Equal r1.1 r10.1) fun r11 =>
    if r11 = true then
      law03_CoreBoths_k1 a0 a1 a2 r1 ((!(decide (r1.2 = r10.2))))
    else
      law03_CoreBoths_k1 a0 a1 a2 r1 true
def law03_CoreBoths (a0 : Core) (a1 : Core) (a2 : List Int) : Option Bool :=
  bnd (law03_Long a0) fun r12 =>
  if r12 = true then
    law03_CoreBoths_k2 a0 a1 a2 true
  else
    bnd (law03_Long a1) fun r13 =>
    if r13 = true then
      law03_CoreBoths_k2 a0 a1 a2 true
    else
      law03_CoreBoths_k2 a0 a1 a2 ((decide ((100 : Int) < ((a2.length : Int)))))
end Go.D3

set_option linter.unusedVariables false
set_option linter.unusedSimpArgs false
namespace Go.D3
open Go.Tb Go.Proofs Go.RowKit Go.Core
theorem Tc74 : callable Try.prog 74 = true := by kernel_rfl
theorem Tc75 : callable Try.prog 75 = true := by kernel_rfl
theorem Tc76 : callable Try.prog 76 = true := by kernel_rfl
theorem Tc88 : callable Try.prog 88 = true := by kernel_rfl
theorem Ts102 : tyS Try.prog 102 = some (22, 1, 24, [.slice none 0 0]) := by kernel_rfl
theorem Tu3 : Try.prog.underlying 3 = some (.int .i64) := by kernel_rfl
set_option maxRecDepth 20000 in
set_option maxHeartbeats 1000000 in
theorem core_both_ok {a0 : Core} {a1 : Core} {A_a0_bounds : Option Addr} {c_a0_bounds : Nat} {A_a1_bounds : Option Addr} {c_a1_bounds : Nat} {w : World} {res : Int} (h_a0_bounds : Sl w A_a0_bounds c_a0_bounds 3 (a0.bounds.map encBound)) (h_a1_bounds : Sl w A_a1_bounds c_a1_bounds 3 (a1.bounds.map encBound)) (F : core_both a0 a1 = some res) : Calls Try.prog 74 #[.agg #[.int .i64 a0.layers, .slice A_a0_bounds a0.bounds.length c_a0_bounds], .agg #[.int .i64 a1.layers, .slice A_a1_bounds a1.bounds.length c_a1_bounds]] w (Rt w (.int .i64 res)) := by
  refine calls_of_cw (args := [.agg #[.int .i64 a0.layers, .slice A_a0_bounds a0.bounds.length c_a0_bounds], .agg #[.int .i64 a1.layers, .slice A_a1_bounds a1.bounds.length c_a1_bounds]]) Try.func74 rfl rfl rfl rfl ?_
  have H := Hp.start w
  have R0 := H.ext
  unfold core_both at F
  refine CW.seq fun K1 hK1 => ?_
  refine CW.region ?_
  refine LW.go rfl rfl (OW.box rfl fun b1 w1 N1 => ?_)
  replace H := H.new N1 N1.blk
  replace R0 := H.ext
  refine LW.go rfl rfl (OW.box rfl fun b2 w2 N2 => ?_)
  replace H := H.new N2 N2.blk
  replace R0 := H.ext
  refine LW.pure rfl rfl (RV.assign rfl) ?_
  refine LW.nil (hK1 _ _ ?_)
  refine CW.seq fun K2 hK2 => ?_
  refine CW.seq fun K3 hK3 => ?_
  obtain ⟨r1, hr1, F⟩ := bnd_some F
  refine CW.region ?_
  refine LW.pure rfl rfl (RV.loadA [.int .i64 a0.layers, .slice A_a0_bounds a0.bounds.length c_a0_bounds] Tk24 rfl (H.blk 1 rfl).cells rfl rfl) ?_
  refine LW.go rfl rfl (OW.call Tc36 rfl (core_Validate_ok (a0 := a0) (h_a0_bounds.ext R0) hr1) ?_)
  rintro _ w3 ⟨rfl, E1⟩
  refine ⟨_, rfl, ?_⟩
  replace H := H.grow E1
  replace R0 := H.ext
  refine LW.pure rfl rfl (RV.assign rfl) ?_
  refine LW.nil (hK3 _ _ ?_)
  refine CW.seq fun K4 hK4 => ?_
  refine CW.region ?_
  refine LW.pure rfl rfl (RV.move rfl) ?_
  refine LW.pure rfl rfl (RV.nei rfl rfl) ?_
  refine LW.nil (hK4 _ _ ?_)
  by_cases hp1 : r1 = 0
  ·
    replace F := ite_y hp1 F
    have hq1 := dec_t hp1
    refine CW.condF rfl (not_f hq1) ?_
    refine CW.skip (hK2 _ _ ?_)
    refine CW.seq fun K5 hK5 => ?_
    refine CW.seq fun K6 hK6 => ?_
    obtain ⟨r2, hr2, F⟩ := bnd_some F
    refine CW.region ?_
    refine LW.pure rfl rfl (RV.loadA [.int .i64 a1.layers, .slice A_a1_bounds a1.bounds.length c_a1_bounds] Tk24 rfl (H.blk 0 rfl).cells rfl rfl) ?_
    refine LW.go rfl rfl (OW.call Tc36 rfl (core_Validate_ok (a0 := a1) (h_a1_bounds.ext R0) hr2) ?_)
    rintro _ w4 ⟨rfl, E2⟩
    refine ⟨_, rfl, ?_⟩
    replace H := H.grow E2
    replace R0 := H.ext
    refine LW.pure rfl rfl (RV.assign rfl) ?_
    refine LW.nil (hK6 _ _ ?_)
    refine CW.seq fun K7 hK7 => ?_
    refine CW.region ?_
    refine LW.pure rfl rfl (RV.move rfl) ?_
    refine LW.pure rfl rfl (RV.nei rfl rfl) ?_
    refine LW.nil (hK7 _ _ ?_)
    by_cases hp2 : r2 = 0
    ·
      replace F := ite_y hp2 F
      have hq2 := dec_t hp2
      refine CW.condF rfl (not_f hq2) ?_
      refine CW.skip (hK5 _ _ ?_)
      refine CW.seq fun K8 hK8 => ?_
      refine CW.seq fun K9 hK9 => ?_
      refine CW.region ?_
      refine LW.pure rfl rfl (RV.fieldAddr Tf24_0 rfl) ?_
      refine LW.pure rfl rfl (RV.load1 Tk3 rfl ((H.blk 1 rfl).cells.off 0) rfl) ?_
      refine LW.pure rfl rfl (RV.fieldAddr Tf24_0 rfl) ?_
      refine LW.pure rfl rfl (RV.load1 Tk3 rfl ((H.blk 0 rfl).cells.off 0) rfl) ?_
      refine LW.pure rfl rfl (RV.nei rfl rfl) ?_
      refine LW.nil (hK9 _ _ ?_)
      by_cases hp3 : a0.layers = a1.layers
      ·
        replace F := ite_y hp3 F
        have hq3 := dec_t hp3
        refine CW.condF rfl (not_f hq3) ?_
        refine CW.skip (hK8 _ _ ?_)
        refine CW.seq fun K10 hK10 => ?_
        refine CW.region ?_
        refine LW.pure rfl rfl (RV.assign rfl) ?_
        refine LW.nil (hK10 _ _ ?_)
        refine CW.ret ?_
        obtain rfl := Option.some.inj F
        refine ⟨_, (ResOK.one rfl), ?_⟩
        refine ⟨(by first | rfl | simp), R0⟩
      ·
        replace F := ite_n hp3 F
        have hq3 := dec_f hp3
        refine CW.condT rfl (not_t hq3) ?_
        refine CW.seq fun K11 hK11 => ?_
        refine CW.region ?_
        refine LW.pure rfl rfl (RV.assign rfl) ?_
        refine LW.nil (hK11 _ _ ?_)
        refine CW.ret ?_
        obtain rfl := Option.some.inj F
        refine ⟨_, (ResOK.one rfl), ?_⟩
        refine ⟨(by first | rfl | simp), R0⟩
    ·
      replace F := ite_n hp2 F
      have hq2 := dec_f hp2
      refine CW.condT rfl (not_t hq2) ?_
      refine CW.seq fun K12 hK12 => ?_
      refine CW.region ?_
      refine LW.pure rfl rfl (RV.move rfl) ?_
      refine LW.pure rfl rfl (RV.assign rfl) ?_
      refine LW.nil (hK12 _ _ ?_)
      refine CW.ret ?_
      obtain rfl := Option.some.inj F
      refine ⟨_, (ResOK.one rfl), ?_⟩
      refine ⟨(by first | rfl | simp), R0⟩
  ·
    replace F := ite_n hp1 F
    have hq1 := dec_f hp1
    refine CW.condT rfl (not_t hq1) ?_
    refine CW.seq fun K13 hK13 => ?_
    refine CW.region ?_
    refine LW.pure rfl rfl (RV.move rfl) ?_
    refine LW.pure rfl rfl (RV.assign rfl) ?_
    refine LW.nil (hK13 _ _ ?_)
    refine CW.ret ?_
    obtain rfl := Option.some.inj F
    refine ⟨_, (ResOK.one rfl), ?_⟩
    refine ⟨(by first | rfl | simp), R0⟩
set_option maxRecDepth 20000 in
set_option maxHeartbeats 1000000 in
theorem slices_Grow_Bound_ok {a1 : Int} {w : World} {res : (List Bound)} (F : slices_Grow_Bound a1 = some res) : Calls Try.prog 88 #[.slice none 0 0, .int .i64 a1] w (fun e w' => ∃ (A0 : Option Addr) (c1 : Nat), e = .returned (.slice A0 res.length c1) ∧ Hp w w' [.own A0 c1 26 3 (List.map encBound res)]) := by
  refine calls_of_cw (args := [.slice none 0 0, .int .i64 a1]) Try.func88 rfl rfl rfl rfl ?_
  have H := Hp.start w
  have R0 := H.ext
  unfold slices_Grow_Bound at F
  refine CW.seq fun K1 hK1 => ?_
  refine CW.region ?_
  refine LW.pure rfl rfl (RV.assign rfl) ?_
  refine LW.nil (hK1 _ _ ?_)
  refine CW.seq fun K2 hK2 => ?_
  refine CW.seq fun K3 hK3 => ?_
  refine CW.region ?_
  refine LW.pure rfl rfl (RV.move rfl) ?_
  refine LW.pure rfl rfl (RV.lss rfl rfl) ?_
  refine LW.nil (hK3 _ _ ?_)
  by_cases hp1 : a1 < 0
  ·
    replace F := ite_y hp1 F
    have hq1 := dec_t hp1
    refine CW.condT rfl hq1 ?_
    cases F
  ·
    replace F := ite_n hp1 F
    have hq1 := dec_f hp1
    refine CW.condF rfl hq1 ?_
    refine CW.skip (hK2 _ _ ?_)
    refine CW.seqJ (fun ρ wl1 => (∃ (l1 : List Bound) (Al1 : Option Addr) (cl1 : Nat), slices_Grow_Bound_k1 l1 = some res ∧ ρ = [(0, .slice Al1 l1.length cl1), (4, .slice none 0 0)] ∧ Hp w wl1 [.own Al1 cl1 26 3 (List.map encBound l1)])) ?_ ?_
    ·
      rintro _ wl1 ⟨l1, Al1, cl1, F, rfl, H⟩
      have R0 := H.ext
      unfold slices_Grow_Bound_k1 at F
      refine CW.seq fun K4 hK4 => ?_
      refine CW.region ?_
      refine LW.pure rfl rfl (RV.move rfl) ?_
      refine LW.pure rfl rfl (RV.assign rfl) ?_
      refine LW.nil (hK4 _ _ ?_)
      refine CW.ret ?_
      obtain rfl := Option.some.inj F
      refine ⟨_, (ResOK.one rfl), ?_⟩
      exact ⟨Al1, cl1, (by first | rfl | (simp; done) | (simp; omega)), H⟩
    ·
      intro K5 hK5 jK18
      refine CW.seq fun K6 hK6 => ?_
      obtain ⟨hg1, F⟩ := gd_some F
      obtain ⟨hg2, F⟩ := gd_some F
      refine CW.region ?_
      refine LW.pure rfl rfl (RV.move rfl) ?_
      refine LW.pure rfl rfl (RV.move rfl) ?_
      refine LW.pure rfl rfl (RV.cap Ts22 rfl) ?_
      refine LW.pure rfl rfl (RV.move rfl) ?_
      refine LW.pure rfl rfl (RV.len Ts22 rfl) ?_
      refine LW.pure rfl rfl (RV.sub rfl rfl hg1) ?_
      refine LW.pure rfl rfl (RV.sub rfl rfl hg2) ?_
      refine LW.pure rfl rfl (RV.assign rfl) ?_
      refine LW.nil (hK6 _ _ ?_)
      refine CW.seq fun K7 hK7 => ?_
      refine CW.region ?_
      refine LW.pure rfl rfl (RV.move rfl) ?_
      refine LW.pure rfl rfl (RV.gtr rfl rfl) ?_
      refine LW.nil (hK7 _ _ ?_)
      by_cases hp2 : (0 : Int) < (a1 - (0 - 0))
      ·
        replace F := ite_y hp2 F
        have hq2 := dec_t hp2
        refine CW.condT rfl hq2 ?_
        obtain ⟨hg3, F⟩ := gd_some F
        obtain ⟨hg4, F⟩ := gd_some F
        refine CW.region ?_
        refine LW.pure rfl rfl (RV.move rfl) ?_
        refine LW.pure rfl rfl (RV.move rfl) ?_
        refine LW.pure rfl rfl (RV.cap Ts22 rfl) ?_
        refine LW.pure rfl rfl (RV.sliceHi Ts22 rfl rfl (by decide)) ?_
        refine LW.pure rfl rfl (RV.move rfl) ?_
        refine LW.go rfl rfl (OW.appendZ (enc := encBound) ((⟨0, 0, 0⟩ : Bound) : Bound) Ts22 Tu3 rfl rfl rfl rfl (fun _ => rfl) rfl hg3 (by decide) fun b1 c2 w1 O1 N1 E1 => ?_)
        replace H : Hp w w1 [.own (some ⟨b1, 0, none⟩) c2 26 3 (List.map encBound ((List.replicate (Int.toNat (a1 - (0 - 0))) ((⟨0, 0, 0⟩ : Bound) : Bound))))] := H.newOwn E1 O1 (by intro a ha; cases ha; exact Nat.le_of_eq N1.symm)
        replace R0 := H.ext
        refine LW.pure rfl rfl (RV.move rfl) ?_
        refine LW.pure rfl rfl (RV.len Ts22 rfl) ?_
        refine LW.pure rfl rfl (RV.cutH (l := (List.replicate (Int.toNat (a1 - (0 - 0))) ((⟨0, 0, 0⟩ : Bound) : Bound))) Ts22 rfl rfl hg4 (H.own 0 rfl).sl.le rfl) ?_
        replace H : Hp w w1 [.own (some ⟨b1, 0, none⟩) c2 26 3 (List.map encBound ((List.take 0 ((List.replicate (Int.toNat (a1 - (0 - 0))) ((⟨0, 0, 0⟩ : Bound) : Bound))))))] := H.weaken 0 rfl (y := .own (some ⟨b1, 0, none⟩) c2 26 3 (List.map encBound ((List.take 0 ((List.replicate (Int.toNat (a1 - (0 - 0))) ((⟨0, 0, 0⟩ : Bound) : Bound))))))) (Own.shrink (rows := List.map encBound (List.take 0 ((List.replicate (Int.toNat (a1 - (0 - 0))) ((⟨0, 0, 0⟩ : Bound) : Bound))))) (news := List.map encBound (List.drop 0 ((List.replicate (Int.toNat (a1 - (0 - 0))) ((⟨0, 0, 0⟩ : Bound) : Bound))))) (by rw [← List.map_append, List.take_append_drop]; exact (H.own 0 rfl)) (by simp)) (fun _ h => h)
        replace R0 := H.ext
        refine LW.pure rfl rfl (RV.assign rfl) ?_
        refine LW.nil (jK18 _ _ ⟨_, ?_, ⟨((List.take 0 ((List.replicate (Int.toNat (a1 - (0 - 0))) ((⟨0, 0, 0⟩ : Bound) : Bound))))), (some ⟨b1, 0, none⟩), c2, F, rfl, H⟩⟩)
        exact ⟨(look_slice rfl (by first | rfl | (simp; done) | (simp; omega))), rfl, trivial⟩
      ·
        replace F := ite_n hp2 F
        have hq2 := dec_f hp2
        refine CW.condF rfl hq2 ?_
        replace H := H.nilOwn 26 3
        replace R0 := H.ext
        refine CW.skip (jK18 _ _ ⟨_, ?_, ⟨(([] : List Bound)), none, 0, F, rfl, H⟩⟩)
        exact ⟨(look_slice rfl (by first | rfl | (simp; done) | (simp; omega))), rfl, trivial⟩
set_option maxRecDepth 20000 in
set_option maxHeartbeats 1000000 in
theorem slices_Concat_Bound_ok {a0 : List (List Bound)} {A_a0 : Option Addr} {c_a0 : Nat} {w : World} {res : (List Bound)} (h_a0 : Sl2 w A_a0 c_a0 3 encBound a0) (F : slices_Concat_Bound a0 = some res) : Calls Try.prog 75 #[.slice A_a0 a0.length c_a0] w (fun e w' => ∃ (A1 : Option Addr) (c1 : Nat), e = .returned (.slice A1 res.length c1) ∧ Hp w w' [.own A1 c1 26 3 (List.map encBound res)]) := by
  refine calls_of_cw (args := [.slice A_a0 a0.length c_a0]) Try.func75 rfl rfl rfl rfl ?_
  have H := Hp.start w
  have R0 := H.ext
  unfold slices_Concat_Bound at F
  refine CW.seq fun K1 hK1 => ?_
  refine CW.region ?_
  refine LW.pure rfl rfl (RV.assign rfl) ?_
  refine LW.nil (hK1 _ _ ?_)
  refine CW.seq fun K2 hK2 => ?_
  refine CW.region ?_
  refine LW.pure rfl rfl (RV.assign rfl) ?_
  refine LW.nil (hK2 _ _ ?_)
  refine CW.seqJ (fun ρ wl1 => (∃ (t3_1 : Int), slices_Concat_Bound_k2 a0 t3_1 = some res ∧ ρ = [(0, .slice A_a0 a0.length c_a0), (2, .slice none 0 0), (3, .int .i64 t3_1)] ∧ Hp w wl1 [])) ?_ ?_
  ·
    rintro _ wl1 ⟨t3_1, F, rfl, H⟩
    have R0 := H.ext
    unfold slices_Concat_Bound_k2 at F
    refine CW.seq fun K3 hK3 => ?_
    obtain ⟨r1, hr1, F⟩ := bnd_some F
    refine CW.region ?_
    refine LW.pure rfl rfl (RV.move rfl) ?_
    refine LW.go rfl rfl (OW.call Tc88 rfl (slices_Grow_Bound_ok (a1 := t3_1) hr1) ?_)
    rintro _ w1 ⟨A3_0, c3_0, rfl, E1⟩
    refine ⟨_, rfl, ?_⟩
    replace H : Hp w w1 [.own A3_0 c3_0 26 3 (List.map encBound r1)] := H.append E1
    replace R0 := H.ext
    refine LW.pure rfl rfl (RV.assign rfl) ?_
    refine LW.nil (hK3 _ _ ?_)
    refine CW.seqJ (fun ρ wl2 => (∃ (l1 : List Bound) (Al1 : Option Addr) (cl1 : Nat), slices_Concat_Bound_k1 l1 = some res ∧ ρ = [(2, .slice none 0 0), (6, .slice Al1 l1.length cl1)] ∧ Hp w wl2 [.own Al1 cl1 26 3 (List.map encBound l1)])) ?_ ?_
    ·
      rintro _ wl2 ⟨l1, Al1, cl1, F, rfl, H⟩
      have R0 := H.ext
      unfold slices_Concat_Bound_k1 at F
      refine CW.seq fun K4 hK4 => ?_
      refine CW.region ?_
      refine LW.pure rfl rfl (RV.move rfl) ?_
      refine LW.pure rfl rfl (RV.assign rfl) ?_
      refine LW.nil (hK4 _ _ ?_)
      refine CW.ret ?_
      obtain rfl := Option.some.inj F
      refine ⟨_, (ResOK.one rfl), ?_⟩
      exact ⟨Al1, cl1, (by first | rfl | (simp; done) | (simp; omega)), H⟩
    ·
      intro K5 hK5 jK134
      refine CW.seq fun K6 hK6 => ?_
      refine CW.region ?_
      refine LW.pure rfl rfl (RV.move rfl) ?_
      refine LW.pure rfl rfl (RV.len Ts102 rfl) ?_
      refine LW.pure rfl rfl (RV.move rfl) ?_
      refine LW.nil (hK6 _ _ ?_)
      refine CW.block ?_
      refine CW.loop (fun meas ρ wl3 => ∃ (t27_1 : Int) (l2 : List Bound) (Al2 : Option Addr) (cl2 : Nat), slices_Concat_Bound_L1 a0 meas t27_1 l2 = some res ∧ ρ = [(2, .slice none 0 0), (6, .slice Al2 l2.length cl2), (25, .slice A_a0 a0.length c_a0), (26, .int .i64 ((a0.length : Int))), (27, .int .i64 t27_1)] ∧ Hp w wl3 [.own Al2 cl2 26 3 (List.map encBound l2)]) FU ⟨_, ?_, ((0 : Int)), r1, A3_0, c3_0, F, rfl, H⟩ ?_
      · exact ⟨rfl, (look_slice rfl (by first | rfl | (simp; done) | (simp; omega))), rfl, rfl, rfl, trivial⟩
      rintro mk1 _ wl3 ⟨t27_1, l2, Al2, cl2, F, rfl, H⟩
      have R0 := H.ext
      replace F := slices_Concat_Bound_L1_s F
      obtain ⟨mk1, rfl, F⟩ := F
      generalize hrec1 : slices_Concat_Bound_L1 a0 mk1 = rec1 at F
      unfold slices_Concat_Bound_B1 at F
      refine CW.seq fun K7 hK7 => ?_
      refine CW.region ?_
      refine LW.pure rfl rfl (RV.lss rfl rfl) ?_
      refine LW.nil (hK7 _ _ ?_)
      refine CW.seq fun K8 hK8 => ?_
      by_cases hp1 : t27_1 < ((a0.length : Int))
      ·
        replace F := ite_y hp1 F
        have hq1 := dec_t hp1
        refine CW.condT rfl hq1 ?_
        refine CW.skip (hK8 _ _ ?_)
        refine CW.seq fun K9 hK9 => ?_
        refine CW.block ?_
        refine CW.seq fun K10 hK10 => ?_
        obtain ⟨x1, hbx1, hx1, F⟩ := ix_some F
        refine CW.region ?_
        obtain ⟨A2, c2, hC1, hS1⟩ := h_a0.at_ hx1
        refine LW.pure rfl rfl (RV.indexAddr Ts102 rfl rfl hbx1 (h_a0.addr hbx1)) ?_
        refine LW.pure rfl rfl (RV.load1 Tk22 rfl (hC1.ext R0) rfl) ?_
        refine LW.pure rfl rfl (RV.assign rfl) ?_
        refine LW.nil (hK10 _ _ ?_)
        obtain ⟨hg1, F⟩ := gd_some F
        refine CW.region ?_
        refine LW.pure rfl rfl (RV.move rfl) ?_
        refine LW.pure rfl rfl (RV.move rfl) ?_
        refine LW.go rfl rfl (OW.appendG (enc := encBound) (l := l2) (xs := x1) Ts22 rfl rfl (H.own 0 rfl) (hS1.ext R0) (fun _ => rfl) rfl rfl hg1 (by decide) fun A3 c3 w2 O1 M1 D1 => ?_)
        replace H : Hp w w2 [.own A3 c3 26 3 (List.map encBound ((l2 ++ x1)))] := H.mod 0 rfl M1 O1 D1
        replace R0 := H.ext
        refine LW.pure rfl rfl (RV.assign rfl) ?_
        refine LW.nil (hK9 _ _ ?_)
        obtain ⟨hg2, F⟩ := gd_some F
        refine CW.region ?_
        refine LW.pure rfl rfl (RV.add rfl rfl hg2) ?_
        refine LW.pure rfl rfl (RV.move rfl) ?_
        refine LW.nil ?_
        subst hrec1
        refine ⟨mk1, Nat.lt_succ_self _, _, ?_, (t27_1 + 1), ((l2 ++ x1)), A3, c3, F, rfl, H⟩
        exact ⟨rfl, (look_slice rfl (by first | rfl | (simp; done) | (simp; omega))), rfl, rfl, rfl, trivial⟩
      ·
        replace F := ite_n hp1 F
        have hq1 := dec_f hp1
        refine CW.condF rfl hq1 ?_
        refine CW.exit (jK134 _ _ ⟨_, ?_, ⟨l2, Al2, cl2, F, rfl, H⟩⟩)
        exact ⟨rfl, (look_slice rfl (by first | rfl | (simp; done) | (simp; omega))), trivial⟩
  ·
    intro K11 hK11 jK148
    refine CW.seq fun K12 hK12 => ?_
    refine CW.region ?_
    refine LW.pure rfl rfl (RV.move rfl) ?_
    refine LW.pure rfl rfl (RV.len Ts102 rfl) ?_
    refine LW.pure rfl rfl (RV.move rfl) ?_
    refine LW.nil (hK12 _ _ ?_)
    refine CW.block ?_
    refine CW.loop (fun meas ρ wl4 => ∃ (t3_2 : Int) (t11_1 : Int), slices_Concat_Bound_L2 a0 meas t3_2 t11_1 = some res ∧ ρ = [(0, .slice A_a0 a0.length c_a0), (2, .slice none 0 0), (3, .int .i64 t3_2), (9, .slice A_a0 a0.length c_a0), (10, .int .i64 ((a0.length : Int))), (11, .int .i64 t11_1)] ∧ Hp w wl4 []) FU ⟨_, ?_, ((0 : Int)), ((0 : Int)), F, rfl, H⟩ ?_
    · exact ⟨rfl, rfl, rfl, rfl, rfl, rfl, trivial⟩
    rintro mk2 _ wl4 ⟨t3_2, t11_1, F, rfl, H⟩
    have R0 := H.ext
    replace F := slices_Concat_Bound_L2_s F
    obtain ⟨mk2, rfl, F⟩ := F
    generalize hrec2 : slices_Concat_Bound_L2 a0 mk2 = rec2 at F
    unfold slices_Concat_Bound_B2 at F
    refine CW.seq fun K13 hK13 => ?_
    refine CW.region ?_
    refine LW.pure rfl rfl (RV.lss rfl rfl) ?_
    refine LW.nil (hK13 _ _ ?_)
    refine CW.seq fun K14 hK14 => ?_
    by_cases hp2 : t11_1 < ((a0.length : Int))
    ·
      replace F := ite_y hp2 F
      have hq2 := dec_t hp2
      refine CW.condT rfl hq2 ?_
      refine CW.skip (hK14 _ _ ?_)
      refine CW.seq fun K15 hK15 => ?_
      refine CW.block ?_
      refine CW.seq fun K16 hK16 => ?_
      obtain ⟨x2, hbx2, hx2, F⟩ := ix_some F
      refine CW.region ?_
      obtain ⟨A4, c4, hC2, hS2⟩ := h_a0.at_ hx2
      refine LW.pure rfl rfl (RV.indexAddr Ts102 rfl rfl hbx2 (h_a0.addr hbx2)) ?_
      refine LW.pure rfl rfl (RV.load1 Tk22 rfl (hC2.ext R0) rfl) ?_
      refine LW.pure rfl rfl (RV.assign rfl) ?_
      refine LW.nil (hK16 _ _ ?_)
      refine CW.seq fun K17 hK17 => ?_
      obtain ⟨hg3, F⟩ := gd_some F
      refine CW.region ?_
      refine LW.pure rfl rfl (RV.move rfl) ?_
      refine LW.pure rfl rfl (RV.move rfl) ?_
      refine LW.pure rfl rfl (RV.len Ts22 rfl) ?_
      refine LW.pure rfl rfl (RV.add rfl rfl hg3) ?_
      refine LW.pure rfl rfl (RV.assign rfl) ?_
      refine LW.nil (hK17 _ _ ?_)
      refine CW.seq fun K18 hK18 => ?_
      refine CW.region ?_
      refine LW.pure rfl rfl (RV.move rfl) ?_
      refine LW.pure rfl rfl (RV.lss rfl rfl) ?_
      refine LW.nil (hK18 _ _ ?_)
      by_cases hp3 : (t3_2 + ((x2.length : Int))) < 0
      ·
        replace F := ite_y hp3 F
        have hq3 := dec_t hp3
        refine CW.condT rfl hq3 ?_
        cases F
      ·
        replace F := ite_n hp3 F
        have hq3 := dec_f hp3
        refine CW.condF rfl hq3 ?_
        refine CW.skip (hK15 _ _ ?_)
        obtain ⟨hg4, F⟩ := gd_some F
        refine CW.region ?_
        refine LW.pure rfl rfl (RV.add rfl rfl hg4) ?_
        refine LW.pure rfl rfl (RV.move rfl) ?_
        refine LW.nil ?_
        subst hrec2
        refine ⟨mk2, Nat.lt_succ_self _, _, ?_, (t3_2 + ((x2.length : Int))), (t11_1 + 1), F, rfl, H⟩
        exact ⟨rfl, rfl, rfl, rfl, rfl, rfl, trivial⟩
    ·
      replace F := ite_n hp2 F
      have hq2 := dec_f hp2
      refine CW.condF rfl hq2 ?_
      refine CW.exit (jK148 _ _ ⟨_, ?_, ⟨t3_2, F, rfl, H⟩⟩)
      exact ⟨rfl, rfl, rfl, trivial⟩
set_option maxRecDepth 20000 in
set_option maxHeartbeats 1000000 in
theorem core_Both_ok {a0 : Core} {a1 : Core} {A_a0_bounds : Option Addr} {c_a0_bounds : Nat} {A_a1_bounds : Option Addr} {c_a1_bounds : Nat} {w : World} {res : Core × Int} (h_a0_bounds : Sl w A_a0_bounds c_a0_bounds 3 (a0.bounds.map encBound)) (h_a1_bounds : Sl w A_a1_bounds c_a1_bounds 3 (a1.bounds.map encBound)) (F : core_Both a0 a1 = some res) : Calls Try.prog 45 #[.agg #[.int .i64 a0.layers, .slice A_a0_bounds a0.bounds.length c_a0_bounds], .agg #[.int .i64 a1.layers, .slice A_a1_bounds a1.bounds.length c_a1_bounds]] w (fun e w' => ∃ (A0_bounds : Option Addr) (c0_bounds : Nat), e = .returned (.tuple #[.agg #[.int .i64 res.1.layers, .slice A0_bounds res.1.bounds.length c0_bounds], .int .i64 res.2]) ∧ Hp w w' [.own A0_bounds c0_bounds 26 3 (List.map encBound res.1.bounds)]) := by
  refine calls_of_cw (args := [.agg #[.int .i64 a0.layers, .slice A_a0_bounds a0.bounds.length c_a0_bounds], .agg #[.int .i64 a1.layers, .slice A_a1_bounds a1.bounds.length c_a1_bounds]]) Try.func45 rfl rfl rfl rfl ?_
  have H := Hp.start w
  have R0 := H.ext
  unfold core_Both at F
  refine CW.seq fun K1 hK1 => ?_
  refine CW.region ?_
  refine LW.go rfl rfl (OW.box rfl fun b1 w1 N1 => ?_)
  replace H := H.new N1 N1.blk
  replace R0 := H.ext
  refine LW.go rfl rfl (OW.box rfl fun b2 w2 N2 => ?_)
  replace H := H.new N2 N2.blk
  replace R0 := H.ext
  refine LW.go rfl rfl (OW.alloc Tz24 fun b3 w3 N3 => ?_)
  replace H := H.new N3 N3.blk
  replace R0 := H.ext
  refine LW.pure rfl rfl (RV.assign rfl) ?_
  refine LW.nil (hK1 _ _ ?_)
  refine CW.seq fun K2 hK2 => ?_
  refine CW.seq fun K3 hK3 => ?_
  obtain ⟨r1, hr1, F⟩ := bnd_some F
  refine CW.region ?_
  refine LW.pure rfl rfl (RV.loadA [.int .i64 a0.layers, .slice A_a0_bounds a0.bounds.length c_a0_bounds] Tk24 rfl (H.blk 2 rfl).cells rfl rfl) ?_
  refine LW.pure rfl rfl (RV.loadA [.int .i64 a1.layers, .slice A_a1_bounds a1.bounds.length c_a1_bounds] Tk24 rfl (H.blk 1 rfl).cells rfl rfl) ?_
  refine LW.go rfl rfl (OW.call Tc74 rfl (core_both_ok (a0 := a0) (a1 := a1) (h_a0_bounds.ext R0) (h_a1_bounds.ext R0) hr1) ?_)
  rintro _ w4 ⟨rfl, E1⟩
  refine ⟨_, rfl, ?_⟩
  replace H := H.grow E1
  replace R0 := H.ext
  refine LW.pure rfl rfl (RV.assign rfl) ?_
  refine LW.nil (hK3 _ _ ?_)
  refine CW.seq fun K4 hK4 => ?_
  refine CW.region ?_
  refine LW.pure rfl rfl (RV.move rfl) ?_
  refine LW.pure rfl rfl (RV.nei rfl rfl) ?_
  refine LW.nil (hK4 _ _ ?_)
  by_cases hp1 : r1 = 0
  ·
    replace F := ite_y hp1 F
    have hq1 := dec_t hp1
    refine CW.condF rfl (not_f hq1) ?_
    refine CW.skip (hK2 _ _ ?_)
    refine CW.seq fun K5 hK5 => ?_
    refine CW.seq fun K6 hK6 => ?_
    obtain ⟨hg1, F⟩ := gd_some F
    refine CW.region ?_
    refine LW.pure rfl rfl (RV.fieldAddr Tf24_1 rfl) ?_
    refine LW.pure rfl rfl (RV.load1 Tk22 rfl ((H.blk 2 rfl).cells.off 1) rfl) ?_
    refine LW.pure rfl rfl (RV.len Ts22 rfl) ?_
    refine LW.pure rfl rfl (RV.fieldAddr Tf24_1 rfl) ?_
    refine LW.pure rfl rfl (RV.load1 Tk22 rfl ((H.blk 1 rfl).cells.off 1) rfl) ?_
    refine LW.pure rfl rfl (RV.len Ts22 rfl) ?_
    refine LW.pure rfl rfl (RV.add rfl rfl hg1) ?_
    refine LW.pure rfl rfl (RV.gtr rfl rfl) ?_
    refine LW.nil (hK6 _ _ ?_)
    by_cases hp2 : (20 : Int) < (((a0.bounds.length : Int)) + ((a1.bounds.length : Int)))
    ·
      replace F := ite_y hp2 F
      have hq2 := dec_t hp2
      refine CW.condT rfl hq2 ?_
      refine CW.seq fun K7 hK7 => ?_
      refine CW.region ?_
      refine LW.pure rfl rfl (RV.build (vs := []) (cs := [.int .i64 0, .slice none 0 0]) rfl (fun _ => by kernel_rfl)) ?_
      refine LW.go rfl rfl (OW.store Tk24 rfl rfl (H.blk 0 rfl) (off := 0) (vs := [.int .i64 0, .slice none 0 0]) rfl rfl rfl rfl rfl fun w5 S1 => ?_)
      replace H : Hp w w5 [.blk b3 24 [.int .i64 0, .slice none 0 0], .blk b2 24 [.int .i64 a1.layers, .slice A_a1_bounds a1.bounds.length c_a1_bounds], .blk b1 24 [.int .i64 a0.layers, .slice A_a0_bounds a0.bounds.length c_a0_bounds]] := H.stored 0 rfl S1
      replace R0 := H.ext
      refine LW.pure rfl rfl (RV.assign rfl) ?_
      refine LW.nil (hK7 _ _ ?_)
      refine CW.ret ?_
      obtain rfl := Option.some.inj F
      refine ⟨_, (ResOK.two ⟨_, rfl, run_loadVar_agg Tk24 (H.blk 0 rfl).cells (us := [.int .i64 0, .slice none 0 0]) rfl rfl⟩ rfl), ?_⟩
      replace H := H.nilOwn 26 3
      replace R0 := H.ext
      replace H := H.pick (L' := [.own none 0 26 3 (List.map encBound (([] : List Bound)))]) [0] (by decide) rfl
      replace R0 := H.ext
      exact ⟨none, 0, (by first | rfl | (simp; done) | (simp; omega)), H⟩
    ·
      replace F := ite_n hp2 F
      have hq2 := dec_f hp2
      refine CW.condF rfl hq2 ?_
      refine CW.skip (hK5 _ _ ?_)
      refine CW.seq fun K8 hK8 => ?_
      obtain ⟨r2, hr2, F⟩ := bnd_some F
      refine CW.draw [9] (fun _ => True) (.cons 0 1 (.cons 1 1 (.cons 2 1 (.cons 3 1 (.cons 4 1 (.cons 5 1 (.cons 6 0 (.cons 7 0 (.cons 8 1 (.cons 9 0 (.cons 10 2 .nil))))))))))) mixed (by kernel_rfl) fun w6 E2 => ?_
      replace H := H.grow E2
      replace R0 := H.ext
      refine DW.fix rfl rfl rfl (fun _ EQ => RV.fieldAddr Tf24_0 rfl) ?_
      refine DW.fix rfl rfl rfl (fun _ EQ => RV.load1 Tk3 rfl (((H.grow EQ).blk 2 rfl).cells.off 0) rfl) ?_
      refine DW.fix rfl rfl rfl (fun _ EQ => RV.fieldAddr Tf24_1 rfl) ?_
      refine DW.fix rfl rfl rfl (fun _ EQ => RV.load1 Tk22 rfl (((H.grow EQ).blk 2 rfl).cells.off 1) rfl) ?_
      refine DW.fix rfl rfl rfl (fun _ EQ => RV.fieldAddr Tf24_1 rfl) ?_
      refine DW.fix rfl rfl rfl (fun _ EQ => RV.load1 Tk22 rfl (((H.grow EQ).blk 1 rfl).cells.off 1) rfl) ?_
      refine DW.sole rfl rfl rfl (OW.buildSlice (e := 22) (vs := [.slice A_a0_bounds a0.bounds.length c_a0_bounds, .slice A_a1_bounds a1.bounds.length c_a1_bounds]) (cs := [.slice A_a0_bounds a0.bounds.length c_a0_bounds, .slice A_a1_bounds a1.bounds.length c_a1_bounds]) rfl (fun _ => by kernel_rfl) fun b4 w7 N4 => ?_)
      refine ⟨fun _ => N4.ext, ModX.ext N4.ext, ?_⟩
      replace H := H.made' (k := 1) (t := 22) (enc := encH) (l := ([((A_a0_bounds, c_a0_bounds), a0.bounds), ((A_a1_bounds, c_a1_bounds), a1.bounds)] : List ((Option Addr × Nat) × List Bound))) N4 (by have q := N4.blk; simp only [List.flatMap_cons, List.flatMap_nil, encH, List.length_nil, List.append_nil, List.cons_append, List.nil_append]; first | done | exact q) (fun _ => rfl) rfl (by first | decide | omega | (simp; done) | (simp; omega))
      replace R0 := H.ext
      have hS23 : Sl2 w7 (some ⟨b4, 0, none⟩) 2 3 encBound [a0.bounds, a1.bounds] := Sl2.two (H.own 0 rfl).sl (h_a0_bounds.ext R0) (h_a1_bounds.ext R0)
      refine DW.sole rfl rfl rfl (OW.call Tc75 (evs_cast rfl (by first | rfl | (simp; done) | (simp; omega))) (slices_Concat_Bound_ok (a0 := ([a0.bounds, a1.bounds] : List (List Bound))) hS23 hr2) ?_)
      rintro _ w8 ⟨A6_0, c6_0, rfl, E3⟩
      refine ⟨_, rfl, fun _ => E3.ext, ModX.ext E3.ext, ?_⟩
      have hS23 := hS23.ext E3.ext
      replace H : Hp w w8 [.own A6_0 c6_0 26 3 (List.map encBound r2), .own (some ⟨b4, 0, none⟩) ((([((A_a0_bounds, c_a0_bounds), a0.bounds), ((A_a1_bounds, c_a1_bounds), a1.bounds)] : List ((Option Addr × Nat) × List Bound))).length) 22 1 (List.map encH (([((A_a0_bounds, c_a0_bounds), a0.bounds), ((A_a1_bounds, c_a1_bounds), a1.bounds)] : List ((Option Addr × Nat) × List Bound)))), .blk b3 24 [.int .i64 0, .slice none 0 0], .blk b2 24 [.int .i64 a1.layers, .slice A_a1_bounds a1.bounds.length c_a1_bounds], .blk b1 24 [.int .i64 a0.layers, .slice A_a0_bounds a0.bounds.length c_a0_bounds]] := H.append E3
      replace R0 := H.ext
      refine DW.fix rfl rfl rfl (fun _ EQ => RV.build (vs := [.int .i64 a0.layers, .slice A6_0 r2.length c6_0]) (cs := [.int .i64 a0.layers, .slice A6_0 r2.length c6_0]) rfl (fun _ => by kernel_rfl)) ?_
      refine DW.sole rfl rfl rfl (OW.store Tk24 rfl rfl (H.blk 2 rfl) (off := 0) (vs := [.int .i64 a0.layers, .slice A6_0 r2.length c6_0]) rfl rfl rfl rfl rfl fun w9 S2 => ?_)
      refine ⟨fun h => absurd h (by decide), S2.modx trivial, ?_⟩
      replace H : Hp w w9 [.own A6_0 c6_0 26 3 (List.map encBound r2), .own (some ⟨b4, 0, none⟩) ((([((A_a0_bounds, c_a0_bounds), a0.bounds), ((A_a1_bounds, c_a1_bounds), a1.bounds)] : List ((Option Addr × Nat) × List Bound))).length) 22 1 (List.map encH (([((A_a0_bounds, c_a0_bounds), a0.bounds), ((A_a1_bounds, c_a1_bounds), a1.bounds)] : List ((Option Addr × Nat) × List Bound)))), .blk b3 24 [.int .i64 a0.layers, .slice A6_0 r2.length c6_0], .blk b2 24 [.int .i64 a1.layers, .slice A_a1_bounds a1.bounds.length c_a1_bounds], .blk b1 24 [.int .i64 a0.layers, .slice A_a0_bounds a0.bounds.length c_a0_bounds]] := H.stored 2 rfl S2
      replace R0 := H.ext
      refine DW.thru rfl rfl rfl (fun _ EQ => RV.assign rfl) ?_
      refine DW.nil (hK8 _ _ ?_)
      refine CW.ret ?_
      obtain rfl := Option.some.inj F
      refine ⟨_, (ResOK.two ⟨_, rfl, run_loadVar_agg Tk24 (H.blk 2 rfl).cells (us := [.int .i64 a0.layers, .slice A6_0 r2.length c6_0]) rfl rfl⟩ rfl), ?_⟩
      replace H := H.pick (L' := [.own A6_0 c6_0 26 3 (List.map encBound r2)]) [0] (by decide) rfl
      replace R0 := H.ext
      exact ⟨A6_0, c6_0, (by first | rfl | (simp; done) | (simp; omega)), H⟩
  ·
    replace F := ite_n hp1 F
    have hq1 := dec_f hp1
    refine CW.condT rfl (not_t hq1) ?_
    refine CW.seq fun K9 hK9 => ?_
    refine CW.region ?_
    refine LW.pure rfl rfl (RV.build (vs := []) (cs := [.int .i64 0, .slice none 0 0]) rfl (fun _ => by kernel_rfl)) ?_
    refine LW.pure rfl rfl (RV.move rfl) ?_
    refine LW.go rfl rfl (OW.store Tk24 rfl rfl (H.blk 0 rfl) (off := 0) (vs := [.int .i64 0, .slice none 0 0]) rfl rfl rfl rfl rfl fun w10 S3 => ?_)
    replace H : Hp w w10 [.blk b3 24 [.int .i64 0, .slice none 0 0], .blk b2 24 [.int .i64 a1.layers, .slice A_a1_bounds a1.bounds.length c_a1_bounds], .blk b1 24 [.int .i64 a0.layers, .slice A_a0_bounds a0.bounds.length c_a0_bounds]] := H.stored 0 rfl S3
    replace R0 := H.ext
    refine LW.pure rfl rfl (RV.assign rfl) ?_
    refine LW.nil (hK9 _ _ ?_)
    refine CW.ret ?_
    obtain rfl := Option.some.inj F
    refine ⟨_, (ResOK.two ⟨_, rfl, run_loadVar_agg Tk24 (H.blk 0 rfl).cells (us := [.int .i64 0, .slice none 0 0]) rfl rfl⟩ rfl), ?_⟩
    replace H := H.nilOwn 26 3
    replace R0 := H.ext
    replace H := H.pick (L' := [.own none 0 26 3 (List.map encBound (([] : List Bound)))]) [0] (by decide) rfl
    replace R0 := H.ext
    exact ⟨none, 0, (by first | rfl | (simp; done) | (simp; omega)), H⟩
set_option maxRecDepth 20000 in
set_option maxHeartbeats 1000000 in
theorem ref03_two_ok {a0 : Core} {a1 : Core} {A_a0_bounds : Option Addr} {c_a0_bounds : Nat} {A_a1_bounds : Option Addr} {c_a1_bounds : Nat} {w : World} {res : Int} (h_a0_bounds : Sl w A_a0_bounds c_a0_bounds 3 (a0.bounds.map encBound)) (h_a1_bounds : Sl w A_a1_bounds c_a1_bounds 3 (a1.bounds.map encBound)) (F : ref03_two a0 a1 = some res) : Calls Try.prog 76 #[.agg #[.int .i64 a0.layers, .slice A_a0_bounds a0.bounds.length c_a0_bounds], .agg #[.int .i64 a1.layers, .slice A_a1_bounds a1.bounds.length c_a1_bounds]] w (Rt w (.int .i64 res)) := by
  refine calls_of_cw (args := [.agg #[.int .i64 a0.layers, .slice A_a0_bounds a0.bounds.length c_a0_bounds], .agg #[.int .i64 a1.layers, .slice A_a1_bounds a1.bounds.length c_a1_bounds]]) Try.func76 rfl rfl rfl rfl ?_
  have H := Hp.start w
  have R0 := H.ext
  unfold ref03_two at F
  refine CW.seq fun K1 hK1 => ?_
  refine CW.region ?_
  refine LW.go rfl rfl (OW.box rfl fun b1 w1 N1 => ?_)
  replace H := H.new N1 N1.blk
  replace R0 := H.ext
  refine LW.go rfl rfl (OW.box rfl fun b2 w2 N2 => ?_)
  replace H := H.new N2 N2.blk
  replace R0 := H.ext
  refine LW.pure rfl rfl (RV.assign rfl) ?_
  refine LW.nil (hK1 _ _ ?_)
  refine CW.seq fun K2 hK2 => ?_
  refine CW.seq fun K3 hK3 => ?_
  obtain ⟨r1, hr1, F⟩ := bnd_some F
  refine CW.region ?_
  refine LW.pure rfl rfl (RV.loadA [.int .i64 a0.layers, .slice A_a0_bounds a0.bounds.length c_a0_bounds] Tk24 rfl (H.blk 1 rfl).cells rfl rfl) ?_
  refine LW.go rfl rfl (OW.call Tc37 rfl (ref03_Validate_ok (a0 := a0) (h_a0_bounds.ext R0) hr1) ?_)
  rintro _ w3 ⟨rfl, E1⟩
  refine ⟨_, rfl, ?_⟩
  replace H := H.grow E1
  replace R0 := H.ext
  refine LW.pure rfl rfl (RV.assign rfl) ?_
  refine LW.nil (hK3 _ _ ?_)
  refine CW.seq fun K4 hK4 => ?_
  refine CW.region ?_
  refine LW.pure rfl rfl (RV.move rfl) ?_
  refine LW.pure rfl rfl (RV.nei rfl rfl) ?_
  refine LW.nil (hK4 _ _ ?_)
  by_cases hp1 : r1 = 0
  ·
    replace F := ite_y hp1 F
    have hq1 := dec_t hp1
    refine CW.condF rfl (not_f hq1) ?_
    refine CW.skip (hK2 _ _ ?_)
    refine CW.seq fun K5 hK5 => ?_
    refine CW.seq fun K6 hK6 => ?_
    obtain ⟨r2, hr2, F⟩ := bnd_some F
    refine CW.region ?_
    refine LW.pure rfl rfl (RV.loadA [.int .i64 a1.layers, .slice A_a1_bounds a1.bounds.length c_a1_bounds] Tk24 rfl (H.blk 0 rfl).cells rfl rfl) ?_
    refine LW.go rfl rfl (OW.call Tc37 rfl (ref03_Validate_ok (a0 := a1) (h_a1_bounds.ext R0) hr2) ?_)
    rintro _ w4 ⟨rfl, E2⟩
    refine ⟨_, rfl, ?_⟩
    replace H := H.grow E2
    replace R0 := H.ext
    refine LW.pure rfl rfl (RV.assign rfl) ?_
    refine LW.nil (hK6 _ _ ?_)
    refine CW.seq fun K7 hK7 => ?_
    refine CW.region ?_
    refine LW.pure rfl rfl (RV.move rfl) ?_
    refine LW.pure rfl rfl (RV.nei rfl rfl) ?_
    refine LW.nil (hK7 _ _ ?_)
    by_cases hp2 : r2 = 0
    ·
      replace F := ite_y hp2 F
      have hq2 := dec_t hp2
      refine CW.condF rfl (not_f hq2) ?_
      refine CW.skip (hK5 _ _ ?_)
      refine CW.seq fun K8 hK8 => ?_
      refine CW.seq fun K9 hK9 => ?_
      refine CW.region ?_
      refine LW.pure rfl rfl (RV.fieldAddr Tf24_0 rfl) ?_
      refine LW.pure rfl rfl (RV.load1 Tk3 rfl ((H.blk 1 rfl).cells.off 0) rfl) ?_
      refine LW.pure rfl rfl (RV.fieldAddr Tf24_0 rfl) ?_
      refine LW.pure rfl rfl (RV.load1 Tk3 rfl ((H.blk 0 rfl).cells.off 0) rfl) ?_
      refine LW.pure rfl rfl (RV.nei rfl rfl) ?_
      refine LW.nil (hK9 _ _ ?_)
      by_cases hp3 : a0.layers = a1.layers
      ·
        replace F := ite_y hp3 F
        have hq3 := dec_t hp3
        refine CW.condF rfl (not_f hq3) ?_
        refine CW.skip (hK8 _ _ ?_)
        refine CW.seq fun K10 hK10 => ?_
        refine CW.region ?_
        refine LW.pure rfl rfl (RV.assign rfl) ?_
        refine LW.nil (hK10 _ _ ?_)
        refine CW.ret ?_
        obtain rfl := Option.some.inj F
        refine ⟨_, (ResOK.one rfl), ?_⟩
        refine ⟨(by first | rfl | simp), R0⟩
      ·
        replace F := ite_n hp3 F
        have hq3 := dec_f hp3
        refine CW.condT rfl (not_t hq3) ?_
        refine CW.seq fun K11 hK11 => ?_
        refine CW.region ?_
        refine LW.pure rfl rfl (RV.assign rfl) ?_
        refine LW.nil (hK11 _ _ ?_)
        refine CW.ret ?_
        obtain rfl := Option.some.inj F
        refine ⟨_, (ResOK.one rfl), ?_⟩
        refine ⟨(by first | rfl | simp), R0⟩
    ·
      replace F := ite_n hp2 F
      have hq2 := dec_f hp2
      refine CW.condT rfl (not_t hq2) ?_
      refine CW.seq fun K12 hK12 => ?_
      refine CW.region ?_
      refine LW.pure rfl rfl (RV.move rfl) ?_
      refine LW.pure rfl rfl (RV.assign rfl) ?_
      refine LW.nil (hK12 _ _ ?_)
      refine CW.ret ?_
      obtain rfl := Option.some.inj F
      refine ⟨_, (ResOK.one rfl), ?_⟩
      refine ⟨(by first | rfl | simp), R0⟩
  ·
    replace F := ite_n hp1 F
    have hq1 := dec_f hp1
    refine CW.condT rfl (not_t hq1) ?_
    refine CW.seq fun K13 hK13 => ?_
    refine CW.region ?_
    refine LW.pure rfl rfl (RV.move rfl) ?_
    refine LW.pure rfl rfl (RV.assign rfl) ?_
    refine LW.nil (hK13 _ _ ?_)
    refine CW.ret ?_
    obtain rfl := Option.some.inj F
    refine ⟨_, (ResOK.one rfl), ?_⟩
    refine ⟨(by first | rfl | simp), R0⟩
set_option maxRecDepth 20000 in
set_option maxHeartbeats 1000000 in
theorem ref03_Both_ok {a0 : Core} {a1 : Core} {A_a0_bounds : Option Addr} {c_a0_bounds : Nat} {A_a1_bounds : Option Addr} {c_a1_bounds : Nat} {w : World} {res : Core × Int} (h_a0_bounds : Sl w A_a0_bounds c_a0_bounds 3 (a0.bounds.map encBound)) (h_a1_bounds : Sl w A_a1_bounds c_a1_bounds 3 (a1.bounds.map encBound)) (F : ref03_Both a0 a1 = some res) : Calls Try.prog 46 #[.agg #[.int .i64 a0.layers, .slice A_a0_bounds a0.bounds.length c_a0_bounds], .agg #[.int .i64 a1.layers, .slice A_a1_bounds a1.bounds.length c_a1_bounds]] w (fun e w' => ∃ (A0_bounds : Option Addr) (c0_bounds : Nat), e = .returned (.tuple #[.agg #[.int .i64 res.1.layers, .slice A0_bounds res.1.bounds.length c0_bounds], .int .i64 res.2]) ∧ Hp w w' [.own A0_bounds c0_bounds 26 3 (List.map encBound res.1.bounds)]) := by
  refine calls_of_cw (args := [.agg #[.int .i64 a0.layers, .slice A_a0_bounds a0.bounds.length c_a0_bounds], .agg #[.int .i64 a1.layers, .slice A_a1_bounds a1.bounds.length c_a1_bounds]]) Try.func46 rfl rfl rfl rfl ?_
  have H := Hp.start w
  have R0 := H.ext
  unfold ref03_Both at F
  refine CW.seq fun K1 hK1 => ?_
  refine CW.region ?_
  refine LW.go rfl rfl (OW.box rfl fun b1 w1 N1 => ?_)
  replace H := H.new N1 N1.blk
  replace R0 := H.ext
  refine LW.go rfl rfl (OW.box rfl fun b2 w2 N2 => ?_)
  replace H := H.new N2 N2.blk
  replace R0 := H.ext
  refine LW.go rfl rfl (OW.alloc Tz24 fun b3 w3 N3 => ?_)
  replace H := H.new N3 N3.blk
  replace R0 := H.ext
  refine LW.pure rfl rfl (RV.assign rfl) ?_
  refine LW.nil (hK1 _ _ ?_)
  refine CW.seq fun K2 hK2 => ?_
  refine CW.seq fun K3 hK3 => ?_
  obtain ⟨r1, hr1, F⟩ := bnd_some F
  refine CW.region ?_
  refine LW.pure rfl rfl (RV.loadA [.int .i64 a0.layers, .slice A_a0_bounds a0.bounds.length c_a0_bounds] Tk24 rfl (H.blk 2 rfl).cells rfl rfl) ?_
  refine LW.pure rfl rfl (RV.loadA [.int .i64 a1.layers, .slice A_a1_bounds a1.bounds.length c_a1_bounds] Tk24 rfl (H.blk 1 rfl).cells rfl rfl) ?_
  refine LW.go rfl rfl (OW.call Tc76 rfl (ref03_two_ok (a0 := a0) (a1 := a1) (h_a0_bounds.ext R0) (h_a1_bounds.ext R0) hr1) ?_)
  rintro _ w4 ⟨rfl, E1⟩
  refine ⟨_, rfl, ?_⟩
  replace H := H.grow E1
  replace R0 := H.ext
  refine LW.pure rfl rfl (RV.assign rfl) ?_
  refine LW.nil (hK3 _ _ ?_)
  refine CW.seq fun K4 hK4 => ?_
  refine CW.region ?_
  refine LW.pure rfl rfl (RV.move rfl) ?_
  refine LW.pure rfl rfl (RV.nei rfl rfl) ?_
  refine LW.nil (hK4 _ _ ?_)
  by_cases hp1 : r1 = 0
  ·
    replace F := ite_y hp1 F
    have hq1 := dec_t hp1
    refine CW.condF rfl (not_f hq1) ?_
    refine CW.skip (hK2 _ _ ?_)
    refine CW.seq fun K5 hK5 => ?_
    refine CW.seq fun K6 hK6 => ?_
    obtain ⟨hg1, F⟩ := gd_some F
    refine CW.region ?_
    refine LW.pure rfl rfl (RV.fieldAddr Tf24_1 rfl) ?_
    refine LW.pure rfl rfl (RV.load1 Tk22 rfl ((H.blk 2 rfl).cells.off 1) rfl) ?_
    refine LW.pure rfl rfl (RV.len Ts22 rfl) ?_
    refine LW.pure rfl rfl (RV.fieldAddr Tf24_1 rfl) ?_
    refine LW.pure rfl rfl (RV.load1 Tk22 rfl ((H.blk 1 rfl).cells.off 1) rfl) ?_
    refine LW.pure rfl rfl (RV.len Ts22 rfl) ?_
    refine LW.pure rfl rfl (RV.add rfl rfl hg1) ?_
    refine LW.pure rfl rfl (RV.gtr rfl rfl) ?_
    refine LW.nil (hK6 _ _ ?_)
    by_cases hp2 : (20 : Int) < (((a0.bounds.length : Int)) + ((a1.bounds.length : Int)))
    ·
      replace F := ite_y hp2 F
      have hq2 := dec_t hp2
      refine CW.condT rfl hq2 ?_
      refine CW.seq fun K7 hK7 => ?_
      refine CW.region ?_
      refine LW.pure rfl rfl (RV.build (vs := []) (cs := [.int .i64 0, .slice none 0 0]) rfl (fun _ => by kernel_rfl)) ?_
      refine LW.go rfl rfl (OW.store Tk24 rfl rfl (H.blk 0 rfl) (off := 0) (vs := [.int .i64 0, .slice none 0 0]) rfl rfl rfl rfl rfl fun w5 S1 => ?_)
      replace H : Hp w w5 [.blk b3 24 [.int .i64 0, .slice none 0 0], .blk b2 24 [.int .i64 a1.layers, .slice A_a1_bounds a1.bounds.length c_a1_bounds], .blk b1 24 [.int .i64 a0.layers, .slice A_a0_bounds a0.bounds.length c_a0_bounds]] := H.stored 0 rfl S1
      replace R0 := H.ext
      refine LW.pure rfl rfl (RV.assign rfl) ?_
      refine LW.nil (hK7 _ _ ?_)
      refine CW.ret ?_
      obtain rfl := Option.some.inj F
      refine ⟨_, (ResOK.two ⟨_, rfl, run_loadVar_agg Tk24 (H.blk 0 rfl).cells (us := [.int .i64 0, .slice none 0 0]) rfl rfl⟩ rfl), ?_⟩
      replace H := H.nilOwn 26 3
      replace R0 := H.ext
      replace H := H.pick (L' := [.own none 0 26 3 (List.map encBound (([] : List Bound)))]) [0] (by decide) rfl
      replace R0 := H.ext
      exact ⟨none, 0, (by first | rfl | (simp; done) | (simp; omega)), H⟩
    ·
      replace F := ite_n hp2 F
      have hq2 := dec_f hp2
      refine CW.condF rfl hq2 ?_
      refine CW.skip (hK5 _ _ ?_)
      refine CW.seq fun K8 hK8 => ?_
      obtain ⟨r2, hr2, F⟩ := bnd_some F
      refine CW.region ?_
      refine LW.pure rfl rfl (RV.loadA [.int .i64 a0.layers, .slice A_a0_bounds a0.bounds.length c_a0_bounds] Tk24 rfl (H.blk 2 rfl).cells rfl rfl) ?_
      refine LW.go rfl rfl (OW.call Tc55 rfl (ref03_Copy_ok (a0 := a0) (h_a0_bounds.ext R0) hr2) ?_)
      rintro _ w6 ⟨A6_0_bounds, c6_0_bounds, rfl, E2⟩
      refine ⟨_, rfl, ?_⟩
      replace H : Hp w w6 [.own A6_0_bounds c6_0_bounds 26 3 (List.map encBound r2.bounds), .blk b3 24 [.int .i64 0, .slice none 0 0], .blk b2 24 [.int .i64 a1.layers, .slice A_a1_bounds a1.bounds.length c_a1_bounds], .blk b1 24 [.int .i64 a0.layers, .slice A_a0_bounds a0.bounds.length c_a0_bounds]] := H.append E2
      replace R0 := H.ext
      refine LW.go rfl rfl (OW.alloc Tz24 fun b4 w7 N4 => ?_)
      replace H := H.new N4 N4.blk
      replace R0 := H.ext
      refine LW.go rfl rfl (OW.store Tk24 rfl rfl (H.blk 0 rfl) (off := 0) (vs := [.int .i64 r2.layers, .slice A6_0_bounds r2.bounds.length c6_0_bounds]) rfl rfl rfl rfl rfl fun w8 S2 => ?_)
      replace H : Hp w w8 [.blk b4 24 [.int .i64 r2.layers, .slice A6_0_bounds r2.bounds.length c6_0_bounds], .own A6_0_bounds c6_0_bounds 26 3 (List.map encBound r2.bounds), .blk b3 24 [.int .i64 0, .slice none 0 0], .blk b2 24 [.int .i64 a1.layers, .slice A_a1_bounds a1.bounds.length c_a1_bounds], .blk b1 24 [.int .i64 a0.layers, .slice A_a0_bounds a0.bounds.length c_a0_bounds]] := H.stored 0 rfl S2
      replace R0 := H.ext
      refine LW.nil (hK8 _ _ ?_)
      refine CW.seq fun K9 hK9 => ?_
      obtain ⟨hg2, F⟩ := gd_some F
      refine CW.region ?_
      refine LW.pure rfl rfl (RV.fieldAddr Tf24_1 rfl) ?_
      refine LW.pure rfl rfl (RV.load1 Tk22 rfl ((H.blk 0 rfl).cells.off 1) rfl) ?_
      refine LW.pure rfl rfl (RV.fieldAddr Tf24_1 rfl) ?_
      refine LW.pure rfl rfl (RV.load1 Tk22 rfl ((H.blk 3 rfl).cells.off 1) rfl) ?_
      refine LW.go rfl rfl (OW.appendG (enc := encBound) (l := r2.bounds) (xs := a1.bounds) Ts22 rfl rfl (H.own 1 rfl) (h_a1_bounds.ext R0) (fun _ => rfl) rfl rfl hg2 (by decide) fun A1 c1 w9 O1 M1 D1 => ?_)
      replace H : Hp w w9 [.blk b4 24 [.int .i64 r2.layers, .slice A6_0_bounds r2.bounds.length c6_0_bounds], .own A1 c1 26 3 (List.map encBound ((r2.bounds ++ a1.bounds))), .blk b3 24 [.int .i64 0, .slice none 0 0], .blk b2 24 [.int .i64 a1.layers, .slice A_a1_bounds a1.bounds.length c_a1_bounds], .blk b1 24 [.int .i64 a0.layers, .slice A_a0_bounds a0.bounds.length c_a0_bounds]] := H.mod 1 rfl M1 O1 D1
      replace R0 := H.ext
      refine LW.pure rfl rfl (RV.fieldAddr Tf24_1 rfl) ?_
      refine LW.go rfl rfl (OW.store Tk22 rfl rfl (H.blk 0 rfl) (off := 1) (vs := [.slice A1 (((r2.bounds ++ a1.bounds)).length) c1]) rfl rfl rfl rfl rfl fun w10 S3 => ?_)
      replace H : Hp w w10 [.blk b4 24 [.int .i64 r2.layers, .slice A1 (((r2.bounds ++ a1.bounds)).length) c1], .own A1 c1 26 3 (List.map encBound ((r2.bounds ++ a1.bounds))), .blk b3 24 [.int .i64 0, .slice none 0 0], .blk b2 24 [.int .i64 a1.layers, .slice A_a1_bounds a1.bounds.length c_a1_bounds], .blk b1 24 [.int .i64 a0.layers, .slice A_a0_bounds a0.bounds.length c_a0_bounds]] := H.stored 0 rfl S3
      replace R0 := H.ext
      refine LW.nil (hK9 _ _ ?_)
      refine CW.seq fun K10 hK10 => ?_
      refine CW.region ?_
      refine LW.pure rfl rfl (RV.loadA [.int .i64 r2.layers, .slice A1 (((r2.bounds ++ a1.bounds)).length) c1] Tk24 rfl (H.blk 0 rfl).cells rfl rfl) ?_
      refine LW.go rfl rfl (OW.store Tk24 rfl rfl (H.blk 2 rfl) (off := 0) (vs := [.int .i64 r2.layers, .slice A1 (((r2.bounds ++ a1.bounds)).length) c1]) rfl rfl rfl rfl rfl fun w11 S4 => ?_)
      replace H : Hp w w11 [.blk b4 24 [.int .i64 r2.layers, .slice A1 (((r2.bounds ++ a1.bounds)).length) c1], .own A1 c1 26 3 (List.map encBound ((r2.bounds ++ a1.bounds))), .blk b3 24 [.int .i64 r2.layers, .slice A1 (((r2.bounds ++ a1.bounds)).length) c1], .blk b2 24 [.int .i64 a1.layers, .slice A_a1_bounds a1.bounds.length c_a1_bounds], .blk b1 24 [.int .i64 a0.layers, .slice A_a0_bounds a0.bounds.length c_a0_bounds]] := H.stored 2 rfl S4
      replace R0 := H.ext
      refine LW.pure rfl rfl (RV.assign rfl) ?_
      refine LW.nil (hK10 _ _ ?_)
      refine CW.ret ?_
      obtain rfl := Option.some.inj F
      refine ⟨_, (ResOK.two ⟨_, rfl, run_loadVar_agg Tk24 (H.blk 2 rfl).cells (us := [.int .i64 r2.layers, .slice A1 (((r2.bounds ++ a1.bounds)).length) c1]) rfl rfl⟩ rfl), ?_⟩
      replace H := H.pick (L' := [.own A1 c1 26 3 (List.map encBound ((r2.bounds ++ a1.bounds)))]) [1] (by decide) rfl
      replace R0 := H.ext
      exact ⟨A1, c1, (by first | rfl | (simp; done) | (simp; omega)), H⟩
  ·
    replace F := ite_n hp1 F
    have hq1 := dec_f hp1
    refine CW.condT rfl (not_t hq1) ?_
    refine CW.seq fun K11 hK11 => ?_
    refine CW.region ?_
    refine LW.pure rfl rfl (RV.build (vs := []) (cs := [.int .i64 0, .slice none 0 0]) rfl (fun _ => by kernel_rfl)) ?_
    refine LW.pure rfl rfl (RV.move rfl) ?_
    refine LW.go rfl rfl (OW.store Tk24 rfl rfl (H.blk 0 rfl) (off := 0) (vs := [.int .i64 0, .slice none 0 0]) rfl rfl rfl rfl rfl fun w12 S5 => ?_)
    replace H : Hp w w12 [.blk b3 24 [.int .i64 0, .slice none 0 0], .blk b2 24 [.int .i64 a1.layers, .slice A_a1_bounds a1.bounds.length c_a1_bounds], .blk b1 24 [.int .i64 a0.layers, .slice A_a0_bounds a0.bounds.length c_a0_bounds]] := H.stored 0 rfl S5
    replace R0 := H.ext
    refine LW.pure rfl rfl (RV.assign rfl) ?_
    refine LW.nil (hK11 _ _ ?_)
    refine CW.ret ?_
    obtain rfl := Option.some.inj F
    refine ⟨_, (ResOK.two ⟨_, rfl, run_loadVar_agg Tk24 (H.blk 0 rfl).cells (us := [.int .i64 0, .slice none 0 0]) rfl rfl⟩ rfl), ?_⟩
    replace H := H.nilOwn 26 3
    replace R0 := H.ext
    replace H := H.pick (L' := [.own none 0 26 3 (List.map encBound (([] : List Bound)))]) [0] (by decide) rfl
    replace R0 := H.ext
    exact ⟨none, 0, (by first | rfl | (simp; done) | (simp; omega)), H⟩
end Go.D3

set_option linter.unusedVariables false
set_option linter.unusedSimpArgs false
namespace Go.D3
open Go.Tb Go.Proofs Go.RowKit Go.Core
theorem Tc45 : callable Try.prog 45 = true := by kernel_rfl
theorem Tc46 : callable Try.prog 46 = true := by kernel_rfl
set_option maxRecDepth 20000 in
set_option maxHeartbeats 1000000 in
theorem law03_CoreBoths_ok {a0 : Core} {a1 : Core} {a2 : List Int} {A_a0_bounds : Option Addr} {c_a0_bounds : Nat} {A_a1_bounds : Option Addr} {c_a1_bounds : Nat} {A_a2 : Option Addr} {c_a2 : Nat} {w : World} {res : Bool} (h_a0_bounds : Sl w A_a0_bounds c_a0_bounds 3 (a0.bounds.map encBound)) (h_a1_bounds : Sl w A_a1_bounds c_a1_bounds 3 (a1.bounds.map encBound)) (h_a2 : Sl w A_a2 c_a2 1 (a2.map encN)) (F : law03_CoreBoths a0 a1 a2 = some res) : Calls Try.prog 11 #[.agg #[.int .i64 a0.layers, .slice A_a0_bounds a0.bounds.length c_a0_bounds], .agg #[.int .i64 a1.layers, .slice A_a1_bounds a1.bounds.length c_a1_bounds], .slice A_a2 a2.length c_a2] w (Rt w (.bool res)) := by
  refine calls_of_cw (args := [.agg #[.int .i64 a0.layers, .slice A_a0_bounds a0.bounds.length c_a0_bounds], .agg #[.int .i64 a1.layers, .slice A_a1_bounds a1.bounds.length c_a1_bounds], .slice A_a2 a2.length c_a2]) Try.func11 rfl rfl rfl rfl ?_
  have H := Hp.start w
  have R0 := H.ext
  unfold law03_CoreBoths at F
  refine CW.seq fun K1 hK1 => ?_
  refine CW.region ?_
  refine LW.go rfl rfl (OW.box rfl fun b1 w1 N1 => ?_)
  replace H := H.new N1 N1.blk
  replace R0 := H.ext
  refine LW.go rfl rfl (OW.box rfl fun b2 w2 N2 => ?_)
  replace H := H.new N2 N2.blk
  replace R0 := H.ext
  refine LW.pure rfl rfl (RV.assign rfl) ?_
  refine LW.nil (hK1 _ _ ?_)
  refine CW.seq fun K2 hK2 => ?_
  refine CW.seqJ (fun ρ wl1 => (∃ (t24_1 : Bool), law03_CoreBoths_k2 a0 a1 a2 t24_1 = some res ∧ ρ = [(2, .slice A_a2 a2.length c_a2), (3, .pointer (some (⟨b1, 0, none⟩))), (4, .pointer (some (⟨b2, 0, none⟩))), (6, .bool false), (24, .bool t24_1)] ∧ Hp w wl1 [.blk b1 24 [.int .i64 a0.layers, .slice A_a0_bounds a0.bounds.length c_a0_bounds], .blk b2 24 [.int .i64 a1.layers, .slice A_a1_bounds a1.bounds.length c_a1_bounds]])) ?_ ?_
  ·
    rintro _ wl1 ⟨t24_1, F, rfl, H⟩
    have R0 := H.ext
    unfold law03_CoreBoths_k2 at F
    by_cases hp1 : t24_1 = true
    ·
      replace F := ite_y hp1 F
      have hq1 : t24_1 = true := hp1
      refine CW.condT rfl hq1 ?_
      refine CW.seq fun K3 hK3 => ?_
      obtain ⟨r9, hr9, F⟩ := bnd_some F
      refine CW.region ?_
      refine LW.go rfl rfl (OW.call Tc18 rfl (law03_known_ok hr9) ?_)
      rintro _ w3 ⟨rfl, E1⟩
      refine ⟨_, rfl, ?_⟩
      replace H := H.grow E1
      replace R0 := H.ext
      refine LW.pure rfl rfl (RV.assign rfl) ?_
      refine LW.nil (hK3 _ _ ?_)
      refine CW.ret ?_
      obtain rfl := Option.some.inj F
      refine ⟨_, (ResOK.one rfl), ?_⟩
      refine ⟨(by first | rfl | simp), R0⟩
    ·
      replace F := ite_n hp1 F
      have hq1 : t24_1 = false := raw_f hp1
      refine CW.condF rfl hq1 ?_
      refine CW.skip (hK2 _ _ ?_)
      refine CW.seq fun K4 hK4 => ?_
      obtain ⟨r1, hr1, F⟩ := bnd_some F
      refine CW.region ?_
      refine LW.pure rfl rfl (RV.loadA [.int .i64 a0.layers, .slice A_a0_bounds a0.bounds.length c_a0_bounds] Tk24 rfl (H.blk 0 rfl).cells rfl rfl) ?_
      refine LW.pure rfl rfl (RV.loadA [.int .i64 a1.layers, .slice A_a1_bounds a1.bounds.length c_a1_bounds] Tk24 rfl (H.blk 1 rfl).cells rfl rfl) ?_
      refine LW.go rfl rfl (OW.call Tc45 rfl (core_Both_ok (a0 := a0) (a1 := a1) (h_a0_bounds.ext R0) (h_a1_bounds.ext R0) hr1) ?_)
      rintro _ w4 ⟨A22_0_bounds, c22_0_bounds, rfl, E2⟩
      refine ⟨_, rfl, ?_⟩
      replace H : Hp w w4 [.own A22_0_bounds c22_0_bounds 26 3 (List.map encBound r1.1.bounds), .blk b1 24 [.int .i64 a0.layers, .slice A_a0_bounds a0.bounds.length c_a0_bounds], .blk b2 24 [.int .i64 a1.layers, .slice A_a1_bounds a1.bounds.length c_a1_bounds]] := H.append E2
      replace R0 := H.ext
      refine LW.pure rfl rfl (RV.move rfl) ?_
      refine LW.pure rfl rfl (RV.extract rfl rfl) ?_
      refine LW.pure rfl rfl (RV.extract rfl rfl) ?_
      refine LW.go rfl rfl (OW.alloc Tz24 fun b3 w5 N3 => ?_)
      replace H := H.new N3 N3.blk
      replace R0 := H.ext
      refine LW.go rfl rfl (OW.store Tk24 rfl rfl (H.blk 0 rfl) (off := 0) (vs := [.int .i64 r1.1.layers, .slice A22_0_bounds r1.1.bounds.length c22_0_bounds]) rfl rfl rfl rfl rfl fun w6 S1 => ?_)
      replace H : Hp w w6 [.blk b3 24 [.int .i64 r1.1.layers, .slice A22_0_bounds r1.1.bounds.length c22_0_bounds], .own A22_0_bounds c22_0_bounds 26 3 (List.map encBound r1.1.bounds), .blk b1 24 [.int .i64 a0.layers, .slice A_a0_bounds a0.bounds.length c_a0_bounds], .blk b2 24 [.int .i64 a1.layers, .slice A_a1_bounds a1.bounds.length c_a1_bounds]] := H.stored 0 rfl S1
      replace R0 := H.ext
      refine LW.pure rfl rfl (RV.assign rfl) ?_
      refine LW.nil (hK4 _ _ ?_)
      refine CW.seq fun K5 hK5 => ?_
      obtain ⟨r10, hr10, F⟩ := bnd_some F
      refine CW.region ?_
      refine LW.pure rfl rfl (RV.loadA [.int .i64 a0.layers, .slice A_a0_bounds a0.bounds.length c_a0_bounds] Tk24 rfl (H.blk 2 rfl).cells rfl rfl) ?_
      refine LW.pure rfl rfl (RV.loadA [.int .i64 a1.layers, .slice A_a1_bounds a1.bounds.length c_a1_bounds] Tk24 rfl (H.blk 3 rfl).cells rfl rfl) ?_
      refine LW.go rfl rfl (OW.call Tc46 rfl (ref03_Both_ok (a0 := a0) (a1 := a1) (h_a0_bounds.ext R0) (h_a1_bounds.ext R0) hr10) ?_)
      rintro _ w7 ⟨A24_0_bounds, c24_0_bounds, rfl, E3⟩
      refine ⟨_, rfl, ?_⟩
      replace H : Hp w w7 [.own A24_0_bounds c24_0_bounds 26 3 (List.map encBound r10.1.bounds), .blk b3 24 [.int .i64 r1.1.layers, .slice A22_0_bounds r1.1.bounds.length c22_0_bounds], .own A22_0_bounds c22_0_bounds 26 3 (List.map encBound r1.1.bounds), .blk b1 24 [.int .i64 a0.layers, .slice A_a0_bounds a0.bounds.length c_a0_bounds], .blk b2 24 [.int .i64 a1.layers, .slice A_a1_bounds a1.bounds.length c_a1_bounds]] := H.append E3
      replace R0 := H.ext
      refine LW.pure rfl rfl (RV.move rfl) ?_
      refine LW.pure rfl rfl (RV.extract rfl rfl) ?_
      refine LW.pure rfl rfl (RV.extract rfl rfl) ?_
      refine LW.go rfl rfl (OW.alloc Tz24 fun b4 w8 N4 => ?_)
      replace H := H.new N4 N4.blk
      replace R0 := H.ext
      refine LW.go rfl rfl (OW.store Tk24 rfl rfl (H.blk 0 rfl) (off := 0) (vs := [.int .i64 r10.1.layers, .slice A24_0_bounds r10.1.bounds.length c24_0_bounds]) rfl rfl rfl rfl rfl fun w9 S2 => ?_)
      replace H : Hp w w9 [.blk b4 24 [.int .i64 r10.1.layers, .slice A24_0_bounds r10.1.bounds.length c24_0_bounds], .own A24_0_bounds c24_0_bounds 26 3 (List.map encBound r10.1.bounds), .blk b3 24 [.int .i64 r1.1.layers, .slice A22_0_bounds r1.1.bounds.length c22_0_bounds], .own A22_0_bounds c22_0_bounds 26 3 (List.map encBound r1.1.bounds), .blk b1 24 [.int .i64 a0.layers, .slice A_a0_bounds a0.bounds.length c_a0_bounds], .blk b2 24 [.int .i64 a1.layers, .slice A_a1_bounds a1.bounds.length c_a1_bounds]] := H.stored 0 rfl S2
      replace R0 := H.ext
      refine LW.pure rfl rfl (RV.assign rfl) ?_
      refine LW.nil (hK5 _ _ ?_)
      refine CW.seq fun K6 hK6 => ?_
      refine CW.seqJ (fun ρ wl2 => (∃ (t46_1 : Bool), law03_CoreBoths_k1 a0 a1 a2 r1 t46_1 = some res ∧ ρ = [(2, .slice A_a2 a2.length c_a2), (3, .pointer (some (⟨b1, 0, none⟩))), (4, .pointer (some (⟨b2, 0, none⟩))), (6, .bool false), (7, .pointer (some (⟨b3, 0, none⟩))), (8, .int .i64 r1.2), (46, .bool t46_1)] ∧ Hp w wl2 [.own A22_0_bounds c22_0_bounds 26 3 (List.map encBound r1.1.bounds), .blk b1 24 [.int .i64 a0.layers, .slice A_a0_bounds a0.bounds.length c_a0_bounds], .blk b2 24 [.int .i64 a1.layers, .slice A_a1_bounds a1.bounds.length c_a1_bounds], .blk b3 24 [.int .i64 r1.1.layers, .slice A22_0_bounds r1.1.bounds.length c22_0_bounds]])) ?_ ?_
      ·
        rintro _ wl2 ⟨t46_1, F, rfl, H⟩
        have R0 := H.ext
        unfold law03_CoreBoths_k1 at F
        by_cases hp2 : t46_1 = true
        ·
          replace F := ite_y hp2 F
          have hq2 : t46_1 = true := hp2
          refine CW.condT rfl hq2 ?_
          refine CW.seq fun K7 hK7 => ?_
          refine CW.region ?_
          refine LW.pure rfl rfl (RV.assign rfl) ?_
          refine LW.nil (hK7 _ _ ?_)
          refine CW.ret ?_
          obtain rfl := Option.some.inj F
          refine ⟨_, (ResOK.one rfl), ?_⟩
          refine ⟨(by first | rfl | simp), R0⟩
        ·
          replace F := ite_n hp2 F
          have hq2 : t46_1 = false := raw_f hp2
          refine CW.condF rfl hq2 ?_
          refine CW.skip (hK6 _ _ ?_)
          refine CW.seq fun K8 hK8 => ?_
          obtain ⟨r2, hr2, F⟩ := bnd_some F
          obtain ⟨r3, hr3, F⟩ := bnd_some F
          obtain ⟨r4, hr4, F⟩ := bnd_some F
          refine CW.draw [] (fun _ => True) (.cons 0 1 (.cons 1 1 (.cons 3 1 (.cons 4 1 (.cons 6 1 (.cons 7 1 (.cons 2 0 (.cons 5 0 (.cons 8 0 (.cons 9 1 (.cons 10 1 (.cons 11 1 .nil)))))))))))) mixed (by kernel_rfl) fun w10 E4 => ?_
          replace H := H.grow E4
          replace R0 := H.ext
          refine DW.fix rfl rfl rfl (fun _ EQ => RV.loadA [.int .i64 a0.layers, .slice A_a0_bounds a0.bounds.length c_a0_bounds] Tk24 rfl ((H.grow EQ).blk 1 rfl).cells rfl rfl) ?_
          refine DW.fix rfl rfl rfl (fun _ EQ => RV.move rfl) ?_
          refine DW.fix rfl rfl rfl (fun _ EQ => RV.loadA [.int .i64 a1.layers, .slice A_a1_bounds a1.bounds.length c_a1_bounds] Tk24 rfl ((H.grow EQ).blk 2 rfl).cells rfl rfl) ?_
          refine DW.fix rfl rfl rfl (fun _ EQ => RV.move rfl) ?_
          refine DW.fix rfl rfl rfl (fun _ EQ => RV.loadA [.int .i64 r1.1.layers, .slice A22_0_bounds r1.1.bounds.length c22_0_bounds] Tk24 rfl ((H.grow EQ).blk 3 rfl).cells rfl rfl) ?_
          refine DW.fix rfl rfl rfl (fun _ EQ => RV.move rfl) ?_
          refine DW.sole rfl rfl rfl (OW.call Tc33 rfl (core_CheckDates_ok (a0 := a0) (a1 := a2) (h_a0_bounds.ext R0) (h_a2.ext R0) hr2) ?_)
          rintro _ w11 ⟨rfl, E5⟩
          refine ⟨_, rfl, fun _ => E5, ModX.ext E5, ?_⟩
          replace H := H.grow E5
          replace R0 := H.ext
          refine DW.sole rfl rfl rfl (OW.call Tc33 rfl (core_CheckDates_ok (a0 := a1) (a1 := a2) (h_a1_bounds.ext R0) (h_a2.ext R0) hr3) ?_)
          rintro _ w12 ⟨rfl, E6⟩
          refine ⟨_, rfl, fun _ => E6, ModX.ext E6, ?_⟩
          replace H := H.grow E6
          replace R0 := H.ext
          refine DW.sole rfl rfl rfl (OW.call Tc33 rfl (core_CheckDates_ok (a0 := r1.1) (a1 := a2) (H.own 0 rfl).sl (h_a2.ext R0) hr4) ?_)
          rintro _ w13 ⟨rfl, E7⟩
          refine ⟨_, rfl, fun _ => E7, ModX.ext E7, ?_⟩
          replace H := H.grow E7
          replace R0 := H.ext
          refine DW.fix rfl rfl rfl (fun _ EQ => RV.assign rfl) ?_
          refine DW.fix rfl rfl rfl (fun _ EQ => RV.assign rfl) ?_
          refine DW.fix rfl rfl rfl (fun _ EQ => RV.assign rfl) ?_
          refine DW.nil (hK8 _ _ ?_)
          refine CW.seq fun K9 hK9 => ?_
          by_cases hp3 : r1.2 = 0
          ·
            replace F := ite_y hp3 F
            have hq3 := dec_t hp3
            by_cases hp4 : r2 = 0
            ·
              replace F := ite_y hp4 F
              have hq4 := dec_t hp4
              by_cases hp5 : ((decide (r4 = 0)) == (decide (r3 = 0))) = true
              ·
                replace F := ite_y hp5 F
                have hq5 : ((decide (r4 = 0)) == (decide (r3 = 0))) = true := hp5
                obtain ⟨r5, hr5, F⟩ := bnd_some F
                refine CW.region ?_
                refine LW.pure rfl rfl (RV.move rfl) ?_
                refine LW.pure rfl rfl (RV.nei rfl rfl) ?_
                refine LW.pure rfl rfl (RV.move rfl) ?_
                refine LW.pureYB rfl rfl rfl rfl (not_f hq3) (RV.move rfl) ?_
                refine LW.pureYB rfl rfl rfl rfl (not_f hq3) (RV.nei rfl rfl) ?_
                refine LW.pureYB rfl rfl rfl rfl (not_f hq3) (RV.move rfl) ?_
                refine LW.noB rfl rfl rfl rfl (ne_beq (v := false) (not_f hq4) rfl) ?_
                refine LW.noB rfl rfl rfl rfl (ne_beq (v := false) (not_f hq4) rfl) ?_
                refine LW.pureYB rfl rfl rfl rfl (not_f hq3) (RV.pickFB rfl (not_f hq4) rfl) ?_
                refine LW.pure rfl rfl (RV.pickFB rfl (not_f hq3) rfl) ?_
                refine LW.pure rfl rfl (RV.move rfl) ?_
                refine LW.pureYB rfl rfl rfl rfl rfl (RV.move rfl) ?_
                refine LW.pureYB rfl rfl rfl rfl rfl (RV.eqi rfl rfl) ?_
                refine LW.pureYB rfl rfl rfl rfl rfl (RV.move rfl) ?_
                refine LW.pureYB rfl rfl rfl rfl rfl (RV.eqi rfl rfl) ?_
                refine LW.pureYB rfl rfl rfl rfl rfl (RV.move rfl) ?_
                refine LW.pureYB rfl rfl rfl rfl hq4 (RV.move rfl) ?_
                refine LW.pureYB rfl rfl rfl rfl hq4 (RV.eqi rfl rfl) ?_
                refine LW.pureYB rfl rfl rfl rfl rfl (RV.pickTB rfl hq4 rfl) ?_
                refine LW.pureYB rfl rfl rfl rfl rfl (RV.eqb Tb4 rfl rfl) ?_
                refine LW.pure rfl rfl (RV.pickFB rfl rfl rfl) ?_
                refine LW.pure rfl rfl (RV.move rfl) ?_
                refine LW.yesB rfl rfl rfl rfl hq5 (OW.call Tc18 rfl (law03_known_ok hr5) ?_)
                rintro _ w14 ⟨rfl, E8⟩
                refine ⟨_, rfl, ?_⟩
                replace H := H.grow E8
                replace R0 := H.ext
                refine LW.pure rfl rfl (RV.pickTB rfl hq5 rfl) ?_
                refine LW.pure rfl rfl (RV.assign rfl) ?_
                refine LW.nil (hK9 _ _ ?_)
                refine CW.ret ?_
                obtain rfl := Option.some.inj F
                refine ⟨_, (ResOK.one rfl), ?_⟩
                refine ⟨(by first | rfl | simp), R0⟩
              ·
                replace F := ite_n hp5 F
                have hq5 : ((decide (r4 = 0)) == (decide (r3 = 0))) = false := raw_f hp5
                refine CW.region ?_
                refine LW.pure rfl rfl (RV.move rfl) ?_
                refine LW.pure rfl rfl (RV.nei rfl rfl) ?_
                refine LW.pure rfl rfl (RV.move rfl) ?_
                refine LW.pureYB rfl rfl rfl rfl (not_f hq3) (RV.move rfl) ?_
                refine LW.pureYB rfl rfl rfl rfl (not_f hq3) (RV.nei rfl rfl) ?_
                refine LW.pureYB rfl rfl rfl rfl (not_f hq3) (RV.move rfl) ?_
                refine LW.noB rfl rfl rfl rfl (ne_beq (v := false) (not_f hq4) rfl) ?_
                refine LW.noB rfl rfl rfl rfl (ne_beq (v := false) (not_f hq4) rfl) ?_
                refine LW.pureYB rfl rfl rfl rfl (not_f hq3) (RV.pickFB rfl (not_f hq4) rfl) ?_
                refine LW.pure rfl rfl (RV.pickFB rfl (not_f hq3) rfl) ?_
                refine LW.pure rfl rfl (RV.move rfl) ?_
                refine LW.pureYB rfl rfl rfl rfl rfl (RV.move rfl) ?_
                refine LW.pureYB rfl rfl rfl rfl rfl (RV.eqi rfl rfl) ?_
                refine LW.pureYB rfl rfl rfl rfl rfl (RV.move rfl) ?_
                refine LW.pureYB rfl rfl rfl rfl rfl (RV.eqi rfl rfl) ?_
                refine LW.pureYB rfl rfl rfl rfl rfl (RV.move rfl) ?_
                refine LW.pureYB rfl rfl rfl rfl hq4 (RV.move rfl) ?_
                refine LW.pureYB rfl rfl rfl rfl hq4 (RV.eqi rfl rfl) ?_
                refine LW.pureYB rfl rfl rfl rfl rfl (RV.pickTB rfl hq4 rfl) ?_
                refine LW.pureYB rfl rfl rfl rfl rfl (RV.eqb Tb4 rfl rfl) ?_
                refine LW.pure rfl rfl (RV.pickFB rfl rfl rfl) ?_
                refine LW.pure rfl rfl (RV.move rfl) ?_
                refine LW.noB rfl rfl rfl rfl (ne_beq (v := false) hq5 rfl) ?_
                refine LW.pure rfl rfl (RV.pickFB rfl hq5 rfl) ?_
                refine LW.pure rfl rfl (RV.assign rfl) ?_
                refine LW.nil (hK9 _ _ ?_)
                refine CW.ret ?_
                obtain rfl := Option.some.inj F
                refine ⟨_, (ResOK.one rfl), ?_⟩
                refine ⟨(by first | rfl | simp), R0⟩
            ·
              replace F := ite_n hp4 F
              have hq4 := dec_f hp4
              by_cases hp6 : r2 = 7
              ·
                replace F := ite_y hp6 F
                have hq6 := dec_t hp6
                by_cases hp7 : ((decide (r4 = 0)) == false) = true
                ·
                  replace F := ite_y hp7 F
                  have hq7 : ((decide (r4 = 0)) == false) = true := hp7
                  obtain ⟨r6, hr6, F⟩ := bnd_some F
                  refine CW.region ?_
                  refine LW.pure rfl rfl (RV.move rfl) ?_
                  refine LW.pure rfl rfl (RV.nei rfl rfl) ?_
                  refine LW.pure rfl rfl (RV.move rfl) ?_
                  refine LW.pureYB rfl rfl rfl rfl (not_f hq3) (RV.move rfl) ?_
                  refine LW.pureYB rfl rfl rfl rfl (not_f hq3) (RV.nei rfl rfl) ?_
                  refine LW.pureYB rfl rfl rfl rfl (not_f hq3) (RV.move rfl) ?_
                  refine LW.pureYB rfl rfl rfl rfl (not_t hq4) (RV.move rfl) ?_
                  refine LW.pureYB rfl rfl rfl rfl (not_t hq4) (RV.nei rfl rfl) ?_
                  refine LW.pureYB rfl rfl rfl rfl (not_f hq3) (RV.pickTB rfl (not_t hq4) rfl) ?_
                  refine LW.pure rfl rfl (RV.pickFB rfl (not_f hq3) rfl) ?_
                  refine LW.pure rfl rfl (RV.move rfl) ?_
                  refine LW.pureYB rfl rfl rfl rfl (not_f hq6) (RV.move rfl) ?_
                  refine LW.pureYB rfl rfl rfl rfl (not_f hq6) (RV.eqi rfl rfl) ?_
                  refine LW.pureYB rfl rfl rfl rfl (not_f hq6) (RV.move rfl) ?_
                  refine LW.pureYB rfl rfl rfl rfl (not_f hq6) (RV.eqi rfl rfl) ?_
                  refine LW.pureYB rfl rfl rfl rfl (not_f hq6) (RV.move rfl) ?_
                  refine LW.noB rfl rfl rfl rfl (ne_beq (v := false) hq4 rfl) ?_
                  refine LW.noB rfl rfl rfl rfl (ne_beq (v := false) hq4 rfl) ?_
                  refine LW.pureYB rfl rfl rfl rfl (not_f hq6) (RV.pickFB rfl hq4 rfl) ?_
                  refine LW.pureYB rfl rfl rfl rfl (not_f hq6) (RV.eqb Tb4 rfl rfl) ?_
                  refine LW.pure rfl rfl (RV.pickFB rfl (not_f hq6) rfl) ?_
                  refine LW.pure rfl rfl (RV.move rfl) ?_
                  refine LW.yesB rfl rfl rfl rfl hq7 (OW.call Tc18 rfl (law03_known_ok hr6) ?_)
                  rintro _ w15 ⟨rfl, E9⟩
                  refine ⟨_, rfl, ?_⟩
                  replace H := H.grow E9
                  replace R0 := H.ext
                  refine LW.pure rfl rfl (RV.pickTB rfl hq7 rfl) ?_
                  refine LW.pure rfl rfl (RV.assign rfl) ?_
                  refine LW.nil (hK9 _ _ ?_)
                  refine CW.ret ?_
                  obtain rfl := Option.some.inj F
                  refine ⟨_, (ResOK.one rfl), ?_⟩
                  refine ⟨(by first | rfl | simp), R0⟩
                ·
                  replace F := ite_n hp7 F
                  have hq7 : ((decide (r4 = 0)) == false) = false := raw_f hp7
                  refine CW.region ?_
                  refine LW.pure rfl rfl (RV.move rfl) ?_
                  refine LW.pure rfl rfl (RV.nei rfl rfl) ?_
                  refine LW.pure rfl rfl (RV.move rfl) ?_
                  refine LW.pureYB rfl rfl rfl rfl (not_f hq3) (RV.move rfl) ?_
                  refine LW.pureYB rfl rfl rfl rfl (not_f hq3) (RV.nei rfl rfl) ?_
                  refine LW.pureYB rfl rfl rfl rfl (not_f hq3) (RV.move rfl) ?_
                  refine LW.pureYB rfl rfl rfl rfl (not_t hq4) (RV.move rfl) ?_
                  refine LW.pureYB rfl rfl rfl rfl (not_t hq4) (RV.nei rfl rfl) ?_
                  refine LW.pureYB rfl rfl rfl rfl (not_f hq3) (RV.pickTB rfl (not_t hq4) rfl) ?_
                  refine LW.pure rfl rfl (RV.pickFB rfl (not_f hq3) rfl) ?_
                  refine LW.pure rfl rfl (RV.move rfl) ?_
                  refine LW.pureYB rfl rfl rfl rfl (not_f hq6) (RV.move rfl) ?_
                  refine LW.pureYB rfl rfl rfl rfl (not_f hq6) (RV.eqi rfl rfl) ?_
                  refine LW.pureYB rfl rfl rfl rfl (not_f hq6) (RV.move rfl) ?_
                  refine LW.pureYB rfl rfl rfl rfl (not_f hq6) (RV.eqi rfl rfl) ?_
                  refine LW.pureYB rfl rfl rfl rfl (not_f hq6) (RV.move rfl) ?_
                  refine LW.noB rfl rfl rfl rfl (ne_beq (v := false) hq4 rfl) ?_
                  refine LW.noB rfl rfl rfl rfl (ne_beq (v := false) hq4 rfl) ?_
                  refine LW.pureYB rfl rfl rfl rfl (not_f hq6) (RV.pickFB rfl hq4 rfl) ?_
                  refine LW.pureYB rfl rfl rfl rfl (not_f hq6) (RV.eqb Tb4 rfl rfl) ?_
                  refine LW.pure rfl rfl (RV.pickFB rfl (not_f hq6) rfl) ?_
                  refine LW.pure rfl rfl (RV.move rfl) ?_
                  refine LW.noB rfl rfl rfl rfl (ne_beq (v := false) hq7 rfl) ?_
                  refine LW.pure rfl rfl (RV.pickFB rfl hq7 rfl) ?_
                  refine LW.pure rfl rfl (RV.assign rfl) ?_
                  refine LW.nil (hK9 _ _ ?_)
                  refine CW.ret ?_
                  obtain rfl := Option.some.inj F
                  refine ⟨_, (ResOK.one rfl), ?_⟩
                  refine ⟨(by first | rfl | simp), R0⟩
              ·
                replace F := ite_n hp6 F
                have hq6 := dec_f hp6
                obtain ⟨r7, hr7, F⟩ := bnd_some F
                refine CW.region ?_
                refine LW.pure rfl rfl (RV.move rfl) ?_
                refine LW.pure rfl rfl (RV.nei rfl rfl) ?_
                refine LW.pure rfl rfl (RV.move rfl) ?_
                refine LW.pureYB rfl rfl rfl rfl (not_f hq3) (RV.move rfl) ?_
                refine LW.pureYB rfl rfl rfl rfl (not_f hq3) (RV.nei rfl rfl) ?_
                refine LW.pureYB rfl rfl rfl rfl (not_f hq3) (RV.move rfl) ?_
                refine LW.pureYB rfl rfl rfl rfl (not_t hq4) (RV.move rfl) ?_
                refine LW.pureYB rfl rfl rfl rfl (not_t hq4) (RV.nei rfl rfl) ?_
                refine LW.pureYB rfl rfl rfl rfl (not_f hq3) (RV.pickTB rfl (not_t hq4) rfl) ?_
                refine LW.pure rfl rfl (RV.pickFB rfl (not_f hq3) rfl) ?_
                refine LW.pure rfl rfl (RV.move rfl) ?_
                refine LW.noB rfl rfl rfl rfl (ne_beq (v := true) (not_t hq6) rfl) ?_
                refine LW.noB rfl rfl rfl rfl (ne_beq (v := true) (not_t hq6) rfl) ?_
                refine LW.noB rfl rfl rfl rfl (ne_beq (v := true) (not_t hq6) rfl) ?_
                refine LW.noB rfl rfl rfl rfl (ne_beq (v := true) (not_t hq6) rfl) ?_
                refine LW.noB rfl rfl rfl rfl (ne_beq (v := true) (not_t hq6) rfl) ?_
                refine LW.noU rfl rfl rfl rfl ?_
                refine LW.noU rfl rfl rfl rfl ?_
                refine LW.noB rfl rfl rfl rfl (ne_beq (v := true) (not_t hq6) rfl) ?_
                refine LW.noB rfl rfl rfl rfl (ne_beq (v := true) (not_t hq6) rfl) ?_
                refine LW.pure rfl rfl (RV.pickTB rfl (not_t hq6) rfl) ?_
                refine LW.pure rfl rfl (RV.move rfl) ?_
                refine LW.yesB rfl rfl rfl rfl rfl (OW.call Tc18 rfl (law03_known_ok hr7) ?_)
                rintro _ w16 ⟨rfl, E10⟩
                refine ⟨_, rfl, ?_⟩
                replace H := H.grow E10
                replace R0 := H.ext
                refine LW.pure rfl rfl (RV.pickTB rfl rfl rfl) ?_
                refine LW.pure rfl rfl (RV.assign rfl) ?_
                refine LW.nil (hK9 _ _ ?_)
                refine CW.ret ?_
                obtain rfl := Option.some.inj F
                refine ⟨_, (ResOK.one rfl), ?_⟩
                refine ⟨(by first | rfl | simp), R0⟩
          ·
            replace F := ite_n hp3 F
            have hq3 := dec_f hp3
            obtain ⟨r8, hr8, F⟩ := bnd_some F
            refine CW.region ?_
            refine LW.pure rfl rfl (RV.move rfl) ?_
            refine LW.pure rfl rfl (RV.nei rfl rfl) ?_
            refine LW.pure rfl rfl (RV.move rfl) ?_
            refine LW.noB rfl rfl rfl rfl (ne_beq (v := true) (not_t hq3) rfl) ?_
            refine LW.noB rfl rfl rfl rfl (ne_beq (v := true) (not_t hq3) rfl) ?_
            refine LW.noB rfl rfl rfl rfl (ne_beq (v := true) (not_t hq3) rfl) ?_
            refine LW.noU rfl rfl rfl rfl ?_
            refine LW.noU rfl rfl rfl rfl ?_
            refine LW.noB rfl rfl rfl rfl (ne_beq (v := true) (not_t hq3) rfl) ?_
            refine LW.pure rfl rfl (RV.pickTB rfl (not_t hq3) rfl) ?_
            refine LW.pure rfl rfl (RV.move rfl) ?_
            refine LW.noB rfl rfl rfl rfl (ne_beq (v := true) rfl rfl) ?_
            refine LW.noB rfl rfl rfl rfl (ne_beq (v := true) rfl rfl) ?_
            refine LW.noB rfl rfl rfl rfl (ne_beq (v := true) rfl rfl) ?_
            refine LW.noB rfl rfl rfl rfl (ne_beq (v := true) rfl rfl) ?_
            refine LW.noB rfl rfl rfl rfl (ne_beq (v := true) rfl rfl) ?_
            refine LW.noU rfl rfl rfl rfl ?_
            refine LW.noU rfl rfl rfl rfl ?_
            refine LW.noB rfl rfl rfl rfl (ne_beq (v := true) rfl rfl) ?_
            refine LW.noB rfl rfl rfl rfl (ne_beq (v := true) rfl rfl) ?_
            refine LW.pure rfl rfl (RV.pickTB rfl rfl rfl) ?_
            refine LW.pure rfl rfl (RV.move rfl) ?_
            refine LW.yesB rfl rfl rfl rfl rfl (OW.call Tc18 rfl (law03_known_ok hr8) ?_)
            rintro _ w17 ⟨rfl, E11⟩
            refine ⟨_, rfl, ?_⟩
            replace H := H.grow E11
            replace R0 := H.ext
            refine LW.pure rfl rfl (RV.pickTB rfl rfl rfl) ?_
            refine LW.pure rfl rfl (RV.assign rfl) ?_
            refine LW.nil (hK9 _ _ ?_)
            refine CW.ret ?_
            obtain rfl := Option.some.inj F
            refine ⟨_, (ResOK.one rfl), ?_⟩
            refine ⟨(by first | rfl | simp), R0⟩
      ·
        intro K10 hK10 jK21
        obtain ⟨r11, hr11, F⟩ := bnd_some F
        by_cases hp8 : r11 = true
        ·
          replace F := ite_y hp8 F
          have hq8 : r11 = true := hp8
          refine CW.region ?_
          refine LW.pure rfl rfl (RV.loadA [.int .i64 r1.1.layers, .slice A22_0_bounds r1.1.bounds.length c22_0_bounds] Tk24 rfl (H.blk 2 rfl).cells rfl rfl) ?_
          refine LW.pure rfl rfl (RV.loadA [.int .i64 r10.1.layers, .slice A24_0_bounds r10.1.bounds.length c24_0_bounds] Tk24 rfl (H.blk 0 rfl).cells rfl rfl) ?_
          refine LW.go rfl rfl (OW.call Tc32 rfl (ref03_Equal_ok (a0 := r1.1) (a1 := r10.1) (H.own 3 rfl).sl (H.own 1 rfl).sl hr11) ?_)
          rintro _ w18 ⟨rfl, E12⟩
          refine ⟨_, rfl, ?_⟩
          replace H := H.grow E12
          replace R0 := H.ext
          refine LW.pure rfl rfl (RV.not rfl) ?_
          refine LW.pure rfl rfl (RV.move rfl) ?_
          refine LW.pureYB rfl rfl rfl rfl (not_f hq8) (RV.move rfl) ?_
          refine LW.pureYB rfl rfl rfl rfl (not_f hq8) (RV.move rfl) ?_
          refine LW.pureYB rfl rfl rfl rfl (not_f hq8) (RV.nei rfl rfl) ?_
          refine LW.pure rfl rfl (RV.pickFB rfl (not_f hq8) rfl) ?_
          replace H := H.pick (L' := [.own A22_0_bounds c22_0_bounds 26 3 (List.map encBound r1.1.bounds), .blk b1 24 [.int .i64 a0.layers, .slice A_a0_bounds a0.bounds.length c_a0_bounds], .blk b2 24 [.int .i64 a1.layers, .slice A_a1_bounds a1.bounds.length c_a1_bounds], .blk b3 24 [.int .i64 r1.1.layers, .slice A22_0_bounds r1.1.bounds.length c22_0_bounds]]) [3, 4, 5, 2] (by decide) rfl
          replace R0 := H.ext
          refine LW.nil (jK21 _ _ ⟨_, ?_, ⟨(!(decide (r1.2 = r10.2))), F, rfl, H⟩⟩)
          exact ⟨rfl, rfl, rfl, rfl, rfl, rfl, rfl, trivial⟩
        ·
          replace F := ite_n hp8 F
          have hq8 : r11 = false := raw_f hp8
          refine CW.region ?_
          refine LW.pure rfl rfl (RV.loadA [.int .i64 r1.1.layers, .slice A22_0_bounds r1.1.bounds.length c22_0_bounds] Tk24 rfl (H.blk 2 rfl).cells rfl rfl) ?_
          refine LW.pure rfl rfl (RV.loadA [.int .i64 r10.1.layers, .slice A24_0_bounds r10.1.bounds.length c24_0_bounds] Tk24 rfl (H.blk 0 rfl).cells rfl rfl) ?_
          refine LW.go rfl rfl (OW.call Tc32 rfl (ref03_Equal_ok (a0 := r1.1) (a1 := r10.1) (H.own 3 rfl).sl (H.own 1 rfl).sl hr11) ?_)
          rintro _ w19 ⟨rfl, E13⟩
          refine ⟨_, rfl, ?_⟩
          replace H := H.grow E13
          replace R0 := H.ext
          refine LW.pure rfl rfl (RV.not rfl) ?_
          refine LW.pure rfl rfl (RV.move rfl) ?_
          refine LW.noB rfl rfl rfl rfl (ne_beq (v := true) (not_t hq8) rfl) ?_
          refine LW.noB rfl rfl rfl rfl (ne_beq (v := true) (not_t hq8) rfl) ?_
          refine LW.noB rfl rfl rfl rfl (ne_beq (v := true) (not_t hq8) rfl) ?_
          refine LW.pure rfl rfl (RV.pickTB rfl (not_t hq8) rfl) ?_
          replace H := H.pick (L' := [.own A22_0_bounds c22_0_bounds 26 3 (List.map encBound r1.1.bounds), .blk b1 24 [.int .i64 a0.layers, .slice A_a0_bounds a0.bounds.length c_a0_bounds], .blk b2 24 [.int .i64 a1.layers, .slice A_a1_bounds a1.bounds.length c_a1_bounds], .blk b3 24 [.int .i64 r1.1.layers, .slice A22_0_bounds r1.1.bounds.length c22_0_bounds]]) [3, 4, 5, 2] (by decide) rfl
          replace R0 := H.ext
          refine LW.nil (jK21 _ _ ⟨_, ?_, ⟨true, F, rfl, H⟩⟩)
          exact ⟨rfl, rfl, rfl, rfl, rfl, rfl, rfl, trivial⟩
  ·
    intro K11 hK11 jK22
    obtain ⟨r12, hr12, F⟩ := bnd_some F
    by_cases hp9 : r12 = true
    ·
      replace F := ite_y hp9 F
      have hq9 : r12 = true := hp9
      refine CW.region ?_
      refine LW.pure rfl rfl (RV.loadA [.int .i64 a0.layers, .slice A_a0_bounds a0.bounds.length c_a0_bounds] Tk24 rfl (H.blk 1 rfl).cells rfl rfl) ?_
      refine LW.go rfl rfl (OW.call Tc17 rfl (law03_Long_ok (a0 := a0) (h_a0_bounds.ext R0) hr12) ?_)
      rintro _ w20 ⟨rfl, E14⟩
      refine ⟨_, rfl, ?_⟩
      replace H := H.grow E14
      replace R0 := H.ext
      refine LW.pure rfl rfl (RV.move rfl) ?_
      refine LW.noB rfl rfl rfl rfl (ne_beq (v := true) hq9 rfl) ?_
      refine LW.noB rfl rfl rfl rfl (ne_beq (v := true) hq9 rfl) ?_
      refine LW.pure rfl rfl (RV.pickTB rfl hq9 rfl) ?_
      refine LW.pure rfl rfl (RV.move rfl) ?_
      refine LW.noB rfl rfl rfl rfl (ne_beq (v := true) rfl rfl) ?_
      refine LW.noB rfl rfl rfl rfl (ne_beq (v := true) rfl rfl) ?_
      refine LW.noB rfl rfl rfl rfl (ne_beq (v := true) rfl rfl) ?_
      refine LW.pure rfl rfl (RV.pickTB rfl rfl rfl) ?_
      replace H := H.pick (L' := [.blk b1 24 [.int .i64 a0.layers, .slice A_a0_bounds a0.bounds.length c_a0_bounds], .blk b2 24 [.int .i64 a1.layers, .slice A_a1_bounds a1.bounds.length c_a1_bounds]]) [1, 0] (by decide) rfl
      replace R0 := H.ext
      refine LW.nil (jK22 _ _ ⟨_, ?_, ⟨true, F, rfl, H⟩⟩)
      exact ⟨rfl, rfl, rfl, rfl, rfl, trivial⟩
    ·
      replace F := ite_n hp9 F
      have hq9 : r12 = false := raw_f hp9
      obtain ⟨r13, hr13, F⟩ := bnd_some F
      by_cases hp10 : r13 = true
      ·
        replace F := ite_y hp10 F
        have hq10 : r13 = true := hp10
        refine CW.region ?_
        refine LW.pure rfl rfl (RV.loadA [.int .i64 a0.layers, .slice A_a0_bounds a0.bounds.length c_a0_bounds] Tk24 rfl (H.blk 1 rfl).cells rfl rfl) ?_
        refine LW.go rfl rfl (OW.call Tc17 rfl (law03_Long_ok (a0 := a0) (h_a0_bounds.ext R0) hr12) ?_)
        rintro _ w21 ⟨rfl, E15⟩
        refine ⟨_, rfl, ?_⟩
        replace H := H.grow E15
        replace R0 := H.ext
        refine LW.pure rfl rfl (RV.move rfl) ?_
        refine LW.pureYB rfl rfl rfl rfl hq9 (RV.loadA [.int .i64 a1.layers, .slice A_a1_bounds a1.bounds.length c_a1_bounds] Tk24 rfl (H.blk 0 rfl).cells rfl rfl) ?_
        refine LW.yesB rfl rfl rfl rfl hq9 (OW.call Tc17 rfl (law03_Long_ok (a0 := a1) (h_a1_bounds.ext R0) hr13) ?_)
        rintro _ w22 ⟨rfl, E16⟩
        refine ⟨_, rfl, ?_⟩
        replace H := H.grow E16
        replace R0 := H.ext
        refine LW.pure rfl rfl (RV.pickFB rfl hq9 rfl) ?_
        refine LW.pure rfl rfl (RV.move rfl) ?_
        refine LW.noB rfl rfl rfl rfl (ne_beq (v := true) hq10 rfl) ?_
        refine LW.noB rfl rfl rfl rfl (ne_beq (v := true) hq10 rfl) ?_
        refine LW.noB rfl rfl rfl rfl (ne_beq (v := true) hq10 rfl) ?_
        refine LW.pure rfl rfl (RV.pickTB rfl hq10 rfl) ?_
        replace H := H.pick (L' := [.blk b1 24 [.int .i64 a0.layers, .slice A_a0_bounds a0.bounds.length c_a0_bounds], .blk b2 24 [.int .i64 a1.layers, .slice A_a1_bounds a1.bounds.length c_a1_bounds]]) [1, 0] (by decide) rfl
        replace R0 := H.ext
        refine LW.nil (jK22 _ _ ⟨_, ?_, ⟨true, F, rfl, H⟩⟩)
        exact ⟨rfl, rfl, rfl, rfl, rfl, trivial⟩
      ·
        replace F := ite_n hp10 F
        have hq10 : r13 = false := raw_f hp10
        refine CW.region ?_
        refine LW.pure rfl rfl (RV.loadA [.int .i64 a0.layers, .slice A_a0_bounds a0.bounds.length c_a0_bounds] Tk24 rfl (H.blk 1 rfl).cells rfl rfl) ?_
        refine LW.go rfl rfl (OW.call Tc17 rfl (law03_Long_ok (a0 := a0) (h_a0_bounds.ext R0) hr12) ?_)
        rintro _ w23 ⟨rfl, E17⟩
        refine ⟨_, rfl, ?_⟩
        replace H := H.grow E17
        replace R0 := H.ext
        refine LW.pure rfl rfl (RV.move rfl) ?_
        refine LW.pureYB rfl rfl rfl rfl hq9 (RV.loadA [.int .i64 a1.layers, .slice A_a1_bounds a1.bounds.length c_a1_bounds] Tk24 rfl (H.blk 0 rfl).cells rfl rfl) ?_
        refine LW.yesB rfl rfl rfl rfl hq9 (OW.call Tc17 rfl (law03_Long_ok (a0 := a1) (h_a1_bounds.ext R0) hr13) ?_)
        rintro _ w24 ⟨rfl, E18⟩
        refine ⟨_, rfl, ?_⟩
        replace H := H.grow E18
        replace R0 := H.ext
        refine LW.pure rfl rfl (RV.pickFB rfl hq9 rfl) ?_
        refine LW.pure rfl rfl (RV.move rfl) ?_
        refine LW.pureYB rfl rfl rfl rfl hq10 (RV.move rfl) ?_
        refine LW.pureYB rfl rfl rfl rfl hq10 (RV.len Ts43 rfl) ?_
        refine LW.pureYB rfl rfl rfl rfl hq10 (RV.gtr rfl rfl) ?_
        refine LW.pure rfl rfl (RV.pickFB rfl hq10 rfl) ?_
        replace H := H.pick (L' := [.blk b1 24 [.int .i64 a0.layers, .slice A_a0_bounds a0.bounds.length c_a0_bounds], .blk b2 24 [.int .i64 a1.layers, .slice A_a1_bounds a1.bounds.length c_a1_bounds]]) [1, 0] (by decide) rfl
        replace R0 := H.ext
        refine LW.nil (jK22 _ _ ⟨_, ?_, ⟨(decide ((100 : Int) < ((a2.length : Int)))), F, rfl, H⟩⟩)
        exact ⟨rfl, rfl, rfl, rfl, rfl, trivial⟩
end Go.D3

namespace Go.Tb
/-- A loop over 0 .. N - 1 with a state, that is left at the first i for which p does not hold. -/
theorem scan_loop {S R : Type} (N : Nat) (p : Nat → Bool) (g : Nat → S) (L : Nat → S → Int → Option R) (yes : Option R) (no : Nat → Option R)
    (step : ∀ n i : Nat, i < N → L (n + 1) (g i) (i : Int) = if p i = true then L n (g (i + 1)) ((i + 1 : Nat) : Int) else no i)
    (stop : ∀ n : Nat, L (n + 1) (g N) (N : Int) = yes) : ∀ (d n i : Nat), N = i + d → d < n → L n (g i) (i : Int) = match (List.range' i d).find? (fun j => !p j) with | none => yes | some j => no j
  | 0, n + 1, i, hd, hn => by
    have hi : i = N := by omega
    subst hi
    rw [stop n]; rfl
  | d + 1, n + 1, i, hd, hn => by
    rw [step n i (by omega), List.range'_succ, List.find?_cons]
    cases hp : p i
    · simp
    · simp only [if_true, Bool.not_true]
      exact scan_loop N p g L yes no step stop d n (i + 1) (by omega) (by omega)
theorem find_all {p : Nat → Bool} {i d : Nat} : (List.range' i d).find? (fun j => !p j) = none ↔ ∀ j, i ≤ j → j < i + d → p j = true := by
  rw [List.find?_eq_none]
  constructor
  · intro h j h1 h2
    have := h j (by rw [List.mem_range'_1]; omega)
    simpa using this
  · intro h x hx
    rw [List.mem_range'_1] at hx
    simp [h x hx.1 hx.2]
/-- A loop over 0 .. N - 1 with a state and no way out. -/
theorem for_loop {S R : Type} (N : Nat) (g : Nat → S) (L : Nat → S → Int → Option R) (yes : Option R)
    (step : ∀ n i : Nat, i < N → L (n + 1) (g i) (i : Int) = L n (g (i + 1)) ((i + 1 : Nat) : Int))
    (stop : ∀ n : Nat, L (n + 1) (g N) (N : Int) = yes) : ∀ (d n i : Nat), N = i + d → d < n → L n (g i) (i : Int) = yes
  | 0, n + 1, i, hd, hn => by
    have hi : i = N := by omega
    subst hi
    exact stop n
  | d + 1, n + 1, i, hd, hn => by
    rw [step n i (by omega)]
    exact for_loop N g L yes step stop d n (i + 1) (by omega) (by omega)
theorem for_loop0 {S R : Type} (N : Nat) (g : Nat → S) (L : Nat → S → Int → Option R) (yes : Option R)
    (step : ∀ n i : Nat, i < N → L (n + 1) (g i) (i : Int) = L n (g (i + 1)) ((i + 1 : Nat) : Int))
    (stop : ∀ n : Nat, L (n + 1) (g N) (N : Int) = yes) (hN : N ≤ 9223372036854775807) : L FU (g 0) 0 = yes :=
  for_loop N g L yes step stop N FU 0 (by omega) (by have := FU_pos; omega)
theorem scan_loop0 {S R : Type} (N : Nat) (p : Nat → Bool) (g : Nat → S) (L : Nat → S → Int → Option R) (yes no : Option R)
    (step : ∀ n i : Nat, i < N → L (n + 1) (g i) (i : Int) = if p i = true then L n (g (i + 1)) ((i + 1 : Nat) : Int) else no)
    (stop : ∀ n : Nat, L (n + 1) (g N) (N : Int) = yes) (hN : N ≤ 9223372036854775807) : L FU (g 0) 0 = if (∀ j, j < N → p j = true) then yes else no := by
  have h := scan_loop N p g L yes (fun _ => no) step stop N FU 0 (by omega) (by have := FU_pos; omega)
  refine Eq.trans h ?_
  cases hf : (List.range' 0 N).find? (fun j => !p j) with
  | none => rw [if_pos (fun j hj => find_all.1 hf j (by omega) (by omega))]
  | some j =>
    have h1 := List.find?_some hf
    have h2 := List.mem_of_find?_eq_some hf
    rw [List.mem_range'_1] at h2
    rw [if_neg]
    intro hall
    have := hall j (by omega)
    simp [this] at h1
/-- The same over the elements of a list. -/
theorem list_loop0 {α R : Type} (l : List α) (p : α → Bool) (L : Nat → Int → Option R) (yes no : Option R)
    (step : ∀ (n i : Nat) (x : α), l[i]? = some x → L (n + 1) (i : Int) = if p x = true then L n ((i + 1 : Nat) : Int) else no)
    (stop : ∀ n : Nat, L (n + 1) (l.length : Int) = yes) (hl : l.length ≤ 9223372036854775807) : L FU 0 = if l.all p = true then yes else no := by
  have h := scan_loop0 l.length (fun i => (l[i]?.map p).getD true) (fun _ => ()) (fun n _ i => L n i) yes no (fun n i hi => by
    have hx : l[i]? = some l[i] := by simp [hi]
    rw [step n i _ hx]; simp [hx]) stop hl
  refine Eq.trans h ?_
  by_cases ha : l.all p = true
  · rw [if_pos ha, if_pos]
    intro j hj
    have := List.all_eq_true.1 ha l[j] (List.getElem_mem hj)
    simp [hj, this]
  · rw [if_neg ha, if_neg]
    intro hc
    refine ha (List.all_eq_true.2 fun x hx => ?_)
    obtain ⟨j, hj⟩ := List.getElem?_of_mem hx
    have := hc j (lt_of_at hj)
    simpa [hj] using this
end Go.Tb

namespace Go.Core
open Go.Tb
def okD (n : Int) : Bool := within n (-1000000) 1000000
def isDatesS (c : Core) (l : List Int) : Bool := decide ((l.length : Int) = c.layers) && l.all okD
def keeps (l : List Int) (x : Bound) : Bool := decide (gi l x.b - gi l x.a ≤ x.most)
def datedE (c : Core) (l : List Int) : Int := if validate c = 0 then (if isDatesS c l = true then 0 else 1) else validate c
def checkDates (c : Core) (l : List Int) : Int := if datedE c l = 0 then (if c.bounds.all (keeps l) = true then 0 else 7) else datedE c l
theorem datedE_ok {c : Core} {l : List Int} (h : datedE c l = 0) : validate c = 0 ∧ (l.length : Int) = c.layers ∧ ∀ n ∈ l, -1000000 ≤ n ∧ n ≤ 1000000 := by
  unfold datedE at h
  split at h
  · rename_i hv
    split at h
    · rename_i hd
      simp only [isDatesS, Bool.and_eq_true, decide_eq_true_eq] at hd
      exact ⟨hv, hd.1, fun n hn => within_iff.1 (List.all_eq_true.1 hd.2 n hn)⟩
    · omega
  · rename_i hv; exact absurd h hv
end Go.Core

set_option linter.unusedVariables false
set_option linter.unusedSimpArgs false
namespace Go.D3
open Go.Tb Go.Core
theorem known_eq : law03_known = some true := by decide +kernel
theorem within_eq (n lo hi : Int) : core_within n lo hi = some (within n lo hi) := by
  unfold core_within within
  by_cases h : lo ≤ n <;> simp [h]
theorem rwithin_eq (n lo hi : Int) : ref03_within n lo hi = some (within n lo hi) := by
  unfold ref03_within within
  by_cases h : lo ≤ n <;> simp [h]
theorem right_eq (x : Bound) (n : Int) (h : 1 ≤ n ∧ n ≤ 8) : core_right x n = some (right x n) := by
  unfold core_right right
  rw [gd_pos (by omega), bnd_eq (within_eq _ _ _)]
  cases h1 : within x.a 0 (n - 1) <;> simp only [Bool.false_and, Bool.true_and, Bool.false_eq_true, if_false, if_true]
  rw [gd_pos (by omega), bnd_eq (within_eq _ _ _)]
  cases h2 : within x.b 0 (n - 1) <;> simp only [Bool.false_and, Bool.true_and, Bool.false_eq_true, if_false, if_true]
  by_cases h3 : x.a = x.b <;> simp [h3, within_eq]
theorem isBound_eq (x : Bound) (n : Int) (h : 1 ≤ n ∧ n ≤ 8) : ref03_isBound x n = some (right x n) := by
  unfold ref03_isBound right
  rw [gd_pos (by omega), bnd_eq (rwithin_eq _ _ _)]
  cases h1 : within x.a 0 (n - 1) <;> simp only [Bool.false_and, Bool.true_and, Bool.false_eq_true, if_false, if_true]
  rw [gd_pos (by omega), bnd_eq (rwithin_eq _ _ _)]
  cases h2 : within x.b 0 (n - 1) <;> simp only [Bool.false_and, Bool.true_and, Bool.false_eq_true, if_false, if_true]
  by_cases h3 : x.a = x.b <;> simp [h3, rwithin_eq]
/-- A loop over a list that stops at the first element for which p does not hold. -/
theorem all_loop {α R : Type} (l : List α) (p : α → Bool) (L : Nat → Int → Option R) (yes no : Option R)
    (step : ∀ (n i : Nat) (x : α), l[i]? = some x → L (n + 1) (i : Int) = if p x = true then L n ((i + 1 : Nat) : Int) else no)
    (stop : ∀ n : Nat, L (n + 1) (l.length : Int) = yes) : ∀ (d n i : Nat), l.length = i + d → d < n → L n (i : Int) = if (l.drop i).all p = true then yes else no
  | 0, n + 1, i, hd, hn => by
    have hi : i = l.length := by omega
    subst hi
    rw [stop n, List.drop_length]
    simp
  | d + 1, n + 1, i, hd, hn => by
    have hlt : i < l.length := by omega
    rw [step n i l[i] (by simp [hlt])]
    have hdrop : l.drop i = l[i] :: l.drop (i + 1) := List.drop_eq_getElem_cons hlt
    rw [hdrop, List.all_cons]
    cases hp : p l[i]
    · simp
    · simp only [if_true, Bool.true_and]
      exact all_loop l p L yes no step stop d n (i + 1) (by omega) (by omega)
theorem all_loop0 {α R : Type} (l : List α) (p : α → Bool) (L : Nat → Int → Option R) (yes no : Option R)
    (step : ∀ (n i : Nat) (x : α), l[i]? = some x → L (n + 1) (i : Int) = if p x = true then L n ((i + 1 : Nat) : Int) else no)
    (stop : ∀ n : Nat, L (n + 1) (l.length : Int) = yes) (hl : l.length ≤ 1000000) : L FU 0 = if l.all p = true then yes else no := by
  have := all_loop l p L yes no step stop l.length FU 0 (by omega) (by have := FU_pos; omega)
  simpa using this
theorem Validate_eq (c : Core) (hl : c.bounds.length ≤ 100) : core_Validate c = some (validate c) := by
  unfold core_Validate validate
  rw [bnd_eq (within_eq _ _ _)]
  cases h1 : within c.layers 1 8 <;> simp only [Bool.false_eq_true, Bool.true_eq_false, if_false, if_true]
  have h1' := Core.within_iff.1 h1
  by_cases h2 : (20 : Int) < c.bounds.length
  · rw [if_pos h2, if_pos h2]
  · rw [if_neg h2, if_neg h2]
    rw [all_loop0 c.bounds (fun x => right x c.layers) (core_Validate_L1 c) (some 0) (some 1) ?_ ?_ (by omega)]
    · split <;> rfl
    · intro n i x hx
      have := lt_of_at hx
      show core_Validate_B1 c (core_Validate_L1 c n) i = _
      unfold core_Validate_B1
      rw [if_pos (by omega), ix_nat hx, bnd_eq (right_eq _ _ h1'), gd_pos (by omega)]
      rfl
    · intro n
      show core_Validate_B1 c (core_Validate_L1 c n) _ = _
      unfold core_Validate_B1
      rw [if_neg (by omega)]; rfl
theorem rValidate_eq (c : Core) (hl : c.bounds.length ≤ 100) : ref03_Validate c = some (validate c) := by
  unfold ref03_Validate validate
  rw [bnd_eq (rwithin_eq _ _ _)]
  cases h1 : within c.layers 1 8 <;> simp only [Bool.false_eq_true, Bool.true_eq_false, if_false, if_true]
  have h1' := Core.within_iff.1 h1
  by_cases h2 : (20 : Int) < c.bounds.length
  · rw [if_pos h2, if_pos h2]
  · rw [if_neg h2, if_neg h2]
    rw [all_loop0 c.bounds (fun x => right x c.layers) (ref03_Validate_L1 c) (some 0) (some 1) ?_ ?_ (by omega)]
    · split <;> rfl
    · intro n i x hx
      have := lt_of_at hx
      show ref03_Validate_B1 c (ref03_Validate_L1 c n) i = _
      unfold ref03_Validate_B1
      rw [if_pos (by omega), ix_nat hx, bnd_eq (isBound_eq _ _ h1'), gd_pos (by omega)]
      rfl
    · intro n
      show ref03_Validate_B1 c (ref03_Validate_L1 c n) _ = _
      unfold ref03_Validate_B1
      rw [if_neg (by omega)]; rfl
end Go.D3

set_option linter.unusedVariables false
set_option linter.unusedSimpArgs false
namespace Go.D3
open Go.Tb Go.Core
theorem dated1_eq (n : Int) : core_dated_1 n = some (!okD n) := by
  unfold core_dated_1; rw [bnd_eq (within_eq _ _ _)]; rfl
theorem ContainsFunc_eq (l : List Int) (hl : l.length ≤ 1000000) : slices_ContainsFunc_int l core_dated_1 = some (!(l.all okD)) := by
  unfold slices_ContainsFunc_int slices_IndexFunc_int
  have h := scan_loop l.length (fun i => (l[i]?.map okD).getD true) (fun _ => ()) (fun n _ i => slices_IndexFunc_int_L1 l core_dated_1 n i) (some (-1)) (fun j => some (j : Int)) (fun n i hi => ?_) (fun n => ?_) l.length FU 0 (by omega) (by have := FU_pos; omega)
  · rw [bnd_eq (x := match (List.range' 0 l.length).find? (fun j => !((l[j]?.map okD).getD true)) with | none => -1 | some j => (j : Int)) (by
      refine Eq.trans h ?_
      cases (List.range' 0 l.length).find? (fun j => !((l[j]?.map okD).getD true)) <;> rfl)]
    congr 1
    cases hf : (List.range' 0 l.length).find? (fun j => !((l[j]?.map okD).getD true)) with
    | none =>
      have := find_all.1 hf
      have ha : l.all okD = true := List.all_eq_true.2 fun x hx => by
        obtain ⟨j, hj⟩ := List.getElem?_of_mem hx
        have := this j (by omega) (by have := lt_of_at hj; omega)
        simpa [hj] using this
      simp [ha]
    | some j =>
      have h1 := List.find?_some hf
      have h2 := List.mem_of_find?_eq_some hf
      rw [List.mem_range'_1] at h2
      have hx : l[j]? = some l[j] := List.getElem?_eq_getElem (by omega)
      rw [hx] at h1
      have ha : l.all okD = false := by
        rw [List.all_eq_false]
        exact ⟨l[j], List.getElem_mem _, by simpa using h1⟩
      simp [ha]
  · show slices_IndexFunc_int_B1 l core_dated_1 (slices_IndexFunc_int_L1 l core_dated_1 n) _ = _
    have hx : l[i]? = some l[i] := by simp [hi]
    unfold slices_IndexFunc_int_B1
    rw [if_pos (by omega), ix_nat hx, bnd_eq (dated1_eq _), gd_pos (by omega), hx]
    cases h : okD l[i] <;> simp [h]
  · show slices_IndexFunc_int_B1 l core_dated_1 (slices_IndexFunc_int_L1 l core_dated_1 n) _ = _
    unfold slices_IndexFunc_int_B1
    rw [if_neg (by omega)]; rfl
theorem dated_eq (c : Core) (l : List Int) (hc : c.bounds.length ≤ 100) (hl : l.length ≤ 1000000) : core_dated c l = some (datedE c l) := by
  unfold core_dated datedE
  rw [bnd_eq (Validate_eq c hc)]
  by_cases hv : validate c = 0
  · rw [if_pos hv, if_pos hv, bnd_eq (ContainsFunc_eq l hl)]
    unfold core_dated_k1 isDatesS
    by_cases h : (l.length : Int) = c.layers
    · rw [if_pos h]; cases l.all okD <;> simp [h]
    · rw [if_neg h]; simp [h]
  · rw [if_neg hv, if_neg hv]
theorem keep_loop (c : Core) (l : List Int) (hd : datedE c l = 0) {x : Bound} {i : Nat} (hx : c.bounds[i]? = some x) : ∃ p q, l[x.b.toNat]? = some p ∧ l[x.a.toNat]? = some q ∧ InR (p - q) ∧ 0 ≤ x.a ∧ 0 ≤ x.b ∧ (keeps l x = !decide (x.most < p - q)) := by
  obtain ⟨hv, h1, h2⟩ := datedE_ok hd
  have hb := bound_ok hv hx
  obtain ⟨p, hp⟩ := ex_at (l := l) (j := x.b.toNat) (by omega)
  obtain ⟨q, hq⟩ := ex_at (l := l) (j := x.a.toNat) (by omega)
  have b1 := h2 p (List.mem_of_getElem? hp)
  have b2 := h2 q (List.mem_of_getElem? hq)
  refine ⟨p, q, hp, hq, by omega, hb.1, hb.2.2.1, ?_⟩
  unfold keeps
  rw [gi_of hp, gi_of hq]
  by_cases h : x.most < p - q
  · simp [h]
  · simp [h]; omega
theorem CheckDates_eq (c : Core) (l : List Int) (hc : c.bounds.length ≤ 100) (hl : l.length ≤ 1000000) : core_CheckDates c l = some (checkDates c l) := by
  unfold core_CheckDates checkDates
  rw [bnd_eq (dated_eq c l hc hl)]
  by_cases hd : datedE c l = 0
  · rw [if_pos hd, if_pos hd, list_loop0 c.bounds (keeps l) (core_CheckDates_L1 c l) (some 0) (some 7) (fun n i x hx => ?_) (fun n => ?_) (by omega)]
    · split <;> rfl
    · have hi := lt_of_at hx
      obtain ⟨p, q, hp, hq, hr, ha, hb, hk⟩ := keep_loop c l hd hx
      show core_CheckDates_B1 c l (core_CheckDates_L1 c l n) _ = _
      unfold core_CheckDates_B1
      rw [if_pos (by omega), ix_nat hx, ix_eq hb hp, ix_eq ha hq, gd_pos hr, gd_pos (by omega), hk]
      by_cases h : x.most < p - q <;> simp [h]
    · show core_CheckDates_B1 c l (core_CheckDates_L1 c l n) _ = _
      unfold core_CheckDates_B1
      rw [if_neg (by omega)]; rfl
  · rw [if_neg hd, if_neg hd]
end Go.D3

set_option linter.unusedVariables false
set_option linter.unusedSimpArgs false
namespace Go.D3
open Go.Tb Go.Core
theorem Long_eq (c : Core) : law03_Long c = some (decide ((100 : Int) < c.bounds.length)) := rfl
def flip (x : Bound) : Bound := ⟨x.b, x.a, x.most⟩
def turn (c : Core) : Core := ⟨c.layers, c.bounds.map flip⟩
theorem Copy_eq (c : Core) (hl : c.bounds.length ≤ 1000000) : ref03_Copy c = some c := by
  unfold ref03_Copy
  rw [gd_pos (by simpa using hl)]
  simp
theorem beqB (x y : Bound) : ((x.a == y.a) && (x.b == y.b) && (x.most == y.most)) = true ↔ x = y := by
  cases x; cases y; simp [and_assoc]
theorem SameBounds_self (l : List Bound) (hl : l.length ≤ 1000000) : ref03_SameBounds l l = some true := by
  unfold ref03_SameBounds
  rw [if_pos rfl]
  refine for_loop0 l.length (fun _ => ()) (fun n _ i => ref03_SameBounds_L1 l l n i) _ (fun n i hi => ?_) (fun n => ?_) (by omega)
  · obtain ⟨x, hx⟩ := ex_at hi
    show ref03_SameBounds_B1 l l (ref03_SameBounds_L1 l l n) _ = _
    unfold ref03_SameBounds_B1
    rw [if_pos (by omega), ix_nat hx, ix_nat hx, if_pos ((beqB x x).2 rfl), gd_pos (by omega)]
    rfl
  · show ref03_SameBounds_B1 l l (ref03_SameBounds_L1 l l n) _ = _
    unfold ref03_SameBounds_B1
    rw [if_neg (by omega)]; rfl
theorem Equal_self (c : Core) (hl : c.bounds.length ≤ 1000000) : ref03_Equal c c = some true := by
  unfold ref03_Equal
  rw [if_pos rfl, bnd_eq (SameBounds_self _ hl)]
end Go.D3

set_option linter.unusedVariables false
set_option linter.unusedSimpArgs false
namespace Go.D3
open Go.Tb Go.Core
def bAt (c : Core) (k : Int) : Bound := c.bounds.getD k.toNat ⟨0, 0, 0⟩
theorem bAt_of {c : Core} {k : Int} {x : Bound} (h : c.bounds[k.toNat]? = some x) : bAt c k = x := by simp [bAt, List.getD, h]
def PE (c : Core) (s : RS) (x : Bound) : Prop := ∃ k : Nat, c.bounds[k]? = some x ∧ s.2.1[x.b.toNat]? = some (k : Int)
structure PI (c : Core) (r j : Nat) (s : RS) (lev : Nat → Nat) : Prop where
  l1 : s.1.length = c.layers.toNat
  l2 : s.2.1.length = c.layers.toNat
  le : ∀ v, lev v ≤ r
  zero : ∀ v, v < c.layers.toNat → lev v = 0 → s.2.1[v]? = some (-1)
  par : ∀ v, v < c.layers.toNat → lev v ≠ 0 → ∃ (k : Nat) (x : Bound), c.bounds[k]? = some x ∧ x.b.toNat = v ∧ s.2.1[v]? = some (k : Int) ∧ ds s x.a.toNat + x.most ≤ ds s v ∧ lev v ≤ lev x.a.toNat + 1
  cyc : ∀ u e, Path c u e u → e ≠ [] → (∀ x ∈ e, PE c s x) → wt e < 0
  chk : ∀ (i : Nat) (x : Bound), c.bounds[i]? = some x → (i < j ∧ lev x.a.toNat + 1 ≤ r) ∨ lev x.a.toNat + 2 ≤ r → ds s x.b.toNat ≤ ds s x.a.toNat + x.most
  last : s.2.2 < 0 ∨ (lev s.2.2.toNat = r ∧ s.2.2 < c.layers)
theorem PI.edge {c : Core} (hv : validate c = 0) {r j : Nat} {s : RS} {lev : Nat → Nat} (h : PI c r j s lev) {x : Bound} (hx : PE c s x) : ds s x.a.toNat + x.most ≤ ds s x.b.toNat := by
  obtain ⟨k, hk, hb⟩ := hx
  have hbo := bound_ok hv hk
  by_cases h0 : lev x.b.toNat = 0
  · have := h.zero _ (by omega) h0
    rw [hb] at this
    cases this
  · obtain ⟨k', x', hk', hb', hs', hd, _⟩ := h.par _ (by omega) h0
    rw [hb] at hs'
    have e : k = k' := by have := Option.some.inj hs'; omega
    subst e
    rw [hk] at hk'
    cases hk'
    exact hd
theorem tele {c : Core} {D : Nat → Int} {u v : Nat} {e : List Bound} (h : Path c u e v) : (∀ x ∈ e, D x.a.toNat + x.most ≤ D x.b.toNat) → wt e ≤ D v - D u ∧ ∀ y ∈ e, D y.a.toNat + y.most < D y.b.toNat → wt e < D v - D u := by
  induction h with
  | nil => intro _; simp [wt]
  | cons hx hp ih =>
    intro hall
    obtain ⟨i1, i2⟩ := ih fun y hy => hall y (by simp [hy])
    have h0 := hall _ (List.mem_cons_self)
    simp only [wt]
    refine ⟨by omega, fun y hy hlt => ?_⟩
    rcases List.mem_cons.1 hy with rfl | hy
    · omega
    · have := i2 y hy hlt; omega
theorem PI.step {c : Core} (hv : validate c = 0) {r j : Nat} {s : RS} {lev : Nat → Nat} (h : PI c r j s lev) (hr : 1 ≤ r) {x : Bound} (hx : c.bounds[j]? = some x) : ∃ lev', PI c r (j + 1) (relaxB s j x) lev' := by
  have hb := bound_ok hv hx
  have hD : ∀ v, ds (relaxB s j x) v = if v = x.b.toNat ∧ ds s x.a.toNat + x.most < ds s x.b.toNat then ds s x.a.toNat + x.most else ds s v := relaxB_ds h.l1 (by omega)
  by_cases hlt : ds s x.a.toNat + x.most < ds s x.b.toNat
  · have hS : relaxB s j x = (s.1.set x.b.toNat (ds s x.a.toNat + x.most), s.2.1.set x.b.toNat (j : Int), x.b) := by
      unfold relaxB; rw [gi_ds, gi_ds, if_pos hlt]
    have hDb : ds (relaxB s j x) x.b.toNat = ds s x.a.toNat + x.most := by rw [hD, if_pos ⟨rfl, hlt⟩]
    have hDn : ∀ v, v ≠ x.b.toNat → ds (relaxB s j x) v = ds s v := fun v hn => by rw [hD, if_neg (fun h => hn h.1)]
    have hDl : ∀ v, ds (relaxB s j x) v ≤ ds s v := fun v => by
      by_cases hn : v = x.b.toNat
      · subst hn; rw [hDb]; omega
      · rw [hDn v hn]; exact Int.le_refl _
    have hB2 : (relaxB s j x).2.1 = s.2.1.set x.b.toNat (j : Int) := by rw [hS]
    have hbn : ∀ v, v ≠ x.b.toNat → (relaxB s j x).2.1[v]? = s.2.1[v]? := fun v hn => by rw [hB2, List.getElem?_set_ne (Ne.symm hn)]
    have hbb : (relaxB s j x).2.1[x.b.toNat]? = some (j : Int) := by rw [hB2, List.getElem?_set_self (by rw [h.l2]; omega)]
    have hab : x.a.toNat ≠ x.b.toNat := by omega
    refine ⟨fun v => if v = x.b.toNat then r else lev v, ?_, ?_, ?_, ?_, ?_, ?_, ?_, ?_⟩
    · rw [hS]; simp [h.l1]
    · rw [hS]; simp [h.l2]
    · intro v
      show (if v = x.b.toNat then r else lev v) ≤ r
      split
      · exact Nat.le_refl _
      · exact h.le v
    · intro v hvn h0
      have hn : v ≠ x.b.toNat := fun e => by simp [e] at h0; omega
      simp only [if_neg hn] at h0
      rw [hbn v hn]; exact h.zero v hvn h0
    · intro v hvn h0
      by_cases hn : v = x.b.toNat
      · subst hn
        refine ⟨j, x, hx, rfl, hbb, by rw [hDb, hDn _ hab]; exact Int.le_refl _, ?_⟩
        simp only [if_true, if_neg hab]
        by_cases hl : lev x.a.toNat + 2 ≤ r
        · have := h.chk j x hx (.inr hl); omega
        · omega
      · simp only [if_neg hn] at h0 ⊢
        obtain ⟨k, y, hk, hy, hs, hd, hl⟩ := h.par v hvn h0
        refine ⟨k, y, hk, hy, by rw [hbn v hn]; exact hs, ?_, ?_⟩
        · have := hDl y.a.toNat; rw [hDn v hn]; omega
        · by_cases hya : y.a.toNat = x.b.toNat
          · rw [if_pos hya]; have := h.le v; omega
          · rw [if_neg hya]; exact hl
    · intro u e hp hne hall
      have hold : ∀ y ∈ e, y = x ∨ PE c s y := fun y hy => by
        obtain ⟨k, hk, hs⟩ := hall y hy
        by_cases hyb : y.b.toNat = x.b.toNat
        · rw [hyb, hbb] at hs
          have e1 : j = k := by have := Option.some.inj hs; omega
          subst e1
          rw [hx] at hk; cases hk
          exact .inl rfl
        · exact .inr ⟨k, hk, by rw [hbn _ hyb] at hs; exact hs⟩
      by_cases hxe : x ∈ e
      · have ht := tele (D := ds s) hp fun y hy => by
          rcases hold y hy with rfl | hy
          · omega
          · exact h.edge hv hy
        have := ht.2 x hxe hlt
        omega
      · exact h.cyc u e hp hne fun y hy => by
          rcases hold y hy with rfl | h'
          · exact absurd hy hxe
          · exact h'
    · intro i y hy hcase
      by_cases hya : y.a.toNat = x.b.toNat
      · simp only [if_pos hya] at hcase; omega
      · simp only [if_neg hya] at hcase
        rw [hDn _ hya]
        by_cases hij : i = j
        · subst hij
          rw [hx] at hy; cases hy
          rw [hDb]; exact Int.le_refl _
        · have := h.chk i y hy (by omega)
          have := hDl y.b.toNat
          omega
    · right
      rw [hS]
      exact ⟨by simp, hb.2.2.2.1⟩
  · have hS : relaxB s j x = s := by unfold relaxB; rw [gi_ds, gi_ds, if_neg hlt]
    rw [hS]
    refine ⟨lev, h.l1, h.l2, h.le, h.zero, h.par, h.cyc, fun i y hy hcase => ?_, h.last⟩
    by_cases hij : i = j
    · subst hij
      rw [hx] at hy; cases hy
      omega
    · exact h.chk i y hy (by omega)
theorem PI.to {c : Core} (hv : validate c = 0) {r : Nat} {s : RS} {lev : Nat → Nat} (h : PI c r 0 s lev) (hr : 1 ≤ r) : ∀ j, j ≤ c.bounds.length → ∃ lev', PI c r j (relaxTo c.bounds s j) lev'
  | 0, _ => ⟨lev, h⟩
  | j + 1, hj => by
    obtain ⟨lev', h'⟩ := PI.to hv h hr j (by omega)
    obtain ⟨x, hx⟩ := ex_at (l := c.bounds) (j := j) (by omega)
    rw [relaxTo_succ hx]
    exact h'.step hv hr hx
end Go.D3

set_option linter.unusedVariables false
set_option linter.unusedSimpArgs false
namespace Go.D3
open Go.Tb Go.Core
structure On (c : Core) (s : RS) (lev : Nat → Nat) (v : Int) (m : Nat) : Prop where
  lo : 0 ≤ v
  hi : v < c.layers
  lev : m ≤ lev v.toNat
theorem On.next {c : Core} (hv : validate c = 0) {r j : Nat} {s : RS} {lev : Nat → Nat} (h : PI c r j s lev) {v : Int} {m : Nat} (o : On c s lev v (m + 1)) :
    ∃ (k : Nat) (x : Bound), c.bounds[k]? = some x ∧ x.b = v ∧ s.2.1[v.toNat]? = some (k : Int) ∧ gi s.2.1 v = k ∧ bAt c (gi s.2.1 v) = x ∧ PE c s x ∧ On c s lev x.a m := by
  have h1 := o.lev
  have h2 := o.lo
  have h3 := o.hi
  obtain ⟨k, x, hk, hb, hs, _, hl⟩ := h.par v.toNat (by omega) (by omega)
  have hbo := bound_ok hv hk
  have hg : gi s.2.1 v = k := gi_of hs
  refine ⟨k, x, hk, by omega, hs, hg, ?_, ⟨k, hk, by rw [hb]; exact hs⟩, hbo.1, hbo.2.1, by omega⟩
  rw [hg]; exact bAt_of (by simpa using hk)
end Go.D3
