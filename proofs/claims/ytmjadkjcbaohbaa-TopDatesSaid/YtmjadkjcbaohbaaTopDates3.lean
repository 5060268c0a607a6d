/- Lemmas and walks that the proof of this claim uses: D3m4, D3m5D, D3m5, D3m6D, D3m6, D3m7D, D3m7, TbCoreSpec6, D3p1, D3p2, D3p3, D3p4, D3p5, D3p6, Tb23, Tb24, Tb25, Tb26, Tb28, Tb29, Tb30, Tb31, Tb32, Tb33. -/
import Derived.Test.YtmjadkjcbaohbaaTopDates2
set_option linter.unusedVariables false
set_option linter.unusedSimpArgs false
namespace Go.D3
open Go.Tb Go.Proofs Go.RowKit Go.Core
theorem Tc67 : callable Try.prog 67 = true := by kernel_rfl
theorem Tc85 : callable Try.prog 85 = true := by kernel_rfl
theorem Tc86 : callable Try.prog 86 = true := by kernel_rfl
theorem Tc94 : callable Try.prog 94 = true := by kernel_rfl
set_option maxRecDepth 20000 in
set_option maxHeartbeats 1000000 in
theorem slices_IndexFunc_int_ok {a0 : List Int} {a1 : Int → Option Bool} {A_a0 : Option Addr} {c_a0 : Nat} {f_a1 : Nat} {p_a1 : Array Value} {q_a1 : Array Value} {w : World} {res : Int} (h_a0 : Sl w A_a0 c_a0 1 (a0.map encN)) (h_a1 : ∀ (x2 : Int) (r : Bool), a1 x2 = some r → ∀ w1, Ext w w1 → CallsV Try.prog f_a1 p_a1 q_a1 #[.int .i64 x2] w1 (Rt w1 (.bool r))) (F : slices_IndexFunc_int a0 a1 = some res) : Calls Try.prog 94 #[.slice A_a0 a0.length c_a0, .func (.func f_a1) p_a1 q_a1] w (Rt w (.int .i64 res)) := by
  refine calls_of_cw (args := [.slice A_a0 a0.length c_a0, .func (.func f_a1) p_a1 q_a1]) Try.func94 rfl rfl rfl rfl ?_
  have H := Hp.start w
  have R0 := H.ext
  unfold slices_IndexFunc_int at F
  refine CW.seq fun K1 hK1 => ?_
  refine CW.region ?_
  refine LW.pure rfl rfl (RV.assign rfl) ?_
  refine LW.nil (hK1 _ _ ?_)
  refine CW.seqJ (fun ρ wl1 => (slices_IndexFunc_int_k1 = some res ∧ ρ = [(4, .int .i64 0)] ∧ Hp w wl1 [])) ?_ ?_
  ·
    rintro _ wl1 ⟨F, rfl, H⟩
    have R0 := H.ext
    unfold slices_IndexFunc_int_k1 at F
    refine CW.seq fun K2 hK2 => ?_
    refine CW.region ?_
    refine LW.pure rfl rfl (RV.assign rfl) ?_
    refine LW.nil (hK2 _ _ ?_)
    refine CW.ret ?_
    obtain rfl := Option.some.inj F
    refine ⟨_, (ResOK.one rfl), ?_⟩
    refine ⟨(by first | rfl | simp), R0⟩
  ·
    intro K3 hK3 jK63
    refine CW.seq fun K4 hK4 => ?_
    refine CW.region ?_
    refine LW.pure rfl rfl (RV.move rfl) ?_
    refine LW.pure rfl rfl (RV.len Ts43 rfl) ?_
    refine LW.pure rfl rfl (RV.move rfl) ?_
    refine LW.nil (hK4 _ _ ?_)
    refine CW.block ?_
    refine CW.loop (fun meas ρ wl2 => ∃ (t8_1 : Int), slices_IndexFunc_int_L1 a0 a1 meas t8_1 = some res ∧ ρ = [(0, .slice A_a0 a0.length c_a0), (1, .func (.func f_a1) p_a1 q_a1), (4, .int .i64 0), (7, .int .i64 ((a0.length : Int))), (8, .int .i64 t8_1)] ∧ Hp w wl2 []) FU ⟨_, ?_, ((0 : Int)), F, rfl, H⟩ ?_
    · exact ⟨rfl, rfl, rfl, rfl, rfl, trivial⟩
    rintro mk1 _ wl2 ⟨t8_1, F, rfl, H⟩
    have R0 := H.ext
    replace F := slices_IndexFunc_int_L1_s F
    obtain ⟨mk1, rfl, F⟩ := F
    generalize hrec1 : slices_IndexFunc_int_L1 a0 a1 mk1 = rec1 at F
    unfold slices_IndexFunc_int_B1 at F
    refine CW.seq fun K5 hK5 => ?_
    refine CW.region ?_
    refine LW.pure rfl rfl (RV.lss rfl rfl) ?_
    refine LW.nil (hK5 _ _ ?_)
    refine CW.seq fun K6 hK6 => ?_
    by_cases hp1 : t8_1 < ((a0.length : Int))
    ·
      replace F := ite_y hp1 F
      have hq1 := dec_t hp1
      refine CW.condT rfl hq1 ?_
      refine CW.skip (hK6 _ _ ?_)
      refine CW.seq fun K7 hK7 => ?_
      refine CW.block ?_
      refine CW.seq fun K8 hK8 => ?_
      refine CW.region ?_
      refine LW.pure rfl rfl (RV.move rfl) ?_
      refine LW.pure rfl rfl (RV.assign rfl) ?_
      refine LW.nil (hK8 _ _ ?_)
      refine CW.seq fun K9 hK9 => ?_
      obtain ⟨x1, hbx1, hx1, F⟩ := ix_some F
      obtain ⟨r1, hr1, F⟩ := bnd_some F
      refine CW.region ?_
      refine LW.pure rfl rfl (RV.move rfl) ?_
      refine LW.pure rfl rfl (RV.move rfl) ?_
      refine LW.pure rfl rfl (RV.move rfl) ?_
      refine LW.pure rfl rfl (RV.indexAddr Ts43 rfl rfl hbx1 (h_a0.addr_ hx1)) ?_
      refine LW.pure rfl rfl (RV.load1 Tk3 rfl ((h_a0.at_ hx1).ext R0) rfl) ?_
      refine LW.go rfl rfl (OW.callV2 rfl rfl rfl (h_a1 _ _ hr1 _ R0) ?_)
      rintro _ w2 ⟨rfl, E1⟩
      refine ⟨_, rfl, ?_⟩
      replace H := H.grow E1
      replace R0 := H.ext
      refine LW.nil (hK9 _ _ ?_)
      by_cases hp2 : r1 = true
      ·
        replace F := ite_y hp2 F
        have hq2 : r1 = true := hp2
        refine CW.condT rfl hq2 ?_
        refine CW.seq fun K10 hK10 => ?_
        refine CW.region ?_
        refine LW.pure rfl rfl (RV.move rfl) ?_
        refine LW.pure rfl rfl (RV.assign rfl) ?_
        refine LW.nil (hK10 _ _ ?_)
        refine CW.ret ?_
        obtain rfl := Option.some.inj F
        refine ⟨_, (ResOK.one rfl), ?_⟩
        refine ⟨(by first | rfl | simp), R0⟩
      ·
        replace F := ite_n hp2 F
        have hq2 : r1 = false := raw_f hp2
        refine CW.condF rfl hq2 ?_
        refine CW.skip (hK7 _ _ ?_)
        obtain ⟨hg1, F⟩ := gd_some F
        refine CW.region ?_
        refine LW.pure rfl rfl (RV.add rfl rfl hg1) ?_
        refine LW.pure rfl rfl (RV.move rfl) ?_
        refine LW.nil ?_
        subst hrec1
        refine ⟨mk1, Nat.lt_succ_self _, _, ?_, (t8_1 + 1), F, rfl, H⟩
        exact ⟨rfl, rfl, rfl, rfl, rfl, trivial⟩
    ·
      replace F := ite_n hp1 F
      have hq1 := dec_f hp1
      refine CW.condF rfl hq1 ?_
      refine CW.exit (jK63 _ _ ⟨_, ?_, ⟨F, rfl, H⟩⟩)
      exact ⟨rfl, trivial⟩
set_option maxRecDepth 20000 in
set_option maxHeartbeats 1000000 in
theorem slices_ContainsFunc_int_ok {a0 : List Int} {a1 : Int → Option Bool} {A_a0 : Option Addr} {c_a0 : Nat} {f_a1 : Nat} {p_a1 : Array Value} {q_a1 : Array Value} {w : World} {res : Bool} (h_a0 : Sl w A_a0 c_a0 1 (a0.map encN)) (h_a1 : ∀ (x0 : Int) (r : Bool), a1 x0 = some r → ∀ w1, Ext w w1 → CallsV Try.prog f_a1 p_a1 q_a1 #[.int .i64 x0] w1 (Rt w1 (.bool r))) (F : slices_ContainsFunc_int a0 a1 = some res) : Calls Try.prog 85 #[.slice A_a0 a0.length c_a0, .func (.func f_a1) p_a1 q_a1] w (Rt w (.bool res)) := by
  refine calls_of_cw (args := [.slice A_a0 a0.length c_a0, .func (.func f_a1) p_a1 q_a1]) Try.func85 rfl rfl rfl rfl ?_
  have H := Hp.start w
  have R0 := H.ext
  unfold slices_ContainsFunc_int at F
  refine CW.seq fun K1 hK1 => ?_
  refine CW.region ?_
  refine LW.pure rfl rfl (RV.assign rfl) ?_
  refine LW.nil (hK1 _ _ ?_)
  refine CW.seq fun K2 hK2 => ?_
  obtain ⟨r1, hr1, F⟩ := bnd_some F
  refine CW.region ?_
  refine LW.pure rfl rfl (RV.move rfl) ?_
  refine LW.pure rfl rfl (RV.move rfl) ?_
  refine LW.go rfl rfl (OW.call Tc94 rfl (slices_IndexFunc_int_ok (a0 := a0) (a1 := a1) (h_a0.ext R0) (fun x0 r hF w1 hE => h_a1 x0 r hF w1 (R0.trans hE)) hr1) ?_)
  rintro _ w2 ⟨rfl, E1⟩
  refine ⟨_, rfl, ?_⟩
  replace H := H.grow E1
  replace R0 := H.ext
  refine LW.pure rfl rfl (RV.geq rfl rfl) ?_
  refine LW.pure rfl rfl (RV.assign rfl) ?_
  refine LW.nil (hK2 _ _ ?_)
  refine CW.ret ?_
  obtain rfl := Option.some.inj F
  refine ⟨_, (ResOK.one rfl), ?_⟩
  refine ⟨(by first | rfl | simp), R0⟩
set_option maxRecDepth 20000 in
set_option maxHeartbeats 1000000 in
theorem core_dated_1_ok {a0 : Int} {w : World} {res : Bool} (F : core_dated_1 a0 = some res) : Calls Try.prog 86 #[.int .i64 a0] w (Rt w (.bool res)) := by
  refine calls_of_cw (args := [.int .i64 a0]) Try.func86 rfl rfl rfl rfl ?_
  have H := Hp.start w
  have R0 := H.ext
  unfold core_dated_1 at F
  refine CW.seq fun K1 hK1 => ?_
  refine CW.region ?_
  refine LW.pure rfl rfl (RV.assign rfl) ?_
  refine LW.nil (hK1 _ _ ?_)
  refine CW.seq fun K2 hK2 => ?_
  obtain ⟨r1, hr1, F⟩ := bnd_some F
  refine CW.region ?_
  refine LW.pure rfl rfl (RV.move rfl) ?_
  refine LW.go rfl rfl (OW.call Tc70 rfl (core_within_ok (a0 := a0) (a1 := (-1000000 : Int)) (a2 := (1000000 : Int)) hr1) ?_)
  rintro _ w1 ⟨rfl, E1⟩
  refine ⟨_, rfl, ?_⟩
  replace H := H.grow E1
  replace R0 := H.ext
  refine LW.pure rfl rfl (RV.not rfl) ?_
  refine LW.pure rfl rfl (RV.assign rfl) ?_
  refine LW.nil (hK2 _ _ ?_)
  refine CW.ret ?_
  obtain rfl := Option.some.inj F
  refine ⟨_, (ResOK.one rfl), ?_⟩
  refine ⟨(by first | rfl | simp), R0⟩
set_option maxRecDepth 20000 in
set_option maxHeartbeats 1000000 in
theorem core_dated_ok {a0 : Core} {a1 : List Int} {A_a0_bounds : Option Addr} {c_a0_bounds : Nat} {A_a1 : Option Addr} {c_a1 : Nat} {w : World} {res : Int} (h_a0_bounds : Sl w A_a0_bounds c_a0_bounds 3 (a0.bounds.map encBound)) (h_a1 : Sl w A_a1 c_a1 1 (a1.map encN)) (F : core_dated a0 a1 = some res) : Calls Try.prog 67 #[.agg #[.int .i64 a0.layers, .slice A_a0_bounds a0.bounds.length c_a0_bounds], .slice A_a1 a1.length c_a1] w (Rt w (.int .i64 res)) := by
  refine calls_of_cw (args := [.agg #[.int .i64 a0.layers, .slice A_a0_bounds a0.bounds.length c_a0_bounds], .slice A_a1 a1.length c_a1]) Try.func67 rfl rfl rfl rfl ?_
  have H := Hp.start w
  have R0 := H.ext
  unfold core_dated at F
  refine CW.seq fun K1 hK1 => ?_
  refine CW.region ?_
  refine LW.go rfl rfl (OW.box rfl fun b1 w1 N1 => ?_)
  replace H := H.new N1 N1.blk
  replace R0 := H.ext
  refine LW.pure rfl rfl (RV.assign rfl) ?_
  refine LW.nil (hK1 _ _ ?_)
  refine CW.seq fun K2 hK2 => ?_
  refine CW.seq fun K3 hK3 => ?_
  obtain ⟨r1, hr1, F⟩ := bnd_some F
  refine CW.region ?_
  refine LW.pure rfl rfl (RV.loadA [.int .i64 a0.layers, .slice A_a0_bounds a0.bounds.length c_a0_bounds] Tk24 rfl (H.blk 0 rfl).cells rfl rfl) ?_
  refine LW.go rfl rfl (OW.call Tc36 rfl (core_Validate_ok (a0 := a0) (h_a0_bounds.ext R0) hr1) ?_)
  rintro _ w2 ⟨rfl, E1⟩
  refine ⟨_, rfl, ?_⟩
  replace H := H.grow E1
  replace R0 := H.ext
  refine LW.pure rfl rfl (RV.assign rfl) ?_
  refine LW.nil (hK3 _ _ ?_)
  refine CW.seq fun K4 hK4 => ?_
  refine CW.region ?_
  refine LW.pure rfl rfl (RV.move rfl) ?_
  refine LW.pure rfl rfl (RV.nei rfl rfl) ?_
  refine LW.nil (hK4 _ _ ?_)
  by_cases hp1 : r1 = 0
  ·
    replace F := ite_y hp1 F
    have hq1 := dec_t hp1
    refine CW.condF rfl (not_f hq1) ?_
    refine CW.skip (hK2 _ _ ?_)
    refine CW.seq fun K5 hK5 => ?_
    refine CW.seqJ (fun ρ wl1 => (∃ (t19_1 : Bool), core_dated_k1 t19_1 = some res ∧ ρ = [(4, .int .i64 0), (19, .bool t19_1)] ∧ Hp w wl1 [])) ?_ ?_
    ·
      rintro _ wl1 ⟨t19_1, F, rfl, H⟩
      have R0 := H.ext
      unfold core_dated_k1 at F
      by_cases hp2 : t19_1 = true
      ·
        replace F := ite_y hp2 F
        have hq2 : t19_1 = true := hp2
        refine CW.condT rfl hq2 ?_
        refine CW.seq fun K6 hK6 => ?_
        refine CW.region ?_
        refine LW.pure rfl rfl (RV.assign rfl) ?_
        refine LW.nil (hK6 _ _ ?_)
        refine CW.ret ?_
        obtain rfl := Option.some.inj F
        refine ⟨_, (ResOK.one rfl), ?_⟩
        refine ⟨(by first | rfl | simp), R0⟩
      ·
        replace F := ite_n hp2 F
        have hq2 : t19_1 = false := raw_f hp2
        refine CW.condF rfl hq2 ?_
        refine CW.skip (hK5 _ _ ?_)
        refine CW.seq fun K7 hK7 => ?_
        refine CW.region ?_
        refine LW.pure rfl rfl (RV.assign rfl) ?_
        refine LW.nil (hK7 _ _ ?_)
        refine CW.ret ?_
        obtain rfl := Option.some.inj F
        refine ⟨_, (ResOK.one rfl), ?_⟩
        refine ⟨(by first | rfl | simp), R0⟩
    ·
      intro K8 hK8 jK17
      by_cases hp3 : ((a1.length : Int)) = a0.layers
      ·
        replace F := ite_y hp3 F
        have hq3 := dec_t hp3
        obtain ⟨r2, hr2, F⟩ := bnd_some F
        refine CW.region ?_
        refine LW.pure rfl rfl (RV.move rfl) ?_
        refine LW.pure rfl rfl (RV.len Ts43 rfl) ?_
        refine LW.pure rfl rfl (RV.fieldAddr Tf24_0 rfl) ?_
        refine LW.pure rfl rfl (RV.load1 Tk3 rfl ((H.blk 0 rfl).cells.off 0) rfl) ?_
        refine LW.pure rfl rfl (RV.nei rfl rfl) ?_
        refine LW.pure rfl rfl (RV.move rfl) ?_
        refine LW.pureYB rfl rfl rfl rfl (not_f hq3) (RV.move rfl) ?_
        refine LW.yesB rfl rfl rfl rfl (not_f hq3) (OW.call Tc85 rfl (slices_ContainsFunc_int_ok (a0 := a1) (a1 := core_dated_1) (h_a1.ext R0) (fun x0 r hF w3 hE => CallsV.of Tc86 (core_dated_1_ok hF)) hr2) ?_)
        rintro _ w4 ⟨rfl, E2⟩
        refine ⟨_, rfl, ?_⟩
        replace H := H.grow E2
        replace R0 := H.ext
        refine LW.pure rfl rfl (RV.pickFB rfl (not_f hq3) rfl) ?_
        replace H := H.pick (L' := []) [] (by decide) rfl
        replace R0 := H.ext
        refine LW.nil (jK17 _ _ ⟨_, ?_, ⟨r2, F, rfl, H⟩⟩)
        exact ⟨rfl, rfl, trivial⟩
      ·
        replace F := ite_n hp3 F
        have hq3 := dec_f hp3
        refine CW.region ?_
        refine LW.pure rfl rfl (RV.move rfl) ?_
        refine LW.pure rfl rfl (RV.len Ts43 rfl) ?_
        refine LW.pure rfl rfl (RV.fieldAddr Tf24_0 rfl) ?_
        refine LW.pure rfl rfl (RV.load1 Tk3 rfl ((H.blk 0 rfl).cells.off 0) rfl) ?_
        refine LW.pure rfl rfl (RV.nei rfl rfl) ?_
        refine LW.pure rfl rfl (RV.move rfl) ?_
        refine LW.noB rfl rfl rfl rfl (ne_beq (v := true) (not_t hq3) rfl) ?_
        refine LW.noB rfl rfl rfl rfl (ne_beq (v := true) (not_t hq3) rfl) ?_
        refine LW.pure rfl rfl (RV.pickTB rfl (not_t hq3) rfl) ?_
        replace H := H.pick (L' := []) [] (by decide) rfl
        replace R0 := H.ext
        refine LW.nil (jK17 _ _ ⟨_, ?_, ⟨true, F, rfl, H⟩⟩)
        exact ⟨rfl, rfl, trivial⟩
  ·
    replace F := ite_n hp1 F
    have hq1 := dec_f hp1
    refine CW.condT rfl (not_t hq1) ?_
    refine CW.seq fun K9 hK9 => ?_
    refine CW.region ?_
    refine LW.pure rfl rfl (RV.move rfl) ?_
    refine LW.pure rfl rfl (RV.assign rfl) ?_
    refine LW.nil (hK9 _ _ ?_)
    refine CW.ret ?_
    obtain rfl := Option.some.inj F
    refine ⟨_, (ResOK.one rfl), ?_⟩
    refine ⟨(by first | rfl | simp), R0⟩
set_option maxRecDepth 20000 in
set_option maxHeartbeats 1000000 in
theorem core_CheckDates_ok {a0 : Core} {a1 : List Int} {A_a0_bounds : Option Addr} {c_a0_bounds : Nat} {A_a1 : Option Addr} {c_a1 : Nat} {w : World} {res : Int} (h_a0_bounds : Sl w A_a0_bounds c_a0_bounds 3 (a0.bounds.map encBound)) (h_a1 : Sl w A_a1 c_a1 1 (a1.map encN)) (F : core_CheckDates a0 a1 = some res) : Calls Try.prog 33 #[.agg #[.int .i64 a0.layers, .slice A_a0_bounds a0.bounds.length c_a0_bounds], .slice A_a1 a1.length c_a1] w (Rt w (.int .i64 res)) := by
  refine calls_of_cw (args := [.agg #[.int .i64 a0.layers, .slice A_a0_bounds a0.bounds.length c_a0_bounds], .slice A_a1 a1.length c_a1]) Try.func33 rfl rfl rfl rfl ?_
  have H := Hp.start w
  have R0 := H.ext
  unfold core_CheckDates at F
  refine CW.seq fun K1 hK1 => ?_
  refine CW.region ?_
  refine LW.go rfl rfl (OW.box rfl fun b1 w1 N1 => ?_)
  replace H := H.new N1 N1.blk
  replace R0 := H.ext
  refine LW.pure rfl rfl (RV.assign rfl) ?_
  refine LW.nil (hK1 _ _ ?_)
  refine CW.seq fun K2 hK2 => ?_
  refine CW.seq fun K3 hK3 => ?_
  obtain ⟨r1, hr1, F⟩ := bnd_some F
  refine CW.region ?_
  refine LW.pure rfl rfl (RV.loadA [.int .i64 a0.layers, .slice A_a0_bounds a0.bounds.length c_a0_bounds] Tk24 rfl (H.blk 0 rfl).cells rfl rfl) ?_
  refine LW.pure rfl rfl (RV.move rfl) ?_
  refine LW.go rfl rfl (OW.call Tc67 rfl (core_dated_ok (a0 := a0) (a1 := a1) (h_a0_bounds.ext R0) (h_a1.ext R0) hr1) ?_)
  rintro _ w2 ⟨rfl, E1⟩
  refine ⟨_, rfl, ?_⟩
  replace H := H.grow E1
  replace R0 := H.ext
  refine LW.pure rfl rfl (RV.assign rfl) ?_
  refine LW.nil (hK3 _ _ ?_)
  refine CW.seq fun K4 hK4 => ?_
  refine CW.region ?_
  refine LW.pure rfl rfl (RV.move rfl) ?_
  refine LW.pure rfl rfl (RV.nei rfl rfl) ?_
  refine LW.nil (hK4 _ _ ?_)
  by_cases hp1 : r1 = 0
  ·
    replace F := ite_y hp1 F
    have hq1 := dec_t hp1
    refine CW.condF rfl (not_f hq1) ?_
    refine CW.skip (hK2 _ _ ?_)
    refine CW.seqJ (fun ρ wl1 => (core_CheckDates_k1 = some res ∧ ρ = [(4, .int .i64 0)] ∧ Hp w wl1 [])) ?_ ?_
    ·
      rintro _ wl1 ⟨F, rfl, H⟩
      have R0 := H.ext
      unfold core_CheckDates_k1 at F
      refine CW.seq fun K5 hK5 => ?_
      refine CW.region ?_
      refine LW.pure rfl rfl (RV.assign rfl) ?_
      refine LW.nil (hK5 _ _ ?_)
      refine CW.ret ?_
      obtain rfl := Option.some.inj F
      refine ⟨_, (ResOK.one rfl), ?_⟩
      refine ⟨(by first | rfl | simp), R0⟩
    ·
      intro K6 hK6 jK70
      refine CW.seq fun K7 hK7 => ?_
      refine CW.region ?_
      refine LW.pure rfl rfl (RV.fieldAddr Tf24_1 rfl) ?_
      refine LW.pure rfl rfl (RV.load1 Tk22 rfl ((H.blk 0 rfl).cells.off 1) rfl) ?_
      refine LW.pure rfl rfl (RV.len Ts22 rfl) ?_
      refine LW.pure rfl rfl (RV.move rfl) ?_
      refine LW.nil (hK7 _ _ ?_)
      refine CW.block ?_
      replace H := H.pick (L' := []) [] (by decide) rfl
      replace R0 := H.ext
      refine CW.loop (fun meas ρ wl2 => ∃ (t17_1 : Int), core_CheckDates_L1 a0 a1 meas t17_1 = some res ∧ ρ = [(1, .slice A_a1 a1.length c_a1), (4, .int .i64 0), (15, .slice A_a0_bounds a0.bounds.length c_a0_bounds), (16, .int .i64 ((a0.bounds.length : Int))), (17, .int .i64 t17_1)] ∧ Hp w wl2 []) FU ⟨_, ?_, ((0 : Int)), F, rfl, H⟩ ?_
      · exact ⟨rfl, rfl, rfl, rfl, rfl, trivial⟩
      rintro mk1 _ wl2 ⟨t17_1, F, rfl, H⟩
      have R0 := H.ext
      replace F := core_CheckDates_L1_s F
      obtain ⟨mk1, rfl, F⟩ := F
      generalize hrec1 : core_CheckDates_L1 a0 a1 mk1 = rec1 at F
      unfold core_CheckDates_B1 at F
      refine CW.seq fun K8 hK8 => ?_
      refine CW.region ?_
      refine LW.pure rfl rfl (RV.lss rfl rfl) ?_
      refine LW.nil (hK8 _ _ ?_)
      refine CW.seq fun K9 hK9 => ?_
      by_cases hp2 : t17_1 < ((a0.bounds.length : Int))
      ·
        replace F := ite_y hp2 F
        have hq2 := dec_t hp2
        refine CW.condT rfl hq2 ?_
        refine CW.skip (hK9 _ _ ?_)
        refine CW.seq fun K10 hK10 => ?_
        refine CW.block ?_
        refine CW.seq fun K11 hK11 => ?_
        obtain ⟨x1, hbx1, hx1, F⟩ := ix_some F
        refine CW.region ?_
        refine LW.pure rfl rfl (RV.indexAddr Ts22 rfl rfl hbx1 (h_a0_bounds.addr_ hx1)) ?_
        refine LW.pure rfl rfl (RV.loadA [.int .i64 x1.a, .int .i64 x1.b, .int .i64 x1.most] Tk26 rfl ((h_a0_bounds.at_ hx1).ext R0) rfl rfl) ?_
        refine LW.go rfl rfl (OW.alloc Tz26 fun b2 w3 N2 => ?_)
        replace H := H.new N2 N2.blk
        replace R0 := H.ext
        refine LW.go rfl rfl (OW.store Tk26 rfl rfl (H.blk 0 rfl) (off := 0) (vs := [.int .i64 x1.a, .int .i64 x1.b, .int .i64 x1.most]) rfl rfl rfl rfl rfl fun w4 S1 => ?_)
        replace H : Hp w w4 [.blk b2 26 [.int .i64 x1.a, .int .i64 x1.b, .int .i64 x1.most]] := H.stored 0 rfl S1
        replace R0 := H.ext
        refine LW.nil (hK11 _ _ ?_)
        refine CW.seq fun K12 hK12 => ?_
        obtain ⟨x2, hbx2, hx2, F⟩ := ix_some F
        obtain ⟨x3, hbx3, hx3, F⟩ := ix_some F
        obtain ⟨hg1, F⟩ := gd_some F
        refine CW.draw [] (fun _ => True) (.cons 0 1 (.cons 1 1 (.cons 2 1 (.cons 3 1 (.cons 4 1 (.cons 5 1 (.cons 6 1 (.cons 7 1 (.cons 8 1 (.cons 9 1 (.cons 10 1 (.cons 11 1 (.cons 12 1 (.cons 13 1 .nil)))))))))))))) mixed (by kernel_rfl) fun w5 E2 => ?_
        replace H := H.grow E2
        replace R0 := H.ext
        refine DW.fix rfl rfl rfl (fun _ EQ => RV.move rfl) ?_
        refine DW.fix rfl rfl rfl (fun _ EQ => RV.fieldAddr Tf26_1 rfl) ?_
        refine DW.fix rfl rfl rfl (fun _ EQ => RV.load1 Tk3 rfl (((H.grow EQ).blk 0 rfl).cells.off 1) rfl) ?_
        refine DW.fix rfl rfl rfl (fun _ EQ => RV.indexAddr Ts43 rfl rfl hbx2 (h_a1.addr_ hx2)) ?_
        refine DW.fix rfl rfl rfl (fun _ EQ => RV.load1 Tk3 rfl ((h_a1.at_ hx2).ext (R0.trans EQ)) rfl) ?_
        refine DW.fix rfl rfl rfl (fun _ EQ => RV.move rfl) ?_
        refine DW.fix rfl rfl rfl (fun _ EQ => RV.fieldAddr Tf26_0 rfl) ?_
        refine DW.fix rfl rfl rfl (fun _ EQ => RV.load1 Tk3 rfl (((H.grow EQ).blk 0 rfl).cells.off 0) rfl) ?_
        refine DW.fix rfl rfl rfl (fun _ EQ => RV.indexAddr Ts43 rfl rfl hbx3 (h_a1.addr_ hx3)) ?_
        refine DW.fix rfl rfl rfl (fun _ EQ => RV.load1 Tk3 rfl ((h_a1.at_ hx3).ext (R0.trans EQ)) rfl) ?_
        refine DW.fix rfl rfl rfl (fun _ EQ => RV.sub rfl rfl hg1) ?_
        refine DW.fix rfl rfl rfl (fun _ EQ => RV.fieldAddr Tf26_2 rfl) ?_
        refine DW.fix rfl rfl rfl (fun _ EQ => RV.load1 Tk3 rfl (((H.grow EQ).blk 0 rfl).cells.off 2) rfl) ?_
        refine DW.fix rfl rfl rfl (fun _ EQ => RV.gtr rfl rfl) ?_
        refine DW.nil (hK12 _ _ ?_)
        by_cases hp3 : x1.most < (x2 - x3)
        ·
          replace F := ite_y hp3 F
          have hq3 := dec_t hp3
          refine CW.condT rfl hq3 ?_
          refine CW.seq fun K13 hK13 => ?_
          refine CW.region ?_
          refine LW.pure rfl rfl (RV.assign rfl) ?_
          refine LW.nil (hK13 _ _ ?_)
          refine CW.ret ?_
          obtain rfl := Option.some.inj F
          refine ⟨_, (ResOK.one rfl), ?_⟩
          refine ⟨(by first | rfl | simp), R0⟩
        ·
          replace F := ite_n hp3 F
          have hq3 := dec_f hp3
          refine CW.condF rfl hq3 ?_
          refine CW.skip (hK10 _ _ ?_)
          obtain ⟨hg2, F⟩ := gd_some F
          refine CW.region ?_
          refine LW.pure rfl rfl (RV.add rfl rfl hg2) ?_
          refine LW.pure rfl rfl (RV.move rfl) ?_
          refine LW.nil ?_
          replace H := H.pick (L' := []) [] (by decide) rfl
          replace R0 := H.ext
          subst hrec1
          refine ⟨mk1, Nat.lt_succ_self _, _, ?_, (t17_1 + 1), F, rfl, H⟩
          exact ⟨rfl, rfl, rfl, rfl, rfl, trivial⟩
      ·
        replace F := ite_n hp2 F
        have hq2 := dec_f hp2
        refine CW.condF rfl hq2 ?_
        refine CW.exit (jK70 _ _ ⟨_, ?_, ⟨F, rfl, H⟩⟩)
        exact ⟨rfl, trivial⟩
  ·
    replace F := ite_n hp1 F
    have hq1 := dec_f hp1
    refine CW.condT rfl (not_t hq1) ?_
    refine CW.seq fun K14 hK14 => ?_
    refine CW.region ?_
    refine LW.pure rfl rfl (RV.move rfl) ?_
    refine LW.pure rfl rfl (RV.assign rfl) ?_
    refine LW.nil (hK14 _ _ ?_)
    refine CW.ret ?_
    obtain rfl := Option.some.inj F
    refine ⟨_, (ResOK.one rfl), ?_⟩
    refine ⟨(by first | rfl | simp), R0⟩
end Go.D3

set_option linter.unusedVariables false
namespace Go.D3
open Go.Tb Go.Core
def core_Dates (a0 : Core) : Option ((List Int) × Bool × Int) :=
  bnd (core_Validate a0) fun r1 =>
  if r1 = 0 then
    bnd (core_relax a0) fun r2 =>
    if (0 : Int) ≤ r2.2.2 then
      some (([] : List Int), false, (0 : Int))
    else
      some (r2.1, true, (0 : Int))
  else
    some (([] : List Int), false, r1)
def core_CheckClash_k1 (t8_1 : Int) : Option Int :=
  if (0 : Int) ≤ t8_1 then
    some ((7 : Int))
  else
    some ((0 : Int))
def core_CheckClash_B1 (a0 : Core) (a1 : List Int) (rec1 : Int → Int → Option Int) (t8_2 : Int) (t36_1 : Int) : Option Int :=
  if t36_1 < ((a1.length : Int)) then
    ix a1 t36_1 fun x1 =>
    gd (InR (t36_1 + 1)) <|
    gd ((a1.length : Int) ≠ 0 ∧ InR (Int.tmod (t36_1 + 1) ((a1.length : Int)))) <|
    ix a1 (Int.tmod (t36_1 + 1) ((a1.length : Int))) fun x2 =>
    ix a0.bounds x2 fun x3 =>
    ix a0.bounds x1 fun x4 =>
    if x4.b = x3.a then
      ix a0.bounds x1 fun x5 =>
      gd (InR (t8_2 + x5.most)) <|
      gd (InR (t36_1 + 1)) <|
      rec1 ((t8_2 + x5.most)) ((t36_1 + 1))
    else
      some ((7 : Int))
  else
    core_CheckClash_k1 t8_2
def core_CheckClash_L1 (a0 : Core) (a1 : List Int) : Nat → Int → Int → Option Int
  | 0, _, _ => none
  | n_ + 1, t8_2, t36_1 => core_CheckClash_B1 a0 a1 (core_CheckClash_L1 a0 a1 n_) t8_2 t36_1
theorem core_CheckClash_L1_s {a0 : Core} {a1 : List Int} {m_ : Nat} {t8_2 : Int} {t36_1 : Int} {res : Int} (h : core_CheckClash_L1 a0 a1 m_ t8_2 t36_1 = some res) : ∃ k, m_ = k + 1 ∧ core_CheckClash_B1 a0 a1 (core_CheckClash_L1 a0 a1 k) t8_2 t36_1 = some res := by
  cases m_ with
  | zero => cases h
  | succ k => exact ⟨k, rfl, h⟩
def core_CheckClash_k2 (a0 : Core) (a1 : List Int) : Option Int :=
  core_CheckClash_L1 a0 a1 FU (((0 : Int))) (((0 : Int)))
def core_CheckClash_B2 (a0 : Core) (a1 : List Int) (rec2 : Int → Option Int) (t22_1 : Int) : Option Int :=
  if t22_1 < ((a1.length : Int)) then
    ix a1 t22_1 fun x6 =>
    gd (InR (((a0.bounds.length : Int)) - 1)) <|
    bnd (core_within x6 ((0 : Int)) (((a0.bounds.length : Int)) - 1)) fun r1 =>
    if r1 = true then
      gd (InR (t22_1 + 1)) <|
      rec2 ((t22_1 + 1))
    else
      some ((4 : Int))
  else
    core_CheckClash_k2 a0 a1
def core_CheckClash_L2 (a0 : Core) (a1 : List Int) : Nat → Int → Option Int
  | 0, _ => none
  | n_ + 1, t22_1 => core_CheckClash_B2 a0 a1 (core_CheckClash_L2 a0 a1 n_) t22_1
theorem core_CheckClash_L2_s {a0 : Core} {a1 : List Int} {m_ : Nat} {t22_1 : Int} {res : Int} (h : core_CheckClash_L2 a0 a1 m_ t22_1 = some res) : ∃ k, m_ = k + 1 ∧ core_CheckClash_B2 a0 a1 (core_CheckClash_L2 a0 a1 k) t22_1 = some res := by
  cases m_ with
  | zero => cases h
  | succ k => exact ⟨k, rfl, h⟩
def core_CheckClash (a0 : Core) (a1 : List Int) : Option Int :=
  bnd (core_Validate a0) fun r2 =>
  if r2 = 0 then
    if (20 : Int) < ((a1.length : Int)) then
      some ((3 : Int))
    else
      core_CheckClash_L2 a0 a1 FU (((0 : Int)))
  else
    some r2
end Go.D3

set_option linter.unusedVariables false
set_option linter.unusedSimpArgs false
namespace Go.D3
open Go.Tb Go.Proofs Go.RowKit Go.Core
theorem Tb4 : Try.prog.underlying 4 = some .bool := by kernel_rfl
theorem Tc17 : callable Try.prog 17 = true := by kernel_rfl
theorem Tc33 : callable Try.prog 33 = true := by kernel_rfl
theorem Tc34 : callable Try.prog 34 = true := by kernel_rfl
theorem Tc39 : callable Try.prog 39 = true := by kernel_rfl
set_option maxRecDepth 20000 in
set_option maxHeartbeats 1000000 in
theorem core_Dates_ok {a0 : Core} {A_a0_bounds : Option Addr} {c_a0_bounds : Nat} {w : World} {res : (List Int) × Bool × Int} (h_a0_bounds : Sl w A_a0_bounds c_a0_bounds 3 (a0.bounds.map encBound)) (F : core_Dates a0 = some res) : Calls Try.prog 39 #[.agg #[.int .i64 a0.layers, .slice A_a0_bounds a0.bounds.length c_a0_bounds]] w (fun e w' => ∃ (A0 : Option Addr) (c0 : Nat), e = .returned (.tuple #[.slice A0 res.1.length c0, .bool res.2.1, .int .i64 res.2.2]) ∧ Hp w w' [.own A0 c0 3 1 (List.map encN res.1)]) := by
  refine calls_of_cw (args := [.agg #[.int .i64 a0.layers, .slice A_a0_bounds a0.bounds.length c_a0_bounds]]) Try.func39 rfl rfl rfl rfl ?_
  have H := Hp.start w
  have R0 := H.ext
  unfold core_Dates at F
  refine CW.seq fun K1 hK1 => ?_
  refine CW.region ?_
  refine LW.go rfl rfl (OW.box rfl fun b1 w1 N1 => ?_)
  replace H := H.new N1 N1.blk
  replace R0 := H.ext
  refine LW.pure rfl rfl (RV.assign rfl) ?_
  refine LW.pure rfl rfl (RV.assign rfl) ?_
  refine LW.pure rfl rfl (RV.assign rfl) ?_
  refine LW.nil (hK1 _ _ ?_)
  refine CW.seq fun K2 hK2 => ?_
  refine CW.seq fun K3 hK3 => ?_
  obtain ⟨r1, hr1, F⟩ := bnd_some F
  refine CW.region ?_
  refine LW.pure rfl rfl (RV.loadA [.int .i64 a0.layers, .slice A_a0_bounds a0.bounds.length c_a0_bounds] Tk24 rfl (H.blk 0 rfl).cells rfl rfl) ?_
  refine LW.go rfl rfl (OW.call Tc36 rfl (core_Validate_ok (a0 := a0) (h_a0_bounds.ext R0) hr1) ?_)
  rintro _ w2 ⟨rfl, E1⟩
  refine ⟨_, rfl, ?_⟩
  replace H := H.grow E1
  replace R0 := H.ext
  refine LW.pure rfl rfl (RV.assign rfl) ?_
  refine LW.nil (hK3 _ _ ?_)
  refine CW.seq fun K4 hK4 => ?_
  refine CW.region ?_
  refine LW.pure rfl rfl (RV.move rfl) ?_
  refine LW.pure rfl rfl (RV.nei rfl rfl) ?_
  refine LW.nil (hK4 _ _ ?_)
  by_cases hp1 : r1 = 0
  ·
    replace F := ite_y hp1 F
    have hq1 := dec_t hp1
    refine CW.condF rfl (not_f hq1) ?_
    refine CW.skip (hK2 _ _ ?_)
    refine CW.seq fun K5 hK5 => ?_
    obtain ⟨r2, hr2, F⟩ := bnd_some F
    refine CW.region ?_
    refine LW.pure rfl rfl (RV.loadA [.int .i64 a0.layers, .slice A_a0_bounds a0.bounds.length c_a0_bounds] Tk24 rfl (H.blk 0 rfl).cells rfl rfl) ?_
    refine LW.go rfl rfl (OW.call Tc72 rfl (core_relax_ok (a0 := a0) (h_a0_bounds.ext R0) hr2) ?_)
    rintro _ w3 ⟨A6_0, c6_0, A6_1, c6_1, rfl, E2⟩
    refine ⟨_, rfl, ?_⟩
    replace H : Hp w w3 [.own A6_0 c6_0 3 1 (List.map encN r2.1), .own A6_1 c6_1 3 1 (List.map encN r2.2.1), .blk b1 24 [.int .i64 a0.layers, .slice A_a0_bounds a0.bounds.length c_a0_bounds]] := H.append E2
    replace R0 := H.ext
    refine LW.pure rfl rfl (RV.move rfl) ?_
    refine LW.pure rfl rfl (RV.extract rfl rfl) ?_
    refine LW.pure rfl rfl (RV.extract rfl rfl) ?_
    refine LW.pure rfl rfl (RV.extract rfl rfl) ?_
    refine LW.pure rfl rfl (RV.assign rfl) ?_
    refine LW.pure rfl rfl (RV.assign rfl) ?_
    refine LW.pure rfl rfl (RV.assign rfl) ?_
    refine LW.nil (hK5 _ _ ?_)
    refine CW.seq fun K6 hK6 => ?_
    refine CW.seq fun K7 hK7 => ?_
    refine CW.region ?_
    refine LW.pure rfl rfl (RV.move rfl) ?_
    refine LW.pure rfl rfl (RV.geq rfl rfl) ?_
    refine LW.nil (hK7 _ _ ?_)
    by_cases hp2 : (0 : Int) ≤ r2.2.2
    ·
      replace F := ite_y hp2 F
      have hq2 := dec_t hp2
      refine CW.condT rfl hq2 ?_
      refine CW.seq fun K8 hK8 => ?_
      refine CW.region ?_
      refine LW.pure rfl rfl (RV.assign rfl) ?_
      refine LW.pure rfl rfl (RV.assign rfl) ?_
      refine LW.pure rfl rfl (RV.assign rfl) ?_
      refine LW.nil (hK8 _ _ ?_)
      refine CW.ret ?_
      obtain rfl := Option.some.inj F
      refine ⟨_, (ResOK.three rfl rfl rfl), ?_⟩
      replace H := H.nilOwn 3 1
      replace R0 := H.ext
      replace H := H.pick (L' := [.own none 0 3 1 (List.map encN (([] : List Int)))]) [0] (by decide) rfl
      replace R0 := H.ext
      exact ⟨none, 0, (by first | rfl | (simp; done) | (simp; omega)), H⟩
    ·
      replace F := ite_n hp2 F
      have hq2 := dec_f hp2
      refine CW.condF rfl hq2 ?_
      refine CW.skip (hK6 _ _ ?_)
      refine CW.seq fun K9 hK9 => ?_
      refine CW.region ?_
      refine LW.pure rfl rfl (RV.move rfl) ?_
      refine LW.pure rfl rfl (RV.assign rfl) ?_
      refine LW.pure rfl rfl (RV.assign rfl) ?_
      refine LW.pure rfl rfl (RV.assign rfl) ?_
      refine LW.nil (hK9 _ _ ?_)
      refine CW.ret ?_
      obtain rfl := Option.some.inj F
      refine ⟨_, (ResOK.three rfl rfl rfl), ?_⟩
      replace H := H.pick (L' := [.own A6_0 c6_0 3 1 (List.map encN r2.1)]) [0] (by decide) rfl
      replace R0 := H.ext
      exact ⟨A6_0, c6_0, (by first | rfl | (simp; done) | (simp; omega)), H⟩
  ·
    replace F := ite_n hp1 F
    have hq1 := dec_f hp1
    refine CW.condT rfl (not_t hq1) ?_
    refine CW.seq fun K10 hK10 => ?_
    refine CW.region ?_
    refine LW.pure rfl rfl (RV.move rfl) ?_
    refine LW.pure rfl rfl (RV.assign rfl) ?_
    refine LW.pure rfl rfl (RV.assign rfl) ?_
    refine LW.pure rfl rfl (RV.assign rfl) ?_
    refine LW.nil (hK10 _ _ ?_)
    refine CW.ret ?_
    obtain rfl := Option.some.inj F
    refine ⟨_, (ResOK.three rfl rfl rfl), ?_⟩
    replace H := H.nilOwn 3 1
    replace R0 := H.ext
    replace H := H.pick (L' := [.own none 0 3 1 (List.map encN (([] : List Int)))]) [0] (by decide) rfl
    replace R0 := H.ext
    exact ⟨none, 0, (by first | rfl | (simp; done) | (simp; omega)), H⟩
set_option maxRecDepth 20000 in
set_option maxHeartbeats 1000000 in
theorem core_CheckClash_ok {a0 : Core} {a1 : List Int} {A_a0_bounds : Option Addr} {c_a0_bounds : Nat} {A_a1 : Option Addr} {c_a1 : Nat} {w : World} {res : Int} (h_a0_bounds : Sl w A_a0_bounds c_a0_bounds 3 (a0.bounds.map encBound)) (h_a1 : Sl w A_a1 c_a1 1 (a1.map encN)) (F : core_CheckClash a0 a1 = some res) : Calls Try.prog 40 #[.agg #[.int .i64 a0.layers, .slice A_a0_bounds a0.bounds.length c_a0_bounds], .slice A_a1 a1.length c_a1] w (Rt w (.int .i64 res)) := by
  refine calls_of_cw (args := [.agg #[.int .i64 a0.layers, .slice A_a0_bounds a0.bounds.length c_a0_bounds], .slice A_a1 a1.length c_a1]) Try.func40 rfl rfl rfl rfl ?_
  have H := Hp.start w
  have R0 := H.ext
  unfold core_CheckClash at F
  refine CW.seq fun K1 hK1 => ?_
  refine CW.region ?_
  refine LW.go rfl rfl (OW.box rfl fun b1 w1 N1 => ?_)
  replace H := H.new N1 N1.blk
  replace R0 := H.ext
  refine LW.pure rfl rfl (RV.assign rfl) ?_
  refine LW.nil (hK1 _ _ ?_)
  refine CW.seq fun K2 hK2 => ?_
  refine CW.seq fun K3 hK3 => ?_
  obtain ⟨r2, hr2, F⟩ := bnd_some F
  refine CW.region ?_
  refine LW.pure rfl rfl (RV.loadA [.int .i64 a0.layers, .slice A_a0_bounds a0.bounds.length c_a0_bounds] Tk24 rfl (H.blk 0 rfl).cells rfl rfl) ?_
  refine LW.go rfl rfl (OW.call Tc36 rfl (core_Validate_ok (a0 := a0) (h_a0_bounds.ext R0) hr2) ?_)
  rintro _ w2 ⟨rfl, E1⟩
  refine ⟨_, rfl, ?_⟩
  replace H := H.grow E1
  replace R0 := H.ext
  refine LW.pure rfl rfl (RV.assign rfl) ?_
  refine LW.nil (hK3 _ _ ?_)
  refine CW.seq fun K4 hK4 => ?_
  refine CW.region ?_
  refine LW.pure rfl rfl (RV.move rfl) ?_
  refine LW.pure rfl rfl (RV.nei rfl rfl) ?_
  refine LW.nil (hK4 _ _ ?_)
  by_cases hp1 : r2 = 0
  ·
    replace F := ite_y hp1 F
    have hq1 := dec_t hp1
    refine CW.condF rfl (not_f hq1) ?_
    refine CW.skip (hK2 _ _ ?_)
    refine CW.seq fun K5 hK5 => ?_
    refine CW.seq fun K6 hK6 => ?_
    refine CW.region ?_
    refine LW.pure rfl rfl (RV.move rfl) ?_
    refine LW.pure rfl rfl (RV.len Ts43 rfl) ?_
    refine LW.pure rfl rfl (RV.gtr rfl rfl) ?_
    refine LW.nil (hK6 _ _ ?_)
    by_cases hp2 : (20 : Int) < ((a1.length : Int))
    ·
      replace F := ite_y hp2 F
      have hq2 := dec_t hp2
      refine CW.condT rfl hq2 ?_
      refine CW.seq fun K7 hK7 => ?_
      refine CW.region ?_
      refine LW.pure rfl rfl (RV.assign rfl) ?_
      refine LW.nil (hK7 _ _ ?_)
      refine CW.ret ?_
      obtain rfl := Option.some.inj F
      refine ⟨_, (ResOK.one rfl), ?_⟩
      refine ⟨(by first | rfl | simp), R0⟩
    ·
      replace F := ite_n hp2 F
      have hq2 := dec_f hp2
      refine CW.condF rfl hq2 ?_
      refine CW.skip (hK5 _ _ ?_)
      refine CW.seqJ (fun ρ wl1 => (core_CheckClash_k2 a0 a1 = some res ∧ ρ = [(1, .slice A_a1 a1.length c_a1), (2, .pointer (some (⟨b1, 0, none⟩))), (4, .int .i64 0)] ∧ Hp w wl1 [.blk b1 24 [.int .i64 a0.layers, .slice A_a0_bounds a0.bounds.length c_a0_bounds]])) ?_ ?_
      ·
        rintro _ wl1 ⟨F, rfl, H⟩
        have R0 := H.ext
        unfold core_CheckClash_k2 at F
        refine CW.seq fun K8 hK8 => ?_
        refine CW.region ?_
        refine LW.pure rfl rfl (RV.assign rfl) ?_
        refine LW.nil (hK8 _ _ ?_)
        refine CW.seqJ (fun ρ wl2 => (∃ (t8_1 : Int), core_CheckClash_k1 t8_1 = some res ∧ ρ = [(4, .int .i64 0), (8, .int .i64 t8_1)] ∧ Hp w wl2 [])) ?_ ?_
        ·
          rintro _ wl2 ⟨t8_1, F, rfl, H⟩
          have R0 := H.ext
          unfold core_CheckClash_k1 at F
          refine CW.seq fun K9 hK9 => ?_
          refine CW.seq fun K10 hK10 => ?_
          refine CW.region ?_
          refine LW.pure rfl rfl (RV.move rfl) ?_
          refine LW.pure rfl rfl (RV.geq rfl rfl) ?_
          refine LW.nil (hK10 _ _ ?_)
          by_cases hp3 : (0 : Int) ≤ t8_1
          ·
            replace F := ite_y hp3 F
            have hq3 := dec_t hp3
            refine CW.condT rfl hq3 ?_
            refine CW.seq fun K11 hK11 => ?_
            refine CW.region ?_
            refine LW.pure rfl rfl (RV.assign rfl) ?_
            refine LW.nil (hK11 _ _ ?_)
            refine CW.ret ?_
            obtain rfl := Option.some.inj F
            refine ⟨_, (ResOK.one rfl), ?_⟩
            refine ⟨(by first | rfl | simp), R0⟩
          ·
            replace F := ite_n hp3 F
            have hq3 := dec_f hp3
            refine CW.condF rfl hq3 ?_
            refine CW.skip (hK9 _ _ ?_)
            refine CW.seq fun K12 hK12 => ?_
            refine CW.region ?_
            refine LW.pure rfl rfl (RV.assign rfl) ?_
            refine LW.nil (hK12 _ _ ?_)
            refine CW.ret ?_
            obtain rfl := Option.some.inj F
            refine ⟨_, (ResOK.one rfl), ?_⟩
            refine ⟨(by first | rfl | simp), R0⟩
        ·
          intro K13 hK13 jK160
          refine CW.seq fun K14 hK14 => ?_
          refine CW.region ?_
          refine LW.pure rfl rfl (RV.move rfl) ?_
          refine LW.pure rfl rfl (RV.len Ts43 rfl) ?_
          refine LW.pure rfl rfl (RV.move rfl) ?_
          refine LW.nil (hK14 _ _ ?_)
          refine CW.block ?_
          refine CW.loop (fun meas ρ wl3 => ∃ (t8_2 : Int) (t36_1 : Int), core_CheckClash_L1 a0 a1 meas t8_2 t36_1 = some res ∧ ρ = [(1, .slice A_a1 a1.length c_a1), (2, .pointer (some (⟨b1, 0, none⟩))), (4, .int .i64 0), (8, .int .i64 t8_2), (34, .slice A_a1 a1.length c_a1), (35, .int .i64 ((a1.length : Int))), (36, .int .i64 t36_1)] ∧ Hp w wl3 [.blk b1 24 [.int .i64 a0.layers, .slice A_a0_bounds a0.bounds.length c_a0_bounds]]) FU ⟨_, ?_, ((0 : Int)), ((0 : Int)), F, rfl, H⟩ ?_
          · exact ⟨rfl, rfl, rfl, rfl, rfl, rfl, rfl, trivial⟩
          rintro mk1 _ wl3 ⟨t8_2, t36_1, F, rfl, H⟩
          have R0 := H.ext
          replace F := core_CheckClash_L1_s F
          obtain ⟨mk1, rfl, F⟩ := F
          generalize hrec1 : core_CheckClash_L1 a0 a1 mk1 = rec1 at F
          unfold core_CheckClash_B1 at F
          refine CW.seq fun K15 hK15 => ?_
          refine CW.region ?_
          refine LW.pure rfl rfl (RV.lss rfl rfl) ?_
          refine LW.nil (hK15 _ _ ?_)
          refine CW.seq fun K16 hK16 => ?_
          by_cases hp4 : t36_1 < ((a1.length : Int))
          ·
            replace F := ite_y hp4 F
            have hq4 := dec_t hp4
            refine CW.condT rfl hq4 ?_
            refine CW.skip (hK16 _ _ ?_)
            refine CW.seq fun K17 hK17 => ?_
            refine CW.block ?_
            refine CW.seq fun K18 hK18 => ?_
            obtain ⟨x1, hbx1, hx1, F⟩ := ix_some F
            refine CW.region ?_
            refine LW.pure rfl rfl (RV.move rfl) ?_
            refine LW.pure rfl rfl (RV.indexAddr Ts43 rfl rfl hbx1 (h_a1.addr_ hx1)) ?_
            refine LW.pure rfl rfl (RV.load1 Tk3 rfl ((h_a1.at_ hx1).ext R0) rfl) ?_
            refine LW.pure rfl rfl (RV.assign rfl) ?_
            refine LW.pure rfl rfl (RV.assign rfl) ?_
            refine LW.nil (hK18 _ _ ?_)
            refine CW.seq fun K19 hK19 => ?_
            obtain ⟨hg1, F⟩ := gd_some F
            obtain ⟨hg2, F⟩ := gd_some F
            obtain ⟨x2, hbx2, hx2, F⟩ := ix_some F
            obtain ⟨x3, hbx3, hx3, F⟩ := ix_some F
            refine CW.draw [13] (fun _ => True) (.cons 0 1 (.cons 1 1 (.cons 2 1 (.cons 3 1 (.cons 4 1 (.cons 5 1 (.cons 6 1 (.cons 7 1 (.cons 8 1 (.cons 9 1 (.cons 10 1 (.cons 11 1 (.cons 12 0 (.cons 13 0 .nil)))))))))))))) mixed (by kernel_rfl) fun w3 E2 => ?_
            replace H := H.grow E2
            replace R0 := H.ext
            refine DW.fix rfl rfl rfl (fun _ EQ => RV.fieldAddr Tf24_1 rfl) ?_
            refine DW.fix rfl rfl rfl (fun _ EQ => RV.load1 Tk22 rfl (((H.grow EQ).blk 0 rfl).cells.off 1) rfl) ?_
            refine DW.fix rfl rfl rfl (fun _ EQ => RV.move rfl) ?_
            refine DW.fix rfl rfl rfl (fun _ EQ => RV.move rfl) ?_
            refine DW.fix rfl rfl rfl (fun _ EQ => RV.add rfl rfl hg1) ?_
            refine DW.fix rfl rfl rfl (fun _ EQ => RV.move rfl) ?_
            refine DW.fix rfl rfl rfl (fun _ EQ => RV.len Ts43 rfl) ?_
            refine DW.fix rfl rfl rfl (fun _ EQ => RV.rem rfl rfl hg2) ?_
            refine DW.fix rfl rfl rfl (fun _ EQ => RV.indexAddr Ts43 rfl rfl hbx2 (h_a1.addr_ hx2)) ?_
            refine DW.fix rfl rfl rfl (fun _ EQ => RV.load1 Tk3 rfl ((h_a1.at_ hx2).ext (R0.trans EQ)) rfl) ?_
            refine DW.fix rfl rfl rfl (fun _ EQ => RV.indexAddr Ts22 rfl rfl hbx3 (h_a0_bounds.addr_ hx3)) ?_
            refine DW.fix rfl rfl rfl (fun _ EQ => RV.loadA [.int .i64 x3.a, .int .i64 x3.b, .int .i64 x3.most] Tk26 rfl ((h_a0_bounds.at_ hx3).ext (R0.trans EQ)) rfl rfl) ?_
            refine DW.sole rfl rfl rfl (OW.alloc Tz26 fun b2 w4 N2 => ?_)
            refine ⟨fun _ => N2.ext, ModX.ext N2.ext, ?_⟩
            replace H := H.new N2 N2.blk
            replace R0 := H.ext
            refine DW.sole rfl rfl rfl (OW.store Tk26 rfl rfl (H.blk 0 rfl) (off := 0) (vs := [.int .i64 x3.a, .int .i64 x3.b, .int .i64 x3.most]) rfl rfl rfl rfl rfl fun w5 S1 => ?_)
            refine ⟨fun h => absurd h (by decide), S1.modx trivial, ?_⟩
            replace H : Hp w w5 [.blk b2 26 [.int .i64 x3.a, .int .i64 x3.b, .int .i64 x3.most], .blk b1 24 [.int .i64 a0.layers, .slice A_a0_bounds a0.bounds.length c_a0_bounds]] := H.stored 0 rfl S1
            replace R0 := H.ext
            refine DW.nil (hK19 _ _ ?_)
            refine CW.seq fun K20 hK20 => ?_
            refine CW.seq fun K21 hK21 => ?_
            obtain ⟨x4, hbx4, hx4, F⟩ := ix_some F
            refine CW.draw [] (fun _ => True) (.cons 0 1 (.cons 1 1 (.cons 2 1 (.cons 3 1 (.cons 4 1 (.cons 5 1 (.cons 6 1 (.cons 7 1 (.cons 8 1 .nil))))))))) mixed (by kernel_rfl) fun w6 E3 => ?_
            replace H := H.grow E3
            replace R0 := H.ext
            refine DW.fix rfl rfl rfl (fun _ EQ => RV.fieldAddr Tf24_1 rfl) ?_
            refine DW.fix rfl rfl rfl (fun _ EQ => RV.load1 Tk22 rfl (((H.grow EQ).blk 1 rfl).cells.off 1) rfl) ?_
            refine DW.fix rfl rfl rfl (fun _ EQ => RV.move rfl) ?_
            refine DW.fix rfl rfl rfl (fun _ EQ => RV.indexAddr Ts22 rfl rfl hbx4 (h_a0_bounds.addr_ hx4)) ?_
            refine DW.fix rfl rfl rfl (fun _ EQ => RV.fieldAddr Tf26_1 rfl) ?_
            refine DW.fix rfl rfl rfl (fun _ EQ => RV.load1 Tk3 rfl (((h_a0_bounds.at_ hx4).ext (R0.trans EQ)).off 1) rfl) ?_
            refine DW.fix rfl rfl rfl (fun _ EQ => RV.fieldAddr Tf26_0 rfl) ?_
            refine DW.fix rfl rfl rfl (fun _ EQ => RV.load1 Tk3 rfl (((H.grow EQ).blk 0 rfl).cells.off 0) rfl) ?_
            refine DW.fix rfl rfl rfl (fun _ EQ => RV.nei rfl rfl) ?_
            refine DW.nil (hK21 _ _ ?_)
            by_cases hp5 : x4.b = x3.a
            ·
              replace F := ite_y hp5 F
              have hq5 := dec_t hp5
              refine CW.condF rfl (not_f hq5) ?_
              refine CW.skip (hK20 _ _ ?_)
              obtain ⟨x5, hbx5, hx5, F⟩ := ix_some F
              obtain ⟨hg3, F⟩ := gd_some F
              refine CW.region ?_
              refine LW.pure rfl rfl (RV.move rfl) ?_
              refine LW.pure rfl rfl (RV.fieldAddr Tf24_1 rfl) ?_
              refine LW.pure rfl rfl (RV.load1 Tk22 rfl ((H.blk 1 rfl).cells.off 1) rfl) ?_
              refine LW.pure rfl rfl (RV.move rfl) ?_
              refine LW.pure rfl rfl (RV.indexAddr Ts22 rfl rfl hbx5 (h_a0_bounds.addr_ hx5)) ?_
              refine LW.pure rfl rfl (RV.fieldAddr Tf26_2 rfl) ?_
              refine LW.pure rfl rfl (RV.load1 Tk3 rfl (((h_a0_bounds.at_ hx5).ext R0).off 2) rfl) ?_
              refine LW.pure rfl rfl (RV.add rfl rfl hg3) ?_
              refine LW.pure rfl rfl (RV.assign rfl) ?_
              refine LW.nil (hK17 _ _ ?_)
              obtain ⟨hg4, F⟩ := gd_some F
              refine CW.region ?_
              refine LW.pure rfl rfl (RV.add rfl rfl hg4) ?_
              refine LW.pure rfl rfl (RV.move rfl) ?_
              refine LW.nil ?_
              replace H := H.pick (L' := [.blk b1 24 [.int .i64 a0.layers, .slice A_a0_bounds a0.bounds.length c_a0_bounds]]) [1] (by decide) rfl
              replace R0 := H.ext
              subst hrec1
              refine ⟨mk1, Nat.lt_succ_self _, _, ?_, (t8_2 + x5.most), (t36_1 + 1), F, rfl, H⟩
              exact ⟨rfl, rfl, rfl, rfl, rfl, rfl, rfl, trivial⟩
            ·
              replace F := ite_n hp5 F
              have hq5 := dec_f hp5
              refine CW.condT rfl (not_t hq5) ?_
              refine CW.seq fun K22 hK22 => ?_
              refine CW.region ?_
              refine LW.pure rfl rfl (RV.assign rfl) ?_
              refine LW.nil (hK22 _ _ ?_)
              refine CW.ret ?_
              obtain rfl := Option.some.inj F
              refine ⟨_, (ResOK.one rfl), ?_⟩
              refine ⟨(by first | rfl | simp), R0⟩
          ·
            replace F := ite_n hp4 F
            have hq4 := dec_f hp4
            refine CW.condF rfl hq4 ?_
            replace H := H.pick (L' := []) [] (by decide) rfl
            replace R0 := H.ext
            refine CW.exit (jK160 _ _ ⟨_, ?_, ⟨t8_2, F, rfl, H⟩⟩)
            exact ⟨rfl, rfl, trivial⟩
      ·
        intro K23 hK23 jK186
        refine CW.seq fun K24 hK24 => ?_
        refine CW.region ?_
        refine LW.pure rfl rfl (RV.move rfl) ?_
        refine LW.pure rfl rfl (RV.len Ts43 rfl) ?_
        refine LW.pure rfl rfl (RV.move rfl) ?_
        refine LW.nil (hK24 _ _ ?_)
        refine CW.block ?_
        refine CW.loop (fun meas ρ wl4 => ∃ (t22_1 : Int), core_CheckClash_L2 a0 a1 meas t22_1 = some res ∧ ρ = [(1, .slice A_a1 a1.length c_a1), (2, .pointer (some (⟨b1, 0, none⟩))), (4, .int .i64 0), (20, .slice A_a1 a1.length c_a1), (21, .int .i64 ((a1.length : Int))), (22, .int .i64 t22_1)] ∧ Hp w wl4 [.blk b1 24 [.int .i64 a0.layers, .slice A_a0_bounds a0.bounds.length c_a0_bounds]]) FU ⟨_, ?_, ((0 : Int)), F, rfl, H⟩ ?_
        · exact ⟨rfl, rfl, rfl, rfl, rfl, rfl, trivial⟩
        rintro mk2 _ wl4 ⟨t22_1, F, rfl, H⟩
        have R0 := H.ext
        replace F := core_CheckClash_L2_s F
        obtain ⟨mk2, rfl, F⟩ := F
        generalize hrec2 : core_CheckClash_L2 a0 a1 mk2 = rec2 at F
        unfold core_CheckClash_B2 at F
        refine CW.seq fun K25 hK25 => ?_
        refine CW.region ?_
        refine LW.pure rfl rfl (RV.lss rfl rfl) ?_
        refine LW.nil (hK25 _ _ ?_)
        refine CW.seq fun K26 hK26 => ?_
        by_cases hp6 : t22_1 < ((a1.length : Int))
        ·
          replace F := ite_y hp6 F
          have hq6 := dec_t hp6
          refine CW.condT rfl hq6 ?_
          refine CW.skip (hK26 _ _ ?_)
          refine CW.seq fun K27 hK27 => ?_
          refine CW.block ?_
          refine CW.seq fun K28 hK28 => ?_
          obtain ⟨x6, hbx6, hx6, F⟩ := ix_some F
          refine CW.region ?_
          refine LW.pure rfl rfl (RV.indexAddr Ts43 rfl rfl hbx6 (h_a1.addr_ hx6)) ?_
          refine LW.pure rfl rfl (RV.load1 Tk3 rfl ((h_a1.at_ hx6).ext R0) rfl) ?_
          refine LW.pure rfl rfl (RV.assign rfl) ?_
          refine LW.nil (hK28 _ _ ?_)
          refine CW.seq fun K29 hK29 => ?_
          obtain ⟨hg5, F⟩ := gd_some F
          obtain ⟨r1, hr1, F⟩ := bnd_some F
          refine CW.region ?_
          refine LW.pure rfl rfl (RV.move rfl) ?_
          refine LW.pure rfl rfl (RV.fieldAddr Tf24_1 rfl) ?_
          refine LW.pure rfl rfl (RV.load1 Tk22 rfl ((H.blk 0 rfl).cells.off 1) rfl) ?_
          refine LW.pure rfl rfl (RV.len Ts22 rfl) ?_
          refine LW.pure rfl rfl (RV.sub rfl rfl hg5) ?_
          refine LW.go rfl rfl (OW.call Tc70 rfl (core_within_ok (a0 := x6) (a1 := (0 : Int)) (a2 := ((a0.bounds.length : Int)) - 1) hr1) ?_)
          rintro _ w7 ⟨rfl, E4⟩
          refine ⟨_, rfl, ?_⟩
          replace H := H.grow E4
          replace R0 := H.ext
          refine LW.pure rfl rfl (RV.not rfl) ?_
          refine LW.nil (hK29 _ _ ?_)
          by_cases hp7 : r1 = true
          ·
            replace F := ite_y hp7 F
            have hq7 : r1 = true := hp7
            refine CW.condF rfl (not_f hq7) ?_
            refine CW.skip (hK27 _ _ ?_)
            obtain ⟨hg6, F⟩ := gd_some F
            refine CW.region ?_
            refine LW.pure rfl rfl (RV.add rfl rfl hg6) ?_
            refine LW.pure rfl rfl (RV.move rfl) ?_
            refine LW.nil ?_
            subst hrec2
            refine ⟨mk2, Nat.lt_succ_self _, _, ?_, (t22_1 + 1), F, rfl, H⟩
            exact ⟨rfl, rfl, rfl, rfl, rfl, rfl, trivial⟩
          ·
            replace F := ite_n hp7 F
            have hq7 : r1 = false := raw_f hp7
            refine CW.condT rfl (not_t hq7) ?_
            refine CW.seq fun K30 hK30 => ?_
            refine CW.region ?_
            refine LW.pure rfl rfl (RV.assign rfl) ?_
            refine LW.nil (hK30 _ _ ?_)
            refine CW.ret ?_
            obtain rfl := Option.some.inj F
            refine ⟨_, (ResOK.one rfl), ?_⟩
            refine ⟨(by first | rfl | simp), R0⟩
        ·
          replace F := ite_n hp6 F
          have hq6 := dec_f hp6
          refine CW.condF rfl hq6 ?_
          refine CW.exit (jK186 _ _ ⟨_, ?_, ⟨F, rfl, H⟩⟩)
          exact ⟨rfl, rfl, rfl, trivial⟩
  ·
    replace F := ite_n hp1 F
    have hq1 := dec_f hp1
    refine CW.condT rfl (not_t hq1) ?_
    refine CW.seq fun K31 hK31 => ?_
    refine CW.region ?_
    refine LW.pure rfl rfl (RV.move rfl) ?_
    refine LW.pure rfl rfl (RV.assign rfl) ?_
    refine LW.nil (hK31 _ _ ?_)
    refine CW.ret ?_
    obtain rfl := Option.some.inj F
    refine ⟨_, (ResOK.one rfl), ?_⟩
    refine ⟨(by first | rfl | simp), R0⟩
end Go.D3

set_option linter.unusedVariables false
namespace Go.D3
open Go.Tb Go.Core
def slices_Reverse_int_B1 (rec1 : Int → Int → (List Int) → Option ((List Int))) (t2_1 : Int) (t3_1 : Int) (l1 : List Int) : Option ((List Int)) :=
  if t2_1 < t3_1 then
    ix l1 t3_1 fun x1 =>
    ix l1 t2_1 fun x2 =>
    ix l1 t2_1 fun x3 =>
    ix ((l1.set (Int.toNat t2_1) x1)) t3_1 fun x4 =>
    gd (InR (t2_1 + 1)) <|
    gd (InR (t3_1 - 1)) <|
    rec1 ((t2_1 + 1)) ((t3_1 - 1)) (((((l1.set (Int.toNat t2_1) x1)).set (Int.toNat t3_1) x2)))
  else
    some l1
def slices_Reverse_int_L1 : Nat → Int → Int → (List Int) → Option ((List Int))
  | 0, _, _, _ => none
  | n_ + 1, t2_1, t3_1, l1 => slices_Reverse_int_B1 (slices_Reverse_int_L1 n_) t2_1 t3_1 l1
theorem slices_Reverse_int_L1_s {m_ : Nat} {t2_1 : Int} {t3_1 : Int} {l1 : List Int} {res : (List Int)} (h : slices_Reverse_int_L1 m_ t2_1 t3_1 l1 = some res) : ∃ k, m_ = k + 1 ∧ slices_Reverse_int_B1 (slices_Reverse_int_L1 k) t2_1 t3_1 l1 = some res := by
  cases m_ with
  | zero => cases h
  | succ k => exact ⟨k, rfl, h⟩
def slices_Reverse_int (a0 : List Int) : Option ((List Int)) :=
  gd (InR (((a0.length : Int)) - 1)) <|
  slices_Reverse_int_L1 FU (((0 : Int))) ((((a0.length : Int)) - 1)) a0
def core_Clash_k1 (l1 : List Int) : Option ((List Int) × Bool × Int) :=
  bnd (slices_Reverse_int l1) fun r1 =>
  some (r1, true, (0 : Int))
def core_Clash_k2 (a0 : Core) (r2 : (List Int) × (List Int) × Int) (t8_1 : Int) (l2 : List Int) (rec1 : Int → (List Int) → Option ((List Int) × Bool × Int)) (t46_1 : Bool) : Option ((List Int) × Bool × Int) :=
  if t46_1 = true then
    ix r2.2.1 t8_1 fun x1 =>
    gd (l2.length + (([x1] : List Int)).length ≤ 1000000) <|
    ix r2.2.1 t8_1 fun x2 =>
    ix a0.bounds x2 fun x3 =>
    rec1 x3.a (((l2 ++ ([x1] : List Int))))
  else
    core_Clash_k1 l2
def core_Clash_B1 (a0 : Core) (r2 : (List Int) × (List Int) × Int) (t8_2 : Int) (rec1 : Int → (List Int) → Option ((List Int) × Bool × Int)) (t8_1 : Int) (l2 : List Int) : Option ((List Int) × Bool × Int) :=
  if ((l2.length : Int)) = 0 then
    core_Clash_k2 a0 r2 t8_1 l2 rec1 true
  else
    core_Clash_k2 a0 r2 t8_1 l2 rec1 ((!(decide (t8_1 = t8_2))))
def core_Clash_L1 (a0 : Core) (r2 : (List Int) × (List Int) × Int) (t8_2 : Int) : Nat → Int → (List Int) → Option ((List Int) × Bool × Int)
  | 0, _, _ => none
  | n_ + 1, t8_1, l2 => core_Clash_B1 a0 r2 t8_2 (core_Clash_L1 a0 r2 t8_2 n_) t8_1 l2
theorem core_Clash_L1_s {a0 : Core} {r2 : (List Int) × (List Int) × Int} {t8_2 : Int} {m_ : Nat} {t8_1 : Int} {l2 : List Int} {res : (List Int) × Bool × Int} (h : core_Clash_L1 a0 r2 t8_2 m_ t8_1 l2 = some res) : ∃ k, m_ = k + 1 ∧ core_Clash_B1 a0 r2 t8_2 (core_Clash_L1 a0 r2 t8_2 k) t8_1 l2 = some res := by
  cases m_ with
  | zero => cases h
  | succ k => exact ⟨k, rfl, h⟩
def core_Clash_k3 (a0 : Core) (r2 : (List Int) × (List Int) × Int) (t8_2 : Int) : Option ((List Int) × Bool × Int) :=
  core_Clash_L1 a0 r2 t8_2 FU t8_2 ((([] : List Int)))
def core_Clash_B2 (a0 : Core) (r2 : (List Int) × (List Int) × Int) (rec2 : Int → Int → Option ((List Int) × Bool × Int)) (t8_3 : Int) (t26_1 : Int) : Option ((List Int) × Bool × Int) :=
  if t26_1 < a0.layers then
    ix r2.2.1 t8_3 fun x4 =>
    ix a0.bounds x4 fun x5 =>
    gd (InR (t26_1 + 1)) <|
    rec2 x5.a ((t26_1 + 1))
  else
    core_Clash_k3 a0 r2 t8_3
def core_Clash_L2 (a0 : Core) (r2 : (List Int) × (List Int) × Int) : Nat → Int → Int → Option ((List Int) × Bool × Int)
  | 0, _, _ => none
  | n_ + 1, t8_3, t26_1 => core_Clash_B2 a0 r2 (core_Clash_L2 a0 r2 n_) t8_3 t26_1
theorem core_Clash_L2_s {a0 : Core} {r2 : (List Int) × (List Int) × Int} {m_ : Nat} {t8_3 : Int} {t26_1 : Int} {res : (List Int) × Bool × Int} (h : core_Clash_L2 a0 r2 m_ t8_3 t26_1 = some res) : ∃ k, m_ = k + 1 ∧ core_Clash_B2 a0 r2 (core_Clash_L2 a0 r2 k) t8_3 t26_1 = some res := by
  cases m_ with
  | zero => cases h
  | succ k => exact ⟨k, rfl, h⟩
def core_Clash (a0 : Core) : Option ((List Int) × Bool × Int) :=
  bnd (core_Validate a0) fun r3 =>
  if r3 = 0 then
    bnd (core_relax a0) fun r2 =>
    if r2.2.2 < 0 then
      some (([] : List Int), false, (0 : Int))
    else
      core_Clash_L2 a0 r2 FU r2.2.2 (((0 : Int)))
  else
    some (([] : List Int), false, r3)
end Go.D3

set_option linter.unusedVariables false
set_option linter.unusedSimpArgs false
namespace Go.D3
open Go.Tb Go.Proofs Go.RowKit Go.Core
theorem Tc40 : callable Try.prog 40 = true := by kernel_rfl
theorem Tc42 : callable Try.prog 42 = true := by kernel_rfl
theorem Tc73 : callable Try.prog 73 = true := by kernel_rfl
set_option maxRecDepth 20000 in
set_option maxHeartbeats 1000000 in
theorem slices_Reverse_int_ok {a0 : List Int} {A_a0 : Option Addr} {c_a0 : Nat} {w1 : World} {R : List Ck} {w : World} {res : (List Int)} (H : Hp w1 w ([.own A_a0 c_a0 3 1 (List.map encN a0)] ++ R)) (F : slices_Reverse_int a0 = some res) : Calls Try.prog 73 #[.slice A_a0 a0.length c_a0] w (fun e w' => e = .returned (.tuple #[]) ∧ res.length = a0.length ∧ Hp w1 w' ([.own A_a0 c_a0 3 1 (List.map encN res)] ++ R)) := by
  refine calls_of_cw (args := [.slice A_a0 a0.length c_a0]) Try.func73 rfl rfl rfl rfl ?_
  have R0 := H.ext
  unfold slices_Reverse_int at F
  refine CW.seq fun K1 hK1 => ?_
  obtain ⟨hg1, F⟩ := gd_some F
  refine CW.region ?_
  refine LW.pure rfl rfl (RV.move rfl) ?_
  refine LW.pure rfl rfl (RV.len Ts43 rfl) ?_
  refine LW.pure rfl rfl (RV.sub rfl rfl hg1) ?_
  refine LW.pure rfl rfl (RV.assign rfl) ?_
  refine LW.pure rfl rfl (RV.assign rfl) ?_
  refine LW.nil (hK1 _ _ ?_)
  refine CW.block ?_
  refine CW.loop (fun meas ρ wl1 => ∃ (t2_1 : Int) (t3_1 : Int) (l1 : List Int), slices_Reverse_int_L1 meas t2_1 t3_1 l1 = some res ∧ ρ = [(0, .slice A_a0 l1.length c_a0), (2, .int .i64 t2_1), (3, .int .i64 t3_1)] ∧ Hp w1 wl1 ([.own A_a0 c_a0 3 1 (List.map encN l1)] ++ R) ∧ l1.length = a0.length) FU ⟨_, ?_, ((0 : Int)), (((a0.length : Int)) - 1), a0, F, rfl, H, (show a0.length = a0.length by first | rfl | assumption | (simp; done) | (simp; assumption) | (simp; omega))⟩ ?_
  · exact ⟨(look_slice rfl (by first | rfl | (simp; done) | (simp; omega))), rfl, rfl, trivial⟩
  rintro mk1 _ wl1 ⟨t2_1, t3_1, l1, F, rfl, H, hl1⟩
  have R0 := H.ext
  replace F := slices_Reverse_int_L1_s F
  obtain ⟨mk1, rfl, F⟩ := F
  generalize hrec1 : slices_Reverse_int_L1 mk1 = rec1 at F
  unfold slices_Reverse_int_B1 at F
  refine CW.seq fun K2 hK2 => ?_
  refine CW.seq fun K3 hK3 => ?_
  refine CW.region ?_
  refine LW.pure rfl rfl (RV.move rfl) ?_
  refine LW.pure rfl rfl (RV.move rfl) ?_
  refine LW.pure rfl rfl (RV.lss rfl rfl) ?_
  refine LW.nil (hK3 _ _ ?_)
  by_cases hp1 : t2_1 < t3_1
  ·
    replace F := ite_y hp1 F
    have hq1 := dec_t hp1
    refine CW.condT rfl hq1 ?_
    refine CW.skip (hK2 _ _ ?_)
    refine CW.seq fun K4 hK4 => ?_
    refine CW.block ?_
    obtain ⟨x1, hbx1, hx1, F⟩ := ix_some F
    obtain ⟨x2, hbx2, hx2, F⟩ := ix_some F
    obtain ⟨x3, hbx3, hx3, F⟩ := ix_some F
    obtain ⟨x4, hbx4, hx4, F⟩ := ix_some F
    refine CW.draw [13, 15] (fun _ => True) (.cons 0 1 (.cons 1 1 (.cons 4 1 (.cons 5 1 (.cons 6 1 (.cons 7 1 (.cons 2 2 (.cons 3 2 (.cons 8 2 (.cons 9 2 (.cons 10 2 (.cons 11 1 (.cons 12 1 (.cons 13 0 (.cons 14 2 (.cons 15 0 .nil)))))))))))))))) mixed (by kernel_rfl) fun w2 E1 => ?_
    replace H := H.grow E1
    replace R0 := H.ext
    refine DW.fix rfl rfl rfl (fun _ EQ => RV.move rfl) ?_
    refine DW.fix rfl rfl rfl (fun _ EQ => RV.move rfl) ?_
    refine DW.fix rfl rfl rfl (fun _ EQ => RV.move rfl) ?_
    refine DW.fix rfl rfl rfl (fun _ EQ => RV.move rfl) ?_
    refine DW.fix rfl rfl rfl (fun _ EQ => RV.indexAddr Ts43 rfl rfl hbx1 ((H.own 0 rfl).sl.addr_ hx1)) ?_
    refine DW.fix rfl rfl rfl (fun _ EQ => RV.load1 Tk3 rfl (((H.grow EQ).own 0 rfl).sl.at_ hx1) rfl) ?_
    refine DW.thru rfl rfl rfl (fun _ EQ => RV.move rfl) ?_
    refine DW.thru rfl rfl rfl (fun _ EQ => RV.move rfl) ?_
    refine DW.thru rfl rfl rfl (fun _ EQ => RV.move rfl) ?_
    refine DW.thru rfl rfl rfl (fun _ EQ => RV.move rfl) ?_
    refine DW.thru rfl rfl rfl (fun _ EQ => RV.indexAddr Ts43 rfl rfl hbx2 ((H.own 0 rfl).sl.addr_ hx2)) ?_
    refine DW.fix rfl rfl rfl (fun _ EQ => RV.load1 Tk3 rfl (((H.grow EQ).own 0 rfl).sl.at_ hx2) rfl) ?_
    refine DW.fix rfl rfl rfl (fun _ EQ => RV.indexAddr Ts43 rfl rfl hbx3 ((H.own 0 rfl).sl.addr_ hx3)) ?_
    refine DW.sole rfl rfl rfl (OW.storeO (enc := encN) (vs := [.int .i64 x1]) 0 (x1) Tk3 rfl rfl (H.own 0 rfl) (fun _ => rfl) rfl hx3 rfl rfl (by decide) rfl rfl fun w3 M1 O1 => ?_)
    refine ⟨fun h => absurd h (by decide), M1.modx (fun _ _ => trivial), ?_⟩
    replace H : Hp w1 w3 ([.own A_a0 c_a0 3 1 (List.map encN ((l1.set (Int.toNat t2_1) x1)))] ++ R) := H.mod 0 rfl M1 O1 (.inl rfl)
    replace R0 := H.ext
    refine DW.thru rfl rfl rfl (fun _ EQ => RV.indexAddr Ts43 rfl rfl (by first | exact hbx4 | (simp at hbx4 ⊢; omega)) ((H.own 0 rfl).sl.addr_ hx4)) ?_
    refine DW.sole rfl rfl rfl (OW.storeO (enc := encN) (vs := [.int .i64 x2]) 0 (x2) Tk3 rfl rfl (H.own 0 rfl) (fun _ => rfl) rfl hx4 rfl rfl (by decide) rfl rfl fun w4 M2 O2 => ?_)
    refine ⟨fun h => absurd h (by decide), M2.modx (fun _ _ => trivial), ?_⟩
    replace H : Hp w1 w4 ([.own A_a0 c_a0 3 1 (List.map encN ((((l1.set (Int.toNat t2_1) x1)).set (Int.toNat t3_1) x2)))] ++ R) := H.mod 0 rfl M2 O2 (.inl rfl)
    replace R0 := H.ext
    refine DW.nil (hK4 _ _ ?_)
    obtain ⟨hg2, F⟩ := gd_some F
    obtain ⟨hg3, F⟩ := gd_some F
    refine CW.region ?_
    refine LW.pure rfl rfl (RV.move rfl) ?_
    refine LW.pure rfl rfl (RV.add rfl rfl hg2) ?_
    refine LW.pure rfl rfl (RV.move rfl) ?_
    refine LW.pure rfl rfl (RV.sub rfl rfl hg3) ?_
    refine LW.pure rfl rfl (RV.assign rfl) ?_
    refine LW.pure rfl rfl (RV.assign rfl) ?_
    refine LW.nil ?_
    subst hrec1
    refine ⟨mk1, Nat.lt_succ_self _, _, ?_, (t2_1 + 1), (t3_1 - 1), ((((l1.set (Int.toNat t2_1) x1)).set (Int.toNat t3_1) x2)), F, rfl, H, (show ((((l1.set (Int.toNat t2_1) x1)).set (Int.toNat t3_1) x2)).length = a0.length by first | rfl | assumption | (simp; done) | (simp; assumption) | (simp; omega))⟩
    exact ⟨(look_slice rfl (by first | rfl | (simp; done) | (simp; omega))), rfl, rfl, trivial⟩
  ·
    replace F := ite_n hp1 F
    have hq1 := dec_f hp1
    refine CW.condF rfl hq1 ?_
    refine CW.exit ?_
    obtain rfl := Option.some.inj F
    refine ⟨_, ResOK.none_, ?_⟩
    exact ⟨(by first | rfl | (simp; done) | (simp; omega)), (by first | rfl | assumption | (simp; done) | (simp; assumption) | (simp; omega)), H⟩
set_option maxRecDepth 20000 in
set_option maxHeartbeats 1000000 in
theorem core_Clash_ok {a0 : Core} {A_a0_bounds : Option Addr} {c_a0_bounds : Nat} {w : World} {res : (List Int) × Bool × Int} (h_a0_bounds : Sl w A_a0_bounds c_a0_bounds 3 (a0.bounds.map encBound)) (F : core_Clash a0 = some res) : Calls Try.prog 42 #[.agg #[.int .i64 a0.layers, .slice A_a0_bounds a0.bounds.length c_a0_bounds]] w (fun e w' => ∃ (A1 : Option Addr) (c1 : Nat), e = .returned (.tuple #[.slice A1 res.1.length c1, .bool res.2.1, .int .i64 res.2.2]) ∧ Hp w w' [.own A1 c1 3 1 (List.map encN res.1)]) := by
  refine calls_of_cw (args := [.agg #[.int .i64 a0.layers, .slice A_a0_bounds a0.bounds.length c_a0_bounds]]) Try.func42 rfl rfl rfl rfl ?_
  have H := Hp.start w
  have R0 := H.ext
  unfold core_Clash at F
  refine CW.seq fun K1 hK1 => ?_
  refine CW.region ?_
  refine LW.go rfl rfl (OW.box rfl fun b1 w1 N1 => ?_)
  replace H := H.new N1 N1.blk
  replace R0 := H.ext
  refine LW.pure rfl rfl (RV.assign rfl) ?_
  refine LW.pure rfl rfl (RV.assign rfl) ?_
  refine LW.pure rfl rfl (RV.assign rfl) ?_
  refine LW.nil (hK1 _ _ ?_)
  refine CW.seq fun K2 hK2 => ?_
  refine CW.seq fun K3 hK3 => ?_
  obtain ⟨r3, hr3, F⟩ := bnd_some F
  refine CW.region ?_
  refine LW.pure rfl rfl (RV.loadA [.int .i64 a0.layers, .slice A_a0_bounds a0.bounds.length c_a0_bounds] Tk24 rfl (H.blk 0 rfl).cells rfl rfl) ?_
  refine LW.go rfl rfl (OW.call Tc36 rfl (core_Validate_ok (a0 := a0) (h_a0_bounds.ext R0) hr3) ?_)
  rintro _ w2 ⟨rfl, E1⟩
  refine ⟨_, rfl, ?_⟩
  replace H := H.grow E1
  replace R0 := H.ext
  refine LW.pure rfl rfl (RV.assign rfl) ?_
  refine LW.nil (hK3 _ _ ?_)
  refine CW.seq fun K4 hK4 => ?_
  refine CW.region ?_
  refine LW.pure rfl rfl (RV.move rfl) ?_
  refine LW.pure rfl rfl (RV.nei rfl rfl) ?_
  refine LW.nil (hK4 _ _ ?_)
  by_cases hp1 : r3 = 0
  ·
    replace F := ite_y hp1 F
    have hq1 := dec_t hp1
    refine CW.condF rfl (not_f hq1) ?_
    refine CW.skip (hK2 _ _ ?_)
    refine CW.seq fun K5 hK5 => ?_
    obtain ⟨r2, hr2, F⟩ := bnd_some F
    refine CW.region ?_
    refine LW.pure rfl rfl (RV.loadA [.int .i64 a0.layers, .slice A_a0_bounds a0.bounds.length c_a0_bounds] Tk24 rfl (H.blk 0 rfl).cells rfl rfl) ?_
    refine LW.go rfl rfl (OW.call Tc72 rfl (core_relax_ok (a0 := a0) (h_a0_bounds.ext R0) hr2) ?_)
    rintro _ w3 ⟨A7_0, c7_0, A7_1, c7_1, rfl, E2⟩
    refine ⟨_, rfl, ?_⟩
    replace H : Hp w w3 [.own A7_0 c7_0 3 1 (List.map encN r2.1), .own A7_1 c7_1 3 1 (List.map encN r2.2.1), .blk b1 24 [.int .i64 a0.layers, .slice A_a0_bounds a0.bounds.length c_a0_bounds]] := H.append E2
    replace R0 := H.ext
    refine LW.pure rfl rfl (RV.move rfl) ?_
    refine LW.pure rfl rfl (RV.extract rfl rfl) ?_
    refine LW.pure rfl rfl (RV.extract rfl rfl) ?_
    refine LW.pure rfl rfl (RV.extract rfl rfl) ?_
    refine LW.pure rfl rfl (RV.assign rfl) ?_
    refine LW.pure rfl rfl (RV.assign rfl) ?_
    refine LW.pure rfl rfl (RV.assign rfl) ?_
    refine LW.nil (hK5 _ _ ?_)
    refine CW.seq fun K6 hK6 => ?_
    refine CW.seq fun K7 hK7 => ?_
    refine CW.region ?_
    refine LW.pure rfl rfl (RV.move rfl) ?_
    refine LW.pure rfl rfl (RV.lss rfl rfl) ?_
    refine LW.nil (hK7 _ _ ?_)
    by_cases hp2 : r2.2.2 < 0
    ·
      replace F := ite_y hp2 F
      have hq2 := dec_t hp2
      refine CW.condT rfl hq2 ?_
      refine CW.seq fun K8 hK8 => ?_
      refine CW.region ?_
      refine LW.pure rfl rfl (RV.assign rfl) ?_
      refine LW.pure rfl rfl (RV.assign rfl) ?_
      refine LW.pure rfl rfl (RV.assign rfl) ?_
      refine LW.nil (hK8 _ _ ?_)
      refine CW.ret ?_
      obtain rfl := Option.some.inj F
      refine ⟨_, (ResOK.three rfl rfl rfl), ?_⟩
      replace H := H.nilOwn 3 1
      replace R0 := H.ext
      replace H := H.pick (L' := [.own none 0 3 1 (List.map encN (([] : List Int)))]) [0] (by decide) rfl
      replace R0 := H.ext
      exact ⟨none, 0, (by first | rfl | (simp; done) | (simp; omega)), H⟩
    ·
      replace F := ite_n hp2 F
      have hq2 := dec_f hp2
      refine CW.condF rfl hq2 ?_
      refine CW.skip (hK6 _ _ ?_)
      refine CW.seqJ (fun ρ wl1 => (∃ (t8_2 : Int), core_Clash_k3 a0 r2 t8_2 = some res ∧ ρ = [(1, .pointer (some (⟨b1, 0, none⟩))), (2, .slice none 0 0), (3, .bool false), (4, .int .i64 0), (7, .slice A7_1 r2.2.1.length c7_1), (8, .int .i64 t8_2)] ∧ Hp w wl1 [.own A7_1 c7_1 3 1 (List.map encN r2.2.1), .blk b1 24 [.int .i64 a0.layers, .slice A_a0_bounds a0.bounds.length c_a0_bounds]])) ?_ ?_
      ·
        rintro _ wl1 ⟨t8_2, F, rfl, H⟩
        have R0 := H.ext
        unfold core_Clash_k3 at F
        refine CW.seq fun K9 hK9 => ?_
        refine CW.region ?_
        refine LW.pure rfl rfl (RV.assign rfl) ?_
        refine LW.nil (hK9 _ _ ?_)
        refine CW.seqJ (fun ρ wl2 => (∃ (l1 : List Int) (Al1 : Option Addr) (cl1 : Nat), core_Clash_k1 l1 = some res ∧ ρ = [(2, .slice none 0 0), (3, .bool false), (4, .int .i64 0), (9, .slice Al1 l1.length cl1)] ∧ Hp w wl2 [.own Al1 cl1 3 1 (List.map encN l1)])) ?_ ?_
        ·
          rintro _ wl2 ⟨l1, Al1, cl1, F, rfl, H⟩
          have R0 := H.ext
          unfold core_Clash_k1 at F
          refine CW.seq fun K10 hK10 => ?_
          obtain ⟨r1, hr1, F⟩ := bnd_some F
          refine CW.region ?_
          refine LW.pure rfl rfl (RV.move rfl) ?_
          replace H := H.pick (L' := [.own Al1 cl1 3 1 (List.map encN l1)]) [0] (by decide) rfl
          replace R0 := H.ext
          refine LW.go rfl rfl (OW.call Tc73 rfl (slices_Reverse_int_ok (a0 := l1) (R := []) H hr1) ?_)
          rintro _ w4 ⟨rfl, hlm9_a0, Hq1⟩
          refine ⟨_, rfl, ?_⟩
          replace H : Hp w w4 [.own Al1 cl1 3 1 (List.map encN r1)] := Hq1
          replace R0 := H.ext
          refine LW.nil (hK10 _ _ ?_)
          refine CW.seq fun K11 hK11 => ?_
          refine CW.region ?_
          refine LW.pure rfl rfl (RV.move rfl) ?_
          refine LW.pure rfl rfl (RV.assign rfl) ?_
          refine LW.pure rfl rfl (RV.assign rfl) ?_
          refine LW.pure rfl rfl (RV.assign rfl) ?_
          refine LW.nil (hK11 _ _ ?_)
          refine CW.ret ?_
          obtain rfl := Option.some.inj F
          refine ⟨_, (ResOK.three rfl rfl rfl), ?_⟩
          exact ⟨Al1, cl1, (by first | rfl | (simp; done) | (simp; omega)), H⟩
        ·
          intro K12 hK12 jK86
          refine CW.seq fun K13 hK13 => ?_
          refine CW.region ?_
          refine LW.pure rfl rfl (RV.move rfl) ?_
          refine LW.pure rfl rfl (RV.assign rfl) ?_
          refine LW.nil (hK13 _ _ ?_)
          refine CW.block ?_
          replace H := H.nilOwn 3 1
          replace R0 := H.ext
          replace H := H.pick (L' := [.own A7_1 c7_1 3 1 (List.map encN r2.2.1), .own none 0 3 1 (List.map encN (([] : List Int))), .blk b1 24 [.int .i64 a0.layers, .slice A_a0_bounds a0.bounds.length c_a0_bounds]]) [1, 0, 2] (by decide) rfl
          replace R0 := H.ext
          refine CW.loop (fun meas ρ wl3 => ∃ (t8_1 : Int) (l2 : List Int) (Al2 : Option Addr) (cl2 : Nat), core_Clash_L1 a0 r2 t8_2 meas t8_1 l2 = some res ∧ ρ = [(1, .pointer (some (⟨b1, 0, none⟩))), (2, .slice none 0 0), (3, .bool false), (4, .int .i64 0), (7, .slice A7_1 r2.2.1.length c7_1), (8, .int .i64 t8_1), (9, .slice Al2 l2.length cl2), (10, .int .i64 t8_2)] ∧ Hp w wl3 [.own A7_1 c7_1 3 1 (List.map encN r2.2.1), .own Al2 cl2 3 1 (List.map encN l2), .blk b1 24 [.int .i64 a0.layers, .slice A_a0_bounds a0.bounds.length c_a0_bounds]]) FU ⟨_, ?_, t8_2, (([] : List Int)), none, 0, F, rfl, H⟩ ?_
          · exact ⟨rfl, rfl, rfl, rfl, (look_slice rfl (by first | rfl | (simp; done) | (simp; omega))), rfl, (look_slice rfl (by first | rfl | (simp; done) | (simp; omega))), rfl, trivial⟩
          rintro mk1 _ wl3 ⟨t8_1, l2, Al2, cl2, F, rfl, H⟩
          have R0 := H.ext
          replace F := core_Clash_L1_s F
          obtain ⟨mk1, rfl, F⟩ := F
          generalize hrec1 : core_Clash_L1 a0 r2 t8_2 mk1 = rec1 at F
          unfold core_Clash_B1 at F
          refine CW.seq fun K14 hK14 => ?_
          refine CW.seqJ (fun ρ wl4 => (∃ (t46_1 : Bool), core_Clash_k2 a0 r2 t8_1 l2 rec1 t46_1 = some res ∧ ρ = [(1, .pointer (some (⟨b1, 0, none⟩))), (2, .slice none 0 0), (3, .bool false), (4, .int .i64 0), (7, .slice A7_1 r2.2.1.length c7_1), (8, .int .i64 t8_1), (9, .slice Al2 l2.length cl2), (10, .int .i64 t8_2), (46, .bool t46_1)] ∧ Hp w wl4 [.own A7_1 c7_1 3 1 (List.map encN r2.2.1), .own Al2 cl2 3 1 (List.map encN l2), .blk b1 24 [.int .i64 a0.layers, .slice A_a0_bounds a0.bounds.length c_a0_bounds]])) ?_ ?_
          ·
            rintro _ wl4 ⟨t46_1, F, rfl, H⟩
            have R0 := H.ext
            unfold core_Clash_k2 at F
            by_cases hp3 : t46_1 = true
            ·
              replace F := ite_y hp3 F
              have hq3 : t46_1 = true := hp3
              refine CW.condT rfl hq3 ?_
              refine CW.skip (hK14 _ _ ?_)
              refine CW.seq fun K15 hK15 => ?_
              refine CW.block ?_
              obtain ⟨x1, hbx1, hx1, F⟩ := ix_some F
              obtain ⟨hg1, F⟩ := gd_some F
              refine CW.region ?_
              refine LW.pure rfl rfl (RV.move rfl) ?_
              refine LW.pure rfl rfl (RV.move rfl) ?_
              refine LW.pure rfl rfl (RV.move rfl) ?_
              refine LW.pure rfl rfl (RV.indexAddr Ts43 rfl rfl hbx1 ((H.own 0 rfl).sl.addr_ hx1)) ?_
              refine LW.pure rfl rfl (RV.load1 Tk3 rfl ((H.own 0 rfl).sl.at_ hx1) rfl) ?_
              refine LW.go rfl rfl (OW.buildSlice (e := 3) (vs := [.int .i64 x1]) (cs := [.int .i64 x1]) rfl (fun _ => by kernel_rfl) fun b2 w5 N2 => ?_)
              replace H := H.made' (k := 1) (t := 3) (enc := encN) (l := ([x1] : List Int)) N2 N2.blk (fun _ => rfl) rfl (by first | decide | omega | (simp; done) | (simp; omega))
              replace R0 := H.ext
              refine LW.go rfl rfl (OW.appendG (enc := encN) (l := l2) (xs := ([x1] : List Int)) Ts43 rfl (look_slice rfl (by first | rfl | (simp; done) | (simp; omega))) (H.own 2 rfl) (H.own 0 rfl).sl (fun _ => rfl) rfl rfl hg1 (by decide) fun A2 c2 w6 O1 M1 D1 => ?_)
              replace H : Hp w w6 [.own (some ⟨b2, 0, none⟩) ((([x1] : List Int)).length) 3 1 (List.map encN (([x1] : List Int))), .own A7_1 c7_1 3 1 (List.map encN r2.2.1), .own A2 c2 3 1 (List.map encN ((l2 ++ ([x1] : List Int)))), .blk b1 24 [.int .i64 a0.layers, .slice A_a0_bounds a0.bounds.length c_a0_bounds]] := H.mod 2 rfl M1 O1 D1
              replace R0 := H.ext
              refine LW.pure rfl rfl (RV.assign rfl) ?_
              refine LW.nil (hK15 _ _ ?_)
              obtain ⟨x2, hbx2, hx2, F⟩ := ix_some F
              obtain ⟨x3, hbx3, hx3, F⟩ := ix_some F
              refine CW.draw [] (fun _ => True) (.cons 0 1 (.cons 1 1 (.cons 2 1 (.cons 3 1 (.cons 4 1 (.cons 5 1 (.cons 6 1 (.cons 7 1 (.cons 8 1 (.cons 9 1 .nil)))))))))) mixed (by kernel_rfl) fun w7 E3 => ?_
              replace H := H.grow E3
              replace R0 := H.ext
              refine DW.fix rfl rfl rfl (fun _ EQ => RV.fieldAddr Tf24_1 rfl) ?_
              refine DW.fix rfl rfl rfl (fun _ EQ => RV.load1 Tk22 rfl (((H.grow EQ).blk 3 rfl).cells.off 1) rfl) ?_
              refine DW.fix rfl rfl rfl (fun _ EQ => RV.move rfl) ?_
              refine DW.fix rfl rfl rfl (fun _ EQ => RV.move rfl) ?_
              refine DW.fix rfl rfl rfl (fun _ EQ => RV.indexAddr Ts43 rfl rfl hbx2 ((H.own 1 rfl).sl.addr_ hx2)) ?_
              refine DW.fix rfl rfl rfl (fun _ EQ => RV.load1 Tk3 rfl (((H.grow EQ).own 1 rfl).sl.at_ hx2) rfl) ?_
              refine DW.fix rfl rfl rfl (fun _ EQ => RV.indexAddr Ts22 rfl rfl hbx3 (h_a0_bounds.addr_ hx3)) ?_
              refine DW.fix rfl rfl rfl (fun _ EQ => RV.fieldAddr Tf26_0 rfl) ?_
              refine DW.fix rfl rfl rfl (fun _ EQ => RV.load1 Tk3 rfl (((h_a0_bounds.at_ hx3).ext (R0.trans EQ)).off 0) rfl) ?_
              refine DW.fix rfl rfl rfl (fun _ EQ => RV.assign rfl) ?_
              refine DW.nil ?_
              replace H := H.pick (L' := [.own A7_1 c7_1 3 1 (List.map encN r2.2.1), .own A2 c2 3 1 (List.map encN ((l2 ++ ([x1] : List Int)))), .blk b1 24 [.int .i64 a0.layers, .slice A_a0_bounds a0.bounds.length c_a0_bounds]]) [1, 2, 3] (by decide) rfl
              replace R0 := H.ext
              subst hrec1
              refine ⟨mk1, Nat.lt_succ_self _, _, ?_, x3.a, ((l2 ++ ([x1] : List Int))), A2, c2, F, rfl, H⟩
              exact ⟨rfl, rfl, rfl, rfl, (look_slice rfl (by first | rfl | (simp; done) | (simp; omega))), rfl, (look_slice rfl (by first | rfl | (simp; done) | (simp; omega))), rfl, trivial⟩
            ·
              replace F := ite_n hp3 F
              have hq3 : t46_1 = false := raw_f hp3
              refine CW.condF rfl hq3 ?_
              replace H := H.pick (L' := [.own Al2 cl2 3 1 (List.map encN l2)]) [1] (by decide) rfl
              replace R0 := H.ext
              refine CW.exit (jK86 _ _ ⟨_, ?_, ⟨l2, Al2, cl2, F, rfl, H⟩⟩)
              exact ⟨rfl, rfl, rfl, (look_slice rfl (by first | rfl | (simp; done) | (simp; omega))), trivial⟩
          ·
            intro K16 hK16 jK96
            by_cases hp4 : ((l2.length : Int)) = 0
            ·
              replace F := ite_y hp4 F
              have hq4 := dec_t hp4
              refine CW.region ?_
              refine LW.pure rfl rfl (RV.move rfl) ?_
              refine LW.pure rfl rfl (RV.len Ts43 rfl) ?_
              refine LW.pure rfl rfl (RV.eqi rfl rfl) ?_
              refine LW.pure rfl rfl (RV.move rfl) ?_
              refine LW.noB rfl rfl rfl rfl (ne_beq (v := true) hq4 rfl) ?_
              refine LW.noB rfl rfl rfl rfl (ne_beq (v := true) hq4 rfl) ?_
              refine LW.noB rfl rfl rfl rfl (ne_beq (v := true) hq4 rfl) ?_
              refine LW.pure rfl rfl (RV.pickTB rfl hq4 rfl) ?_
              refine LW.nil (jK96 _ _ ⟨_, ?_, ⟨true, F, rfl, H⟩⟩)
              exact ⟨rfl, rfl, rfl, rfl, (look_slice rfl (by first | rfl | (simp; done) | (simp; omega))), rfl, (look_slice rfl (by first | rfl | (simp; done) | (simp; omega))), rfl, rfl, trivial⟩
            ·
              replace F := ite_n hp4 F
              have hq4 := dec_f hp4
              refine CW.region ?_
              refine LW.pure rfl rfl (RV.move rfl) ?_
              refine LW.pure rfl rfl (RV.len Ts43 rfl) ?_
              refine LW.pure rfl rfl (RV.eqi rfl rfl) ?_
              refine LW.pure rfl rfl (RV.move rfl) ?_
              refine LW.pureYB rfl rfl rfl rfl hq4 (RV.move rfl) ?_
              refine LW.pureYB rfl rfl rfl rfl hq4 (RV.move rfl) ?_
              refine LW.pureYB rfl rfl rfl rfl hq4 (RV.nei rfl rfl) ?_
              refine LW.pure rfl rfl (RV.pickFB rfl hq4 rfl) ?_
              refine LW.nil (jK96 _ _ ⟨_, ?_, ⟨(!(decide (t8_1 = t8_2))), F, rfl, H⟩⟩)
              exact ⟨rfl, rfl, rfl, rfl, (look_slice rfl (by first | rfl | (simp; done) | (simp; omega))), rfl, (look_slice rfl (by first | rfl | (simp; done) | (simp; omega))), rfl, rfl, trivial⟩
      ·
        intro K17 hK17 jK97
        refine CW.seq fun K18 hK18 => ?_
        refine CW.region ?_
        refine LW.pure rfl rfl (RV.fieldAddr Tf24_0 rfl) ?_
        refine LW.pure rfl rfl (RV.load1 Tk3 rfl ((H.blk 2 rfl).cells.off 0) rfl) ?_
        refine LW.pure rfl rfl (RV.move rfl) ?_
        refine LW.nil (hK18 _ _ ?_)
        refine CW.block ?_
        replace H := H.pick (L' := [.own A7_1 c7_1 3 1 (List.map encN r2.2.1), .blk b1 24 [.int .i64 a0.layers, .slice A_a0_bounds a0.bounds.length c_a0_bounds]]) [1, 2] (by decide) rfl
        replace R0 := H.ext
        refine CW.loop (fun meas ρ wl5 => ∃ (t8_3 : Int) (t26_1 : Int), core_Clash_L2 a0 r2 meas t8_3 t26_1 = some res ∧ ρ = [(1, .pointer (some (⟨b1, 0, none⟩))), (2, .slice none 0 0), (3, .bool false), (4, .int .i64 0), (7, .slice A7_1 r2.2.1.length c7_1), (8, .int .i64 t8_3), (25, .int .i64 a0.layers), (26, .int .i64 t26_1)] ∧ Hp w wl5 [.own A7_1 c7_1 3 1 (List.map encN r2.2.1), .blk b1 24 [.int .i64 a0.layers, .slice A_a0_bounds a0.bounds.length c_a0_bounds]]) FU ⟨_, ?_, r2.2.2, ((0 : Int)), F, rfl, H⟩ ?_
        · exact ⟨rfl, rfl, rfl, rfl, (look_slice rfl (by first | rfl | (simp; done) | (simp; omega))), rfl, rfl, rfl, trivial⟩
        rintro mk2 _ wl5 ⟨t8_3, t26_1, F, rfl, H⟩
        have R0 := H.ext
        replace F := core_Clash_L2_s F
        obtain ⟨mk2, rfl, F⟩ := F
        generalize hrec2 : core_Clash_L2 a0 r2 mk2 = rec2 at F
        unfold core_Clash_B2 at F
        refine CW.seq fun K19 hK19 => ?_
        refine CW.region ?_
        refine LW.pure rfl rfl (RV.lss rfl rfl) ?_
        refine LW.nil (hK19 _ _ ?_)
        refine CW.seq fun K20 hK20 => ?_
        by_cases hp5 : t26_1 < a0.layers
        ·
          replace F := ite_y hp5 F
          have hq5 := dec_t hp5
          refine CW.condT rfl hq5 ?_
          refine CW.skip (hK20 _ _ ?_)
          refine CW.seq fun K21 hK21 => ?_
          refine CW.block ?_
          obtain ⟨x4, hbx4, hx4, F⟩ := ix_some F
          obtain ⟨x5, hbx5, hx5, F⟩ := ix_some F
          refine CW.draw [] (fun _ => True) (.cons 0 1 (.cons 1 1 (.cons 2 1 (.cons 3 1 (.cons 4 1 (.cons 5 1 (.cons 6 1 (.cons 7 1 (.cons 8 1 (.cons 9 1 .nil)))))))))) mixed (by kernel_rfl) fun w8 E4 => ?_
          replace H := H.grow E4
          replace R0 := H.ext
          refine DW.fix rfl rfl rfl (fun _ EQ => RV.fieldAddr Tf24_1 rfl) ?_
          refine DW.fix rfl rfl rfl (fun _ EQ => RV.load1 Tk22 rfl (((H.grow EQ).blk 1 rfl).cells.off 1) rfl) ?_
          refine DW.fix rfl rfl rfl (fun _ EQ => RV.move rfl) ?_
          refine DW.fix rfl rfl rfl (fun _ EQ => RV.move rfl) ?_
          refine DW.fix rfl rfl rfl (fun _ EQ => RV.indexAddr Ts43 rfl rfl hbx4 ((H.own 0 rfl).sl.addr_ hx4)) ?_
          refine DW.fix rfl rfl rfl (fun _ EQ => RV.load1 Tk3 rfl (((H.grow EQ).own 0 rfl).sl.at_ hx4) rfl) ?_
          refine DW.fix rfl rfl rfl (fun _ EQ => RV.indexAddr Ts22 rfl rfl hbx5 (h_a0_bounds.addr_ hx5)) ?_
          refine DW.fix rfl rfl rfl (fun _ EQ => RV.fieldAddr Tf26_0 rfl) ?_
          refine DW.fix rfl rfl rfl (fun _ EQ => RV.load1 Tk3 rfl (((h_a0_bounds.at_ hx5).ext (R0.trans EQ)).off 0) rfl) ?_
          refine DW.fix rfl rfl rfl (fun _ EQ => RV.assign rfl) ?_
          refine DW.nil (hK21 _ _ ?_)
          obtain ⟨hg2, F⟩ := gd_some F
          refine CW.region ?_
          refine LW.pure rfl rfl (RV.add rfl rfl hg2) ?_
          refine LW.pure rfl rfl (RV.move rfl) ?_
          refine LW.nil ?_
          subst hrec2
          refine ⟨mk2, Nat.lt_succ_self _, _, ?_, x5.a, (t26_1 + 1), F, rfl, H⟩
          exact ⟨rfl, rfl, rfl, rfl, (look_slice rfl (by first | rfl | (simp; done) | (simp; omega))), rfl, rfl, rfl, trivial⟩
        ·
          replace F := ite_n hp5 F
          have hq5 := dec_f hp5
          refine CW.condF rfl hq5 ?_
          refine CW.exit (jK97 _ _ ⟨_, ?_, ⟨t8_3, F, rfl, H⟩⟩)
          exact ⟨rfl, rfl, rfl, rfl, (look_slice rfl (by first | rfl | (simp; done) | (simp; omega))), rfl, trivial⟩
  ·
    replace F := ite_n hp1 F
    have hq1 := dec_f hp1
    refine CW.condT rfl (not_t hq1) ?_
    refine CW.seq fun K22 hK22 => ?_
    refine CW.region ?_
    refine LW.pure rfl rfl (RV.move rfl) ?_
    refine LW.pure rfl rfl (RV.assign rfl) ?_
    refine LW.pure rfl rfl (RV.assign rfl) ?_
    refine LW.pure rfl rfl (RV.assign rfl) ?_
    refine LW.nil (hK22 _ _ ?_)
    refine CW.ret ?_
    obtain rfl := Option.some.inj F
    refine ⟨_, (ResOK.three rfl rfl rfl), ?_⟩
    replace H := H.nilOwn 3 1
    replace R0 := H.ext
    replace H := H.pick (L' := [.own none 0 3 1 (List.map encN (([] : List Int)))]) [0] (by decide) rfl
    replace R0 := H.ext
    exact ⟨none, 0, (by first | rfl | (simp; done) | (simp; omega)), H⟩
end Go.D3

set_option linter.unusedVariables false
namespace Go.D3
open Go.Tb Go.Core
def ref03_Copy (a0 : Core) : Option Core :=
  gd ((([] : List Bound)).length + a0.bounds.length ≤ 1000000) <|
  some ((⟨a0.layers, (([] : List Bound) ++ a0.bounds)⟩ : Core))
def ref03_SameBounds_k1 : Option Bool :=
  some true
def ref03_SameBounds_B1 (a0 : List Bound) (a1 : List Bound) (rec1 : Int → Option Bool) (t5_1 : Int) : Option Bool :=
  if t5_1 < ((a0.length : Int)) then
    ix a0 t5_1 fun x1 =>
    ix a1 t5_1 fun x2 =>
    if ((x1.a == x2.a) && (x1.b == x2.b) && (x1.most == x2.most)) = true then
      gd (InR (t5_1 + 1)) <|
      rec1 ((t5_1 + 1))
    else
      some false
  else
    ref03_SameBounds_k1
def ref03_SameBounds_L1 (a0 : List Bound) (a1 : List Bound) : Nat → Int → Option Bool
  | 0, _ => none
  | n_ + 1, t5_1 => ref03_SameBounds_B1 a0 a1 (ref03_SameBounds_L1 a0 a1 n_) t5_1
def ref03_SameBounds (a0 : List Bound) (a1 : List Bound) : Option Bool :=
  if ((a0.length : Int)) = ((a1.length : Int)) then
    ref03_SameBounds_L1 a0 a1 FU (((0 : Int)))
  else
    some false
end Go.D3

set_option linter.unusedVariables false
set_option linter.unusedSimpArgs false
namespace Go.D3
open Go.Tb Go.Proofs Go.RowKit Go.Core
theorem Te26g : Try.prog.eqGuardType Try.prog.depth 26 = false := by kernel_rfl
theorem Te26 (a0 : Int) (a1 : Int) (a2 : Int) (b0 : Int) (b1 : Int) (b2 : Int) (w : World) : (Op.equalIn 10000 26 (.agg #[.int .i64 a0, .int .i64 a1, .int .i64 a2]) (.agg #[.int .i64 b0, .int .i64 b1, .int .i64 b2])).run Try.prog w = .ok ((a0 == b0) && (a1 == b1) && (a2 == b2)) w := by
  rw [run_equalIn_agg w 9999 26 _ _ (by kernel_rfl) (by kernel_rfl)]
  simp [Program.fieldsOf, Try.underlying26, Op.eqFields, go_sem]
  by_cases h0 : a0 = b0 <;> by_cases h1 : a1 = b1 <;> by_cases h2 : a2 = b2 <;> simp [h0, h1, h2]
end Go.D3

namespace Go.Core
open Go.Tb
def okD (n : Int) : Bool := within n (-1000000) 1000000
def isDatesS (c : Core) (l : List Int) : Bool := decide ((l.length : Int) = c.layers) && l.all okD
def keeps (l : List Int) (x : Bound) : Bool := decide (gi l x.b - gi l x.a ≤ x.most)
def datedE (c : Core) (l : List Int) : Int := if validate c = 0 then (if isDatesS c l = true then 0 else 1) else validate c
def checkDates (c : Core) (l : List Int) : Int := if datedE c l = 0 then (if c.bounds.all (keeps l) = true then 0 else 7) else datedE c l
theorem datedE_ok {c : Core} {l : List Int} (h : datedE c l = 0) : validate c = 0 ∧ (l.length : Int) = c.layers ∧ ∀ n ∈ l, -1000000 ≤ n ∧ n ≤ 1000000 := by
  unfold datedE at h
  split at h
  · rename_i hv
    split at h
    · rename_i hd
      simp only [isDatesS, Bool.and_eq_true, decide_eq_true_eq] at hd
      exact ⟨hv, hd.1, fun n hn => within_iff.1 (List.all_eq_true.1 hd.2 n hn)⟩
    · omega
  · rename_i hv; exact absurd h hv
end Go.Core

set_option linter.unusedVariables false
set_option linter.unusedSimpArgs false
namespace Go.D3
open Go.Tb Go.Core
theorem within_eq (n lo hi : Int) : core_within n lo hi = some (within n lo hi) := by
  unfold core_within within
  by_cases h : lo ≤ n <;> simp [h]
theorem rwithin_eq (n lo hi : Int) : ref03_within n lo hi = some (within n lo hi) := by
  unfold ref03_within within
  by_cases h : lo ≤ n <;> simp [h]
theorem right_eq (x : Bound) (n : Int) (h : 1 ≤ n ∧ n ≤ 8) : core_right x n = some (right x n) := by
  unfold core_right right
  rw [gd_pos (by omega), bnd_eq (within_eq _ _ _)]
  cases h1 : within x.a 0 (n - 1) <;> simp only [Bool.false_and, Bool.true_and, Bool.false_eq_true, if_false, if_true]
  rw [gd_pos (by omega), bnd_eq (within_eq _ _ _)]
  cases h2 : within x.b 0 (n - 1) <;> simp only [Bool.false_and, Bool.true_and, Bool.false_eq_true, if_false, if_true]
  by_cases h3 : x.a = x.b <;> simp [h3, within_eq]
theorem isBound_eq (x : Bound) (n : Int) (h : 1 ≤ n ∧ n ≤ 8) : ref03_isBound x n = some (right x n) := by
  unfold ref03_isBound right
  rw [gd_pos (by omega), bnd_eq (rwithin_eq _ _ _)]
  cases h1 : within x.a 0 (n - 1) <;> simp only [Bool.false_and, Bool.true_and, Bool.false_eq_true, if_false, if_true]
  rw [gd_pos (by omega), bnd_eq (rwithin_eq _ _ _)]
  cases h2 : within x.b 0 (n - 1) <;> simp only [Bool.false_and, Bool.true_and, Bool.false_eq_true, if_false, if_true]
  by_cases h3 : x.a = x.b <;> simp [h3, rwithin_eq]
/-- A loop over a list that stops at the first element for which p does not hold. -/
theorem all_loop {α R : Type} (l : List α) (p : α → Bool) (L : Nat → Int → Option R) (yes no : Option R)
    (step : ∀ (n i : Nat) (x : α), l[i]? = some x → L (n + 1) (i : Int) = if p x = true then L n ((i + 1 : Nat) : Int) else no)
    (stop : ∀ n : Nat, L (n + 1) (l.length : Int) = yes) : ∀ (d n i : Nat), l.length = i + d → d < n → L n (i : Int) = if (l.drop i).all p = true then yes else no
  | 0, n + 1, i, hd, hn => by
    have hi : i = l.length := by omega
    subst hi
    rw [stop n, List.drop_length]
    simp
  | d + 1, n + 1, i, hd, hn => by
    have hlt : i < l.length := by omega
    rw [step n i l[i] (by simp [hlt])]
    have hdrop : l.drop i = l[i] :: l.drop (i + 1) := List.drop_eq_getElem_cons hlt
    rw [hdrop, List.all_cons]
    cases hp : p l[i]
    · simp
    · simp only [if_true, Bool.true_and]
      exact all_loop l p L yes no step stop d n (i + 1) (by omega) (by omega)
theorem all_loop0 {α R : Type} (l : List α) (p : α → Bool) (L : Nat → Int → Option R) (yes no : Option R)
    (step : ∀ (n i : Nat) (x : α), l[i]? = some x → L (n + 1) (i : Int) = if p x = true then L n ((i + 1 : Nat) : Int) else no)
    (stop : ∀ n : Nat, L (n + 1) (l.length : Int) = yes) (hl : l.length ≤ 1000000) : L FU 0 = if l.all p = true then yes else no := by
  have := all_loop l p L yes no step stop l.length FU 0 (by omega) (by have := FU_pos; omega)
  simpa using this
theorem Validate_eq (c : Core) (hl : c.bounds.length ≤ 100) : core_Validate c = some (validate c) := by
  unfold core_Validate validate
  rw [bnd_eq (within_eq _ _ _)]
  cases h1 : within c.layers 1 8 <;> simp only [Bool.false_eq_true, Bool.true_eq_false, if_false, if_true]
  have h1' := Core.within_iff.1 h1
  by_cases h2 : (20 : Int) < c.bounds.length
  · rw [if_pos h2, if_pos h2]
  · rw [if_neg h2, if_neg h2]
    rw [all_loop0 c.bounds (fun x => right x c.layers) (core_Validate_L1 c) (some 0) (some 1) ?_ ?_ (by omega)]
    · split <;> rfl
    · intro n i x hx
      have := lt_of_at hx
      show core_Validate_B1 c (core_Validate_L1 c n) i = _
      unfold core_Validate_B1
      rw [if_pos (by omega), ix_nat hx, bnd_eq (right_eq _ _ h1'), gd_pos (by omega)]
      rfl
    · intro n
      show core_Validate_B1 c (core_Validate_L1 c n) _ = _
      unfold core_Validate_B1
      rw [if_neg (by omega)]; rfl
theorem rValidate_eq (c : Core) (hl : c.bounds.length ≤ 100) : ref03_Validate c = some (validate c) := by
  unfold ref03_Validate validate
  rw [bnd_eq (rwithin_eq _ _ _)]
  cases h1 : within c.layers 1 8 <;> simp only [Bool.false_eq_true, Bool.true_eq_false, if_false, if_true]
  have h1' := Core.within_iff.1 h1
  by_cases h2 : (20 : Int) < c.bounds.length
  · rw [if_pos h2, if_pos h2]
  · rw [if_neg h2, if_neg h2]
    rw [all_loop0 c.bounds (fun x => right x c.layers) (ref03_Validate_L1 c) (some 0) (some 1) ?_ ?_ (by omega)]
    · split <;> rfl
    · intro n i x hx
      have := lt_of_at hx
      show ref03_Validate_B1 c (ref03_Validate_L1 c n) i = _
      unfold ref03_Validate_B1
      rw [if_pos (by omega), ix_nat hx, bnd_eq (isBound_eq _ _ h1'), gd_pos (by omega)]
      rfl
    · intro n
      show ref03_Validate_B1 c (ref03_Validate_L1 c n) _ = _
      unfold ref03_Validate_B1
      rw [if_neg (by omega)]; rfl
/-- The inner loop of relax, whatever comes behind it. -/
theorem relax_inner {c : Core} (hv : validate c = 0) (i : Int) (rec1 : Int → Int → List Int → List Int → Option (List Int × List Int × Int)) {s : RS} {B : Int} (hB : 0 ≤ B ∧ B ≤ 100000000) (hs : RInv c.layers.toNat B s) :
    ∀ (d n j : Nat), c.bounds.length = j + d → d < n → core_relax_L1 c i rec1 n (relaxTo c.bounds s j).2.2 (j : Int) (relaxTo c.bounds s j).1 (relaxTo c.bounds s j).2.1 =
      core_relax_k2 i rec1 (relaxTo c.bounds s c.bounds.length).2.2 (relaxTo c.bounds s c.bounds.length).1 (relaxTo c.bounds s c.bounds.length).2.1
  | 0, n + 1, j, hd, hn => by
    have hj : j = c.bounds.length := by omega
    subst hj
    show core_relax_B1 c i rec1 (core_relax_L1 c i rec1 n) _ _ _ _ = _
    unfold core_relax_B1
    rw [if_neg (by omega)]
  | d + 1, n + 1, j, hd, hn => by
    have hlt : j < c.bounds.length := by omega
    obtain ⟨x, hx⟩ := ex_at hlt
    have hlen := (validate_ok hv).2.2.1
    have hr := bound_ok hv hx
    have hI := relaxTo_inv hv hs hB.1 j
    have ih := relax_inner hv i rec1 hB hs d n (j + 1) (by omega) (by omega)
    generalize hst : relaxTo c.bounds s j = st at *
    obtain ⟨da, ha⟩ := ex_at (l := st.1) (j := x.a.toNat) (by rw [hI.l1]; omega)
    obtain ⟨db, hb⟩ := ex_at (l := st.1) (j := x.b.toNat) (by rw [hI.l1]; omega)
    obtain ⟨kb, hk⟩ := ex_at (l := st.2.1) (j := x.b.toNat) (by rw [hI.l2]; omega)
    have ba := hI.at_ ha
    show core_relax_B1 c i rec1 (core_relax_L1 c i rec1 n) _ _ _ _ = _
    unfold core_relax_B1
    rw [if_pos (by omega), ix_nat hx, ix_eq (by omega) ha, gd_pos (by omega), ix_eq (by omega) hb]
    have hnext : relaxTo c.bounds s (j + 1) = relaxB st j x := by rw [relaxTo_succ hx, hst]
    rw [hnext] at ih
    unfold relaxB at ih
    rw [gi_of ha, gi_of hb] at ih
    by_cases h : da + x.most < db
    · rw [if_pos h] at ih ⊢
      rw [ix_eq (by omega) ha, gd_pos (by omega), ix_eq (by omega) hb, ix_eq (by omega) hk]
      unfold core_relax_k3
      rw [gd_pos (by omega)]
      exact ih
    · rw [if_neg h] at ih ⊢
      unfold core_relax_k3
      rw [gd_pos (by omega)]
      exact ih
theorem relax_outer {c : Core} (hv : validate c = 0) : ∀ (d n i : Nat), c.layers.toNat = i + d → d < n → core_relax_L2 c n (relaxN c i).2.2 (i : Int) (relaxN c i).1 (relaxN c i).2.1 = some (relax c)
  | 0, n + 1, i, hd, hn => by
    have hi : i = c.layers.toNat := by omega
    subst hi
    have := validate_ok hv
    show core_relax_B2 c (core_relax_L2 c n) _ _ _ _ = _
    unfold core_relax_B2
    rw [if_neg (by omega)]
    rfl
  | d + 1, n + 1, i, hd, hn => by
    have hvo := validate_ok hv
    have ih := relax_outer hv d n (i + 1) (by omega) (by omega)
    have hI := relaxN_inv hv i
    show core_relax_B2 c (core_relax_L2 c n) _ _ _ _ = _
    unfold core_relax_B2
    rw [if_pos (by omega)]
    have := relax_inner hv (i : Int) (core_relax_L2 c n) (s := ((relaxN c i).1, (relaxN c i).2.1, -1)) (B := 200000 * (i : Int)) (by omega) ⟨hI.l1, hI.l2, hI.low⟩ c.bounds.length FU 0 (by omega) (by have := FU_pos; omega)
    simp only [relaxTo, Int.ofNat_zero] at this
    refine Eq.trans this ?_
    unfold core_relax_k2
    rw [gd_pos (by omega)]
    exact ih
theorem relax_eq {c : Core} (hv : validate c = 0) : core_relax c = some (relax c) := by
  have hvo := validate_ok hv
  unfold core_relax
  have hrep : slices_Repeat_int [-1] c.layers = some (List.replicate c.layers.toNat (-1)) := by
    unfold slices_Repeat_int; simp only; rw [gd_pos (by omega)]
  rw [gd_pos (by omega), bnd_eq hrep]
  have := relax_outer hv c.layers.toNat FU 0 (by omega) (by have := FU_pos; omega)
  simpa [relaxN] using this
theorem clashes_eq {c : Core} (hv : validate c = 0) : core_clashes c = some (clashes c) := by
  unfold core_clashes
  rw [bnd_eq (relax_eq hv)]
  rfl
end Go.D3

set_option linter.unusedVariables false
set_option linter.unusedSimpArgs false
namespace Go.D3
open Go.Tb Go.Core
theorem walks_inner {c : Core} (hv : validate c = 0) (a r : Nat) (hr : r ≤ 8) (m7 : List (List Int)) (m8 : List (List Bool)) (rec2 : Int → List (List Int) → List (List Bool) → Option (List (List Int) × List (List Bool)))
    (h7 : m7[a]? = some (wN c a r).1) (h8 : m8[a]? = some (wN c a r).2) :
    ref03_walks_L1 c a r m7 m8 rec2 FU 0 (wN c a r).1 (wN c a r).2 = ref03_walks_k4 a r m7 m8 rec2 (wN c a (r + 1)).1 (wN c a (r + 1)).2 := by
  have hvo := validate_ok hv
  refine for_loop0 c.bounds.length (fun i => wTo c.bounds (wN c a r) i) (fun n s i => ref03_walks_L1 c a r m7 m8 rec2 n i s.1 s.2) _ (fun n i hi => ?_) (fun n => ?_) (by omega)
  · obtain ⟨x, hx⟩ := ex_at hi
    have hb := bound_ok hv hx
    have hp := wN_inv' hv a hr
    have hs := wTo_inv' hv a hr i
    show ref03_walks_B1 c a r m7 m8 rec2 (ref03_walks_L1 c a r m7 m8 rec2 n) _ _ _ = _
    simp only [wTo_succ hx]
    generalize wTo c.bounds (wN c a r) i = s at hs ⊢
    generalize wN c a r = p at *
    obtain ⟨da, ha⟩ := ex_at (l := p.1) (j := x.a.toNat) (by rw [hp.l1]; omega)
    obtain ⟨ka, hka⟩ := ex_at (l := p.2) (j := x.a.toNat) (by rw [hp.l2]; omega)
    obtain ⟨db, hdb⟩ := ex_at (l := s.1) (j := x.b.toNat) (by rw [hs.l1]; omega)
    obtain ⟨kb, hkb⟩ := ex_at (l := s.2) (j := x.b.toNat) (by rw [hs.l2]; omega)
    have bd := hp.at_ ha
    unfold ref03_walks_B1 wB
    rw [gb_of hka, gb_of hkb, gi_of ha, gi_of hdb]
    rw [if_pos (by omega), ix_nat hx, ix_nat h7, ix_eq (by omega) ha, gd_pos (by omega), ix_nat h8, ix_eq (by omega) hka]
    unfold ref03_walks_k6 ref03_walks_k5
    cases ka <;> cases kb <;> simp only [Bool.false_eq_true, if_false, if_true, Bool.true_and, Bool.false_and, Bool.not_false, Bool.not_true, Bool.true_or, Bool.false_or]
    · rw [gd_pos (by omega)]; rfl
    · rw [gd_pos (by omega)]; rfl
    · rw [ix_eq (by omega) hkb]
      simp only [Bool.false_eq_true, if_false, if_true]
      rw [ix_eq (by omega) hdb, ix_eq (by omega) hkb, gd_pos (by omega)]; rfl
    · rw [ix_eq (by omega) hkb, if_pos rfl, ix_eq (by omega) hdb]
      by_cases hlt : da + x.most < db
      · simp only [hlt, decide_true, if_true]
        rw [ix_eq (by omega) hdb, ix_eq (by omega) hkb, gd_pos (by omega)]; rfl
      · simp only [hlt, decide_false, Bool.false_eq_true, if_false]
        rw [gd_pos (by omega)]; rfl
  · show ref03_walks_B1 c a r m7 m8 rec2 (ref03_walks_L1 c a r m7 m8 rec2 n) _ _ _ = _
    unfold ref03_walks_B1
    rw [if_neg (by omega)]
    rfl
theorem walks_mid {c : Core} (hv : validate c = 0) (k : Int) (hk : 0 ≤ k ∧ k ≤ 8) (a : Nat) (rec1 : Int → List (List Int) → List (List Bool) → Option (List (List Int) × List (List Bool)))
    (M7 : List (List Int)) (M8 : List (List Bool)) (l7 : a < M7.length) (l8 : a < M8.length) :
    ref03_walks_L2 c k a rec1 FU 0 (M7.set a (wN c a 0).1) (M8.set a (wN c a 0).2) = ref03_walks_k2 a rec1 (M7.set a (wN c a k.toNat).1) (M8.set a (wN c a k.toNat).2) := by
  have hvo := validate_ok hv
  refine for_loop0 k.toNat (fun r => (M7.set a (wN c a r).1, M8.set a (wN c a r).2)) (fun n s i => ref03_walks_L2 c k a rec1 n i s.1 s.2) _ (fun n r hr => ?_) (fun n => ?_) (by omega)
  · have h7 : (M7.set a (wN c a r).1)[a]? = some (wN c a r).1 := List.getElem?_set_self l7
    have h8 : (M8.set a (wN c a r).2)[a]? = some (wN c a r).2 := List.getElem?_set_self l8
    have hp := wN_inv' hv a (k := r) (by omega)
    show ref03_walks_B2 c k a rec1 (ref03_walks_L2 c k a rec1 n) _ _ _ = _
    unfold ref03_walks_B2
    simp only
    rw [if_pos (by omega), ix_nat h7, gd_pos (by have := hp.l1; simp; omega), ix_nat h8, gd_pos (by have := hp.l2; simp; omega)]
    unfold ref03_walks_k7
    rw [List.nil_append, List.nil_append, walks_inner hv a r (by omega) _ _ _ h7 h8]
    unfold ref03_walks_k4
    rw [ix_nat h7, ix_nat h8]
    unfold ref03_walks_k3
    rw [gd_pos (by omega)]
    simp only [Int.toNat_natCast, List.set_set]
    rfl
  · show ref03_walks_B2 c k a rec1 (ref03_walks_L2 c k a rec1 n) _ _ _ = _
    unfold ref03_walks_B2
    rw [if_neg (by omega)]
theorem walks_eq {c : Core} (hv : validate c = 0) (k : Int) (hk : 0 ≤ k ∧ k ≤ 8) : ref03_walks c k = some (wsT c k.toNat c.layers.toNat, wkT c k.toNat c.layers.toNat) := by
  have hvo := validate_ok hv
  unfold ref03_walks
  rw [gd_pos (by omega), gd_pos (by omega)]
  unfold ref03_walks_k9
  refine for_loop0 c.layers.toNat (fun a => (wsT c k.toNat a, wkT c k.toNat a)) (fun n s i => ref03_walks_L3 c k n i s.1 s.2) _ (fun n a ha => ?_) (fun n => ?_) (by omega)
  · have l1 := wsT_len c k.toNat a
    have l2 := wkT_len c k.toNat a
    obtain ⟨x, hx⟩ := ex_at (l := wsT c k.toNat a) (j := a) (by omega)
    obtain ⟨y, hy⟩ := ex_at (l := wkT c k.toNat a) (j := a) (by omega)
    show ref03_walks_B3 c k (ref03_walks_L3 c k n) _ _ _ = _
    unfold ref03_walks_B3
    simp only
    rw [if_pos (by omega), gd_pos (by omega), gd_pos (by omega), ix_nat hx, ix_nat hy]
    unfold ref03_walks_k8
    simp only [Int.toNat_natCast]
    rw [ix_nat (List.getElem?_set_self (by omega)), ix_nat (x := false) (by simp [List.getElem?_replicate]; omega), List.set_set]
    have := walks_mid hv k hk a (ref03_walks_L3 c k n) (wsT c k.toNat a) (wkT c k.toNat a) (by omega) (by omega)
    simp only [wN] at this
    refine Eq.trans this ?_
    unfold ref03_walks_k2
    rw [gd_pos (by omega)]
    rfl
  · show ref03_walks_B3 c k (ref03_walks_L3 c k n) _ _ _ = _
    unfold ref03_walks_B3
    rw [if_neg (by omega)]
    rfl
theorem rclashes_eq {c : Core} (hv : validate c = 0) : ref03_clashes c = some (rclash c) := by
  have hvo := validate_ok hv
  unfold ref03_clashes
  rw [bnd_eq (walks_eq hv c.layers (by omega))]
  have h := scan_loop0 c.layers.toNat (fun a => !decide (gi (wN c a c.layers.toNat).1 a < 0)) (fun _ => ()) (fun n _ i => ref03_clashes_L1 c (wsT c c.layers.toNat c.layers.toNat, wkT c c.layers.toNat c.layers.toNat) n i) (some false) (some true) (fun n a ha => ?_) (fun n => ?_) (by omega)
  · refine Eq.trans h ?_
    unfold rclash
    by_cases hc : ∀ j, j < c.layers.toNat → (!decide (gi (wN c j c.layers.toNat).1 j < 0)) = true
    · rw [if_pos hc]
      congr 1
      symm
      rw [List.any_eq_false]
      intro a ha
      have := hc a (List.mem_range.1 ha)
      simpa using this
    · rw [if_neg hc]
      congr 1
      symm
      rw [List.any_eq_true]
      simp only [Bool.not_eq_true', decide_eq_false_iff_not] at hc
      obtain ⟨j, hj⟩ := Classical.not_forall.1 hc
      obtain ⟨h1, h2⟩ := Classical.not_imp.1 hj
      exact ⟨j, List.mem_range.2 h1, by simpa using h2⟩
  · show ref03_clashes_B1 c _ (ref03_clashes_L1 c _ n) _ = _
    unfold ref03_clashes_B1
    have hr := wsT_at c c.layers.toNat c.layers.toNat (Nat.le_refl _) a ha
    have hp := wN_inv' hv a (k := c.layers.toNat) (by omega)
    obtain ⟨d, hd⟩ := ex_at (l := (wN c a c.layers.toNat).1) (j := a) (by rw [hp.l1]; omega)
    rw [if_pos (by omega), ix_nat hr, ix_nat hd, gd_pos (by omega)]
    have : gi (wN c a c.layers.toNat).1 a = d := by simp [gi, List.getD, hd]
    rw [this]
    by_cases h0 : d < 0 <;> simp [h0]
  · show ref03_clashes_B1 c _ (ref03_clashes_L1 c _ n) _ = _
    unfold ref03_clashes_B1
    rw [if_neg (by omega)]
    rfl
theorem IsPossible_eq (c : Core) (hl : c.bounds.length ≤ 100) : core_IsPossible c = some (if validate c = 0 then (!clashes c, 0) else (false, validate c)) := by
  unfold core_IsPossible
  rw [bnd_eq (Validate_eq c hl)]
  by_cases hv : validate c = 0
  · rw [if_pos hv, if_pos hv, bnd_eq (clashes_eq hv)]
  · rw [if_neg hv, if_neg hv]
theorem dated1_eq (n : Int) : core_dated_1 n = some (!okD n) := by
  unfold core_dated_1; rw [bnd_eq (within_eq _ _ _)]; rfl
theorem ContainsFunc_eq (l : List Int) (hl : l.length ≤ 1000000) : slices_ContainsFunc_int l core_dated_1 = some (!(l.all okD)) := by
  unfold slices_ContainsFunc_int slices_IndexFunc_int
  have h := scan_loop l.length (fun i => (l[i]?.map okD).getD true) (fun _ => ()) (fun n _ i => slices_IndexFunc_int_L1 l core_dated_1 n i) (some (-1)) (fun j => some (j : Int)) (fun n i hi => ?_) (fun n => ?_) l.length FU 0 (by omega) (by have := FU_pos; omega)
  · rw [bnd_eq (x := match (List.range' 0 l.length).find? (fun j => !((l[j]?.map okD).getD true)) with | none => -1 | some j => (j : Int)) (by
      refine Eq.trans h ?_
      cases (List.range' 0 l.length).find? (fun j => !((l[j]?.map okD).getD true)) <;> rfl)]
    congr 1
    cases hf : (List.range' 0 l.length).find? (fun j => !((l[j]?.map okD).getD true)) with
    | none =>
      have := find_all.1 hf
      have ha : l.all okD = true := List.all_eq_true.2 fun x hx => by
        obtain ⟨j, hj⟩ := List.getElem?_of_mem hx
        have := this j (by omega) (by have := lt_of_at hj; omega)
        simpa [hj] using this
      simp [ha]
    | some j =>
      have h1 := List.find?_some hf
      have h2 := List.mem_of_find?_eq_some hf
      rw [List.mem_range'_1] at h2
      have hx : l[j]? = some l[j] := List.getElem?_eq_getElem (by omega)
      rw [hx] at h1
      have ha : l.all okD = false := by
        rw [List.all_eq_false]
        exact ⟨l[j], List.getElem_mem _, by simpa using h1⟩
      simp [ha]
  · show slices_IndexFunc_int_B1 l core_dated_1 (slices_IndexFunc_int_L1 l core_dated_1 n) _ = _
    have hx : l[i]? = some l[i] := by simp [hi]
    unfold slices_IndexFunc_int_B1
    rw [if_pos (by omega), ix_nat hx, bnd_eq (dated1_eq _), gd_pos (by omega), hx]
    cases h : okD l[i] <;> simp [h]
  · show slices_IndexFunc_int_B1 l core_dated_1 (slices_IndexFunc_int_L1 l core_dated_1 n) _ = _
    unfold slices_IndexFunc_int_B1
    rw [if_neg (by omega)]; rfl
theorem dated_eq (c : Core) (l : List Int) (hc : c.bounds.length ≤ 100) (hl : l.length ≤ 1000000) : core_dated c l = some (datedE c l) := by
  unfold core_dated datedE
  rw [bnd_eq (Validate_eq c hc)]
  by_cases hv : validate c = 0
  · rw [if_pos hv, if_pos hv, bnd_eq (ContainsFunc_eq l hl)]
    unfold core_dated_k1 isDatesS
    by_cases h : (l.length : Int) = c.layers
    · rw [if_pos h]; cases l.all okD <;> simp [h]
    · rw [if_neg h]; simp [h]
  · rw [if_neg hv, if_neg hv]
theorem keep_loop (c : Core) (l : List Int) (hd : datedE c l = 0) {x : Bound} {i : Nat} (hx : c.bounds[i]? = some x) : ∃ p q, l[x.b.toNat]? = some p ∧ l[x.a.toNat]? = some q ∧ InR (p - q) ∧ 0 ≤ x.a ∧ 0 ≤ x.b ∧ (keeps l x = !decide (x.most < p - q)) := by
  obtain ⟨hv, h1, h2⟩ := datedE_ok hd
  have hb := bound_ok hv hx
  obtain ⟨p, hp⟩ := ex_at (l := l) (j := x.b.toNat) (by omega)
  obtain ⟨q, hq⟩ := ex_at (l := l) (j := x.a.toNat) (by omega)
  have b1 := h2 p (List.mem_of_getElem? hp)
  have b2 := h2 q (List.mem_of_getElem? hq)
  refine ⟨p, q, hp, hq, by omega, hb.1, hb.2.2.1, ?_⟩
  unfold keeps
  rw [gi_of hp, gi_of hq]
  by_cases h : x.most < p - q
  · simp [h]
  · simp [h]; omega
theorem CheckDates_eq (c : Core) (l : List Int) (hc : c.bounds.length ≤ 100) (hl : l.length ≤ 1000000) : core_CheckDates c l = some (checkDates c l) := by
  unfold core_CheckDates checkDates
  rw [bnd_eq (dated_eq c l hc hl)]
  by_cases hd : datedE c l = 0
  · rw [if_pos hd, if_pos hd, list_loop0 c.bounds (keeps l) (core_CheckDates_L1 c l) (some 0) (some 7) (fun n i x hx => ?_) (fun n => ?_) (by omega)]
    · split <;> rfl
    · have hi := lt_of_at hx
      obtain ⟨p, q, hp, hq, hr, ha, hb, hk⟩ := keep_loop c l hd hx
      show core_CheckDates_B1 c l (core_CheckDates_L1 c l n) _ = _
      unfold core_CheckDates_B1
      rw [if_pos (by omega), ix_nat hx, ix_eq hb hp, ix_eq ha hq, gd_pos hr, gd_pos (by omega), hk]
      by_cases h : x.most < p - q <;> simp [h]
    · show core_CheckDates_B1 c l (core_CheckDates_L1 c l n) _ = _
      unfold core_CheckDates_B1
      rw [if_neg (by omega)]; rfl
  · rw [if_neg hd, if_neg hd]
end Go.D3

set_option linter.unusedVariables false
set_option linter.unusedSimpArgs false
namespace Go.D3
open Go.Tb Go.Core
theorem wt_ge {c : Core} (hv : validate c = 0) {u v : Nat} {e : List Bound} (h : Path c u e v) : -10000 * (e.length : Int) ≤ wt e := by
  induction h with
  | nil => simp [wt]
  | cons hx _ ih =>
    obtain ⟨j, hj⟩ := List.getElem?_of_mem hx
    have := bound_ok hv hj
    simp only [wt, List.length_cons]
    omega
theorem ds_ge {c : Core} (hv : validate c = 0) (hc : clashes c = false) {v : Nat} (hn : v < c.layers.toNat) : -80000 ≤ ds (relax c) v := by
  have hl := lay_of hv
  have hvo := validate_ok hv
  obtain ⟨u, e, hu, hp, hw⟩ := relaxN_real hl c.layers.toNat v hn
  obtain ⟨e', hp', hl', hw'⟩ := Path.short hl (noNeg_of hl (by rw [← clash_iff hv]; exact hc)) hu e.length e (Nat.le_refl _) hp
  have := wt_ge hv hp'
  have e1 : wt e = ds (relax c) v := hw
  omega
theorem dates_keep {c : Core} (hv : validate c = 0) (hc : clashes c = false) : checkDates c (relax c).1 = 0 := by
  have hvo := validate_ok hv
  have hI := relaxN_inv hv c.layers.toNat
  have hd : datedE c (relax c).1 = 0 := by
    unfold datedE
    rw [if_pos hv, if_pos]
    unfold isDatesS
    rw [Bool.and_eq_true]
    refine ⟨?_, List.all_eq_true.2 fun d hd => ?_⟩
    · have : (relax c).1.length = c.layers.toNat := hI.l1
      simp [this]; omega
    · obtain ⟨j, hj⟩ := List.getElem?_of_mem hd
      have h1 := hI.low d hd
      have h2 := ds_ge hv hc (v := j) (by have := lt_of_at hj; have : (relax c).1.length = c.layers.toNat := hI.l1; omega)
      have h3 : ds (relax c) j = d := by simp [ds, List.getD, hj]
      unfold okD
      rw [Core.within_iff]
      omega
  unfold checkDates
  rw [if_pos hd, if_pos]
  refine List.all_eq_true.2 fun x hx => ?_
  have := relax_quiet hv hc x hx
  unfold keeps
  simpa using this
theorem Dates_eq (c : Core) (hl : c.bounds.length ≤ 100) : core_Dates c = some (if validate c = 0 then (if clashes c = true then ([], false, 0) else ((relax c).1, true, 0)) else ([], false, validate c)) := by
  unfold core_Dates
  rw [bnd_eq (Validate_eq c hl)]
  by_cases hv : validate c = 0
  · rw [if_pos hv, if_pos hv, bnd_eq (relax_eq hv)]
    unfold clashes
    by_cases h : 0 ≤ (relax c).2.2 <;> simp [h]
  · rw [if_neg hv, if_neg hv]
theorem Long_eq (c : Core) : law03_Long c = some (decide ((100 : Int) < c.bounds.length)) := rfl
def flip (x : Bound) : Bound := ⟨x.b, x.a, x.most⟩
def turn (c : Core) : Core := ⟨c.layers, c.bounds.map flip⟩
theorem Copy_eq (c : Core) (hl : c.bounds.length ≤ 1000000) : ref03_Copy c = some c := by
  unfold ref03_Copy
  rw [gd_pos (by simpa using hl)]
  simp
end Go.D3

set_option linter.unusedVariables false
set_option linter.unusedSimpArgs false
namespace Go.D3
open Go.Tb Go.Core
theorem clash_path {c : Core} (hv : validate c = 0) : clashes c = true ↔ ∃ u e, u < c.layers.toNat ∧ Path c u e u ∧ wt e < 0 := by
  constructor
  · intro h
    exact neg_of (lay_of hv) (by rw [← clash_iff hv]; exact h)
  · rintro ⟨u, e, hu, hp, hw⟩
    cases hc : clashes c with
    | true => rfl
    | false =>
      have := hp.pot (pot_of hv hc)
      omega
end Go.D3

set_option linter.unusedVariables false
set_option linter.unusedSimpArgs false
namespace Go.D3
open Go.Tb Go.Core
def bAt (c : Core) (k : Int) : Bound := c.bounds.getD k.toNat ⟨0, 0, 0⟩
theorem bAt_of {c : Core} {k : Int} {x : Bound} (h : c.bounds[k.toNat]? = some x) : bAt c k = x := by simp [bAt, List.getD, h]
def nx (l : List Int) (i : Nat) : Int := l.getD ((i + 1) % l.length) 0
def link (c : Core) (l : List Int) (i : Nat) : Bool := decide ((bAt c (l.getD i 0)).b = (bAt c (nx l i)).a)
def msum (c : Core) (l : List Int) : Nat → Int
  | 0 => 0
  | i + 1 => msum c l i + (bAt c (l.getD i 0)).most
def checkClash (c : Core) (l : List Int) : Int :=
  if validate c = 0 then
    if (20 : Int) < l.length then 3
    else if l.all (fun k => within k 0 ((c.bounds.length : Int) - 1)) = true then (if (∀ j, j < l.length → link c l j = true) then (if 0 ≤ msum c l l.length then 7 else 0) else 7) else 4
  else validate c
theorem msum_bnd {c : Core} (hv : validate c = 0) {l : List Int} (hw : l.all (fun k => within k 0 ((c.bounds.length : Int) - 1)) = true) : ∀ i, i ≤ l.length → -10000 * (i : Int) ≤ msum c l i ∧ msum c l i ≤ 10000 * (i : Int)
  | 0, _ => by simp [msum]
  | i + 1, hi => by
    have ih := msum_bnd hv hw i (by omega)
    obtain ⟨k, hk⟩ := ex_at (l := l) (j := i) (by omega)
    have hin := Core.within_iff.1 (List.all_eq_true.1 hw k (List.mem_of_getElem? hk))
    obtain ⟨x, hx⟩ := ex_at (l := c.bounds) (j := k.toNat) (by omega)
    have hb := bound_ok hv hx
    have e : l.getD i 0 = k := by simp [List.getD, hk]
    simp only [msum, e, bAt_of hx]
    omega
theorem round_at {c : Core} (hv : validate c = 0) {l : List Int} (hw : l.all (fun k => within k 0 ((c.bounds.length : Int) - 1)) = true) {i : Nat} (hi : i < l.length) : ∃ k x, l[i]? = some k ∧ 0 ≤ k ∧ c.bounds[k.toNat]? = some x ∧ l.getD i 0 = k ∧ bAt c k = x ∧ -10000 ≤ x.most ∧ x.most ≤ 10000 := by
  obtain ⟨k, hk⟩ := ex_at hi
  have hin := Core.within_iff.1 (List.all_eq_true.1 hw k (List.mem_of_getElem? hk))
  obtain ⟨x, hx⟩ := ex_at (l := c.bounds) (j := k.toNat) (by omega)
  have hb := bound_ok hv hx
  exact ⟨k, x, hk, hin.1, hx, by simp [List.getD, hk], bAt_of hx, by omega, by omega⟩
theorem tmod_nat (i n : Nat) : Int.tmod ((i : Int) + 1) (n : Int) = (((i + 1) % n : Nat) : Int) := by
  have := Int.ofNat_tmod (i + 1) n
  rw [this]; rfl
theorem CheckClash_eq (c : Core) (l : List Int) (hc : c.bounds.length ≤ 100) (hl : l.length ≤ 100) : core_CheckClash c l = some (checkClash c l) := by
  unfold core_CheckClash checkClash
  rw [bnd_eq (Validate_eq c hc)]
  by_cases hv : validate c = 0
  · rw [if_pos hv, if_pos hv]
    by_cases h20 : (20 : Int) < l.length
    · rw [if_pos h20, if_pos h20]
    · rw [if_neg h20, if_neg h20]
      rw [list_loop0 l (fun k => within k 0 ((c.bounds.length : Int) - 1)) (core_CheckClash_L2 c l) (core_CheckClash_k2 c l) (some 4) (fun n i x hx => ?_) (fun n => ?_) (by omega)]
      · by_cases hw : l.all (fun k => within k 0 ((c.bounds.length : Int) - 1)) = true
        · rw [if_pos hw, if_pos hw]
          unfold core_CheckClash_k2
          have h := scan_loop0 l.length (link c l) (msum c l) (fun n s i => core_CheckClash_L1 c l n s i) (core_CheckClash_k1 (msum c l l.length)) (some 7) (fun n i hi => ?_) (fun n => ?_) (by omega)
          · refine Eq.trans h ?_
            unfold core_CheckClash_k1
            by_cases ha : ∀ j, j < l.length → link c l j = true
            · rw [if_pos ha, if_pos ha]; by_cases h0 : 0 ≤ msum c l l.length <;> simp [h0]
            · rw [if_neg ha, if_neg ha]
          · obtain ⟨k, x, hk, h0, hx, e1, e2, m1, m2⟩ := round_at hv hw hi
            have hmod : (i + 1) % l.length < l.length := Nat.mod_lt _ (by omega)
            obtain ⟨k', x', hk', h0', hx', e1', e2', _, _⟩ := round_at hv hw hmod
            have hs := msum_bnd hv hw i (by omega)
            show core_CheckClash_B1 c l (core_CheckClash_L1 c l n) _ _ = _
            unfold core_CheckClash_B1
            rw [if_pos (by omega), ix_nat hk, gd_pos (by omega), tmod_nat, gd_pos (by omega), ix_nat hk', ix_eq h0' hx', ix_eq h0 hx]
            unfold link nx
            rw [e1, e2, e1', e2']
            by_cases hb : x.b = x'.a
            · rw [if_pos hb, ix_eq h0 hx, gd_pos (by omega), gd_pos (by omega), if_pos (by simpa using hb)]
              have : msum c l (i + 1) = msum c l i + x.most := by simp only [msum, e1, e2]
              rw [this]; rfl
            · rw [if_neg hb, if_neg (by simpa using hb)]
          · show core_CheckClash_B1 c l (core_CheckClash_L1 c l n) _ _ = _
            unfold core_CheckClash_B1
            rw [if_neg (by omega)]
        · rw [if_neg hw, if_neg hw]
      · have := lt_of_at hx
        show core_CheckClash_B2 c l (core_CheckClash_L2 c l n) _ = _
        unfold core_CheckClash_B2
        rw [if_pos (by omega), ix_nat hx, gd_pos (by omega), bnd_eq (within_eq _ _ _), gd_pos (by omega)]; rfl
      · show core_CheckClash_B2 c l (core_CheckClash_L2 c l n) _ = _
        unfold core_CheckClash_B2
        rw [if_neg (by omega)]
  · rw [if_neg hv, if_neg hv]
def PE (c : Core) (s : RS) (x : Bound) : Prop := ∃ k : Nat, c.bounds[k]? = some x ∧ s.2.1[x.b.toNat]? = some (k : Int)
structure PI (c : Core) (r j : Nat) (s : RS) (lev : Nat → Nat) : Prop where
  l1 : s.1.length = c.layers.toNat
  l2 : s.2.1.length = c.layers.toNat
  le : ∀ v, lev v ≤ r
  zero : ∀ v, v < c.layers.toNat → lev v = 0 → s.2.1[v]? = some (-1)
  par : ∀ v, v < c.layers.toNat → lev v ≠ 0 → ∃ (k : Nat) (x : Bound), c.bounds[k]? = some x ∧ x.b.toNat = v ∧ s.2.1[v]? = some (k : Int) ∧ ds s x.a.toNat + x.most ≤ ds s v ∧ lev v ≤ lev x.a.toNat + 1
  cyc : ∀ u e, Path c u e u → e ≠ [] → (∀ x ∈ e, PE c s x) → wt e < 0
  chk : ∀ (i : Nat) (x : Bound), c.bounds[i]? = some x → (i < j ∧ lev x.a.toNat + 1 ≤ r) ∨ lev x.a.toNat + 2 ≤ r → ds s x.b.toNat ≤ ds s x.a.toNat + x.most
  last : s.2.2 < 0 ∨ (lev s.2.2.toNat = r ∧ s.2.2 < c.layers)
theorem PI.edge {c : Core} (hv : validate c = 0) {r j : Nat} {s : RS} {lev : Nat → Nat} (h : PI c r j s lev) {x : Bound} (hx : PE c s x) : ds s x.a.toNat + x.most ≤ ds s x.b.toNat := by
  obtain ⟨k, hk, hb⟩ := hx
  have hbo := bound_ok hv hk
  by_cases h0 : lev x.b.toNat = 0
  · have := h.zero _ (by omega) h0
    rw [hb] at this
    cases this
  · obtain ⟨k', x', hk', hb', hs', hd, _⟩ := h.par _ (by omega) h0
    rw [hb] at hs'
    have e : k = k' := by have := Option.some.inj hs'; omega
    subst e
    rw [hk] at hk'
    cases hk'
    exact hd
theorem tele {c : Core} {D : Nat → Int} {u v : Nat} {e : List Bound} (h : Path c u e v) : (∀ x ∈ e, D x.a.toNat + x.most ≤ D x.b.toNat) → wt e ≤ D v - D u ∧ ∀ y ∈ e, D y.a.toNat + y.most < D y.b.toNat → wt e < D v - D u := by
  induction h with
  | nil => intro _; simp [wt]
  | cons hx hp ih =>
    intro hall
    obtain ⟨i1, i2⟩ := ih fun y hy => hall y (by simp [hy])
    have h0 := hall _ (List.mem_cons_self)
    simp only [wt]
    refine ⟨by omega, fun y hy hlt => ?_⟩
    rcases List.mem_cons.1 hy with rfl | hy
    · omega
    · have := i2 y hy hlt; omega
theorem PI.step {c : Core} (hv : validate c = 0) {r j : Nat} {s : RS} {lev : Nat → Nat} (h : PI c r j s lev) (hr : 1 ≤ r) {x : Bound} (hx : c.bounds[j]? = some x) : ∃ lev', PI c r (j + 1) (relaxB s j x) lev' := by
  have hb := bound_ok hv hx
  have hD : ∀ v, ds (relaxB s j x) v = if v = x.b.toNat ∧ ds s x.a.toNat + x.most < ds s x.b.toNat then ds s x.a.toNat + x.most else ds s v := relaxB_ds h.l1 (by omega)
  by_cases hlt : ds s x.a.toNat + x.most < ds s x.b.toNat
  · have hS : relaxB s j x = (s.1.set x.b.toNat (ds s x.a.toNat + x.most), s.2.1.set x.b.toNat (j : Int), x.b) := by
      unfold relaxB; rw [gi_ds, gi_ds, if_pos hlt]
    have hDb : ds (relaxB s j x) x.b.toNat = ds s x.a.toNat + x.most := by rw [hD, if_pos ⟨rfl, hlt⟩]
    have hDn : ∀ v, v ≠ x.b.toNat → ds (relaxB s j x) v = ds s v := fun v hn => by rw [hD, if_neg (fun h => hn h.1)]
    have hDl : ∀ v, ds (relaxB s j x) v ≤ ds s v := fun v => by
      by_cases hn : v = x.b.toNat
      · subst hn; rw [hDb]; omega
      · rw [hDn v hn]; exact Int.le_refl _
    have hB2 : (relaxB s j x).2.1 = s.2.1.set x.b.toNat (j : Int) := by rw [hS]
    have hbn : ∀ v, v ≠ x.b.toNat → (relaxB s j x).2.1[v]? = s.2.1[v]? := fun v hn => by rw [hB2, List.getElem?_set_ne (Ne.symm hn)]
    have hbb : (relaxB s j x).2.1[x.b.toNat]? = some (j : Int) := by rw [hB2, List.getElem?_set_self (by rw [h.l2]; omega)]
    have hab : x.a.toNat ≠ x.b.toNat := by omega
    refine ⟨fun v => if v = x.b.toNat then r else lev v, ?_, ?_, ?_, ?_, ?_, ?_, ?_, ?_⟩
    · rw [hS]; simp [h.l1]
    · rw [hS]; simp [h.l2]
    · intro v
      show (if v = x.b.toNat then r else lev v) ≤ r
      split
      · exact Nat.le_refl _
      · exact h.le v
    · intro v hvn h0
      have hn : v ≠ x.b.toNat := fun e => by simp [e] at h0; omega
      simp only [if_neg hn] at h0
      rw [hbn v hn]; exact h.zero v hvn h0
    · intro v hvn h0
      by_cases hn : v = x.b.toNat
      · subst hn
        refine ⟨j, x, hx, rfl, hbb, by rw [hDb, hDn _ hab]; exact Int.le_refl _, ?_⟩
        simp only [if_true, if_neg hab]
        by_cases hl : lev x.a.toNat + 2 ≤ r
        · have := h.chk j x hx (.inr hl); omega
        · omega
      · simp only [if_neg hn] at h0 ⊢
        obtain ⟨k, y, hk, hy, hs, hd, hl⟩ := h.par v hvn h0
        refine ⟨k, y, hk, hy, by rw [hbn v hn]; exact hs, ?_, ?_⟩
        · have := hDl y.a.toNat; rw [hDn v hn]; omega
        · by_cases hya : y.a.toNat = x.b.toNat
          · rw [if_pos hya]; have := h.le v; omega
          · rw [if_neg hya]; exact hl
    · intro u e hp hne hall
      have hold : ∀ y ∈ e, y = x ∨ PE c s y := fun y hy => by
        obtain ⟨k, hk, hs⟩ := hall y hy
        by_cases hyb : y.b.toNat = x.b.toNat
        · rw [hyb, hbb] at hs
          have e1 : j = k := by have := Option.some.inj hs; omega
          subst e1
          rw [hx] at hk; cases hk
          exact .inl rfl
        · exact .inr ⟨k, hk, by rw [hbn _ hyb] at hs; exact hs⟩
      by_cases hxe : x ∈ e
      · have ht := tele (D := ds s) hp fun y hy => by
          rcases hold y hy with rfl | hy
          · omega
          · exact h.edge hv hy
        have := ht.2 x hxe hlt
        omega
      · exact h.cyc u e hp hne fun y hy => by
          rcases hold y hy with rfl | h'
          · exact absurd hy hxe
          · exact h'
    · intro i y hy hcase
      by_cases hya : y.a.toNat = x.b.toNat
      · simp only [if_pos hya] at hcase; omega
      · simp only [if_neg hya] at hcase
        rw [hDn _ hya]
        by_cases hij : i = j
        · subst hij
          rw [hx] at hy; cases hy
          rw [hDb]; exact Int.le_refl _
        · have := h.chk i y hy (by omega)
          have := hDl y.b.toNat
          omega
    · right
      rw [hS]
      exact ⟨by simp, hb.2.2.2.1⟩
  · have hS : relaxB s j x = s := by unfold relaxB; rw [gi_ds, gi_ds, if_neg hlt]
    rw [hS]
    refine ⟨lev, h.l1, h.l2, h.le, h.zero, h.par, h.cyc, fun i y hy hcase => ?_, h.last⟩
    by_cases hij : i = j
    · subst hij
      rw [hx] at hy; cases hy
      omega
    · exact h.chk i y hy (by omega)
theorem PI.to {c : Core} (hv : validate c = 0) {r : Nat} {s : RS} {lev : Nat → Nat} (h : PI c r 0 s lev) (hr : 1 ≤ r) : ∀ j, j ≤ c.bounds.length → ∃ lev', PI c r j (relaxTo c.bounds s j) lev'
  | 0, _ => ⟨lev, h⟩
  | j + 1, hj => by
    obtain ⟨lev', h'⟩ := PI.to hv h hr j (by omega)
    obtain ⟨x, hx⟩ := ex_at (l := c.bounds) (j := j) (by omega)
    rw [relaxTo_succ hx]
    exact h'.step hv hr hx
theorem PI.rounds {c : Core} (hv : validate c = 0) : ∀ r, ∃ lev, PI c r c.bounds.length (relaxN c r) lev
  | 0 => by
    have hvo := validate_ok hv
    refine ⟨fun _ => 0, by simp [relaxN], by simp [relaxN], fun _ => Nat.le_refl _, fun v hvn _ => by simp [relaxN, List.getElem?_replicate, hvn], fun v _ h => absurd rfl h, fun u e hp hne hall => ?_, fun i x _ hc => by omega, ?_⟩
    · cases e with
      | nil => exact absurd rfl hne
      | cons y e =>
        obtain ⟨k, hk, hs⟩ := hall y (by simp)
        simp only [relaxN, List.getElem?_replicate] at hs
        split at hs
        · cases hs
        · cases hs
    · right
      simp only [relaxN]
      exact ⟨trivial, by omega⟩
  | r + 1 => by
    obtain ⟨lev, h⟩ := PI.rounds hv r
    have h0 : PI c (r + 1) 0 ((relaxN c r).1, (relaxN c r).2.1, -1) lev :=
      ⟨h.l1, h.l2, fun v => by have := h.le v; omega, h.zero, h.par, h.cyc, fun i x hx hc => h.chk i x hx (by have := lt_of_at hx; omega), .inl (by show (-1 : Int) < 0; decide)⟩
    exact h0.to hv (by omega) c.bounds.length (Nat.le_refl _)
end Go.D3

set_option linter.unusedVariables false
set_option linter.unusedSimpArgs false
namespace Go.D3
open Go.Tb Go.Core
/-- Back along the bounds by which layers were lowered. -/
def back (c : Core) (by_ : List Int) (s : Int) : Nat → Int
  | 0 => s
  | i + 1 => (bAt c (gi by_ (back c by_ s i))).a
theorem back_add (c : Core) (b : List Int) (s : Int) (i : Nat) : ∀ j, back c b s (i + j) = back c b (back c b s i) j
  | 0 => rfl
  | j + 1 => by rw [← Nat.add_assoc]; simp only [back, back_add c b s i j]
structure On (c : Core) (s : RS) (lev : Nat → Nat) (v : Int) (m : Nat) : Prop where
  lo : 0 ≤ v
  hi : v < c.layers
  lev : m ≤ lev v.toNat
theorem On.next {c : Core} (hv : validate c = 0) {r j : Nat} {s : RS} {lev : Nat → Nat} (h : PI c r j s lev) {v : Int} {m : Nat} (o : On c s lev v (m + 1)) :
    ∃ (k : Nat) (x : Bound), c.bounds[k]? = some x ∧ x.b = v ∧ s.2.1[v.toNat]? = some (k : Int) ∧ gi s.2.1 v = k ∧ bAt c (gi s.2.1 v) = x ∧ PE c s x ∧ On c s lev x.a m := by
  have h1 := o.lev
  have h2 := o.lo
  have h3 := o.hi
  obtain ⟨k, x, hk, hb, hs, _, hl⟩ := h.par v.toNat (by omega) (by omega)
  have hbo := bound_ok hv hk
  have hg : gi s.2.1 v = k := gi_of hs
  refine ⟨k, x, hk, by omega, hs, hg, ?_, ⟨k, hk, by rw [hb]; exact hs⟩, hbo.1, hbo.2.1, by omega⟩
  rw [hg]; exact bAt_of (by simpa using hk)
theorem back_on {c : Core} (hv : validate c = 0) {r j : Nat} {s : RS} {lev : Nat → Nat} (h : PI c r j s lev) {v : Int} {n : Nat} (o : On c s lev v n) : ∀ i, i ≤ n → On c s lev (back c s.2.1 v i) (n - i)
  | 0, _ => o
  | i + 1, hi => by
    have ih := back_on hv h o i (by omega)
    have e : n - i = (n - (i + 1)) + 1 := by omega
    rw [e] at ih
    obtain ⟨k, x, _, _, _, _, hb, _, ho⟩ := ih.next hv h
    show On c s lev (bAt c (gi s.2.1 (back c s.2.1 v i))).a _
    rw [hb]; exact ho
/-- Somewhere the way back goes round. -/
theorem pigeon (f : Nat → Nat) (n : Nat) (hf : ∀ i, i ≤ n → f i < n) : ∃ i j, i < j ∧ j ≤ n ∧ f i = f j := by
  by_cases h : ((List.range (n + 1)).map f).Nodup
  · have := nodup_len n _ h (by intro x hx; obtain ⟨i, hi, rfl⟩ := List.mem_map.1 hx; exact hf i (by have := List.mem_range.1 hi; omega))
    simp at this
    exact absurd this (by omega)
  · rw [List.nodup_iff_pairwise_ne, List.pairwise_iff_getElem] at h
    simp only [List.length_map, List.length_range, List.getElem_map, List.getElem_range] at h
    obtain ⟨i, h⟩ := Classical.not_forall.1 h
    obtain ⟨j, h⟩ := Classical.not_forall.1 h
    obtain ⟨hi, h⟩ := Classical.not_forall.1 h
    obtain ⟨hj, h⟩ := Classical.not_forall.1 h
    obtain ⟨hij, h⟩ := Classical.not_forall.1 h
    exact ⟨i, j, hij, by omega, Classical.not_not.1 h⟩
theorem least {p : Nat → Prop} : ∀ n, p n → ∃ m, p m ∧ m ≤ n ∧ ∀ k, k < m → ¬ p k := by
  intro n
  induction n using Nat.strongRecOn with
  | _ n ih =>
    intro hn
    by_cases h : ∃ k, k < n ∧ p k
    · obtain ⟨k, hk, hpk⟩ := h
      obtain ⟨m, h1, h2, h3⟩ := ih k hk hpk
      exact ⟨m, h1, by omega, h3⟩
    · exact ⟨n, hn, Nat.le_refl _, fun k hk hpk => h ⟨k, hk, hpk⟩⟩
/-- The round: begin, and how long it is. -/
theorem round_of {c : Core} (hv : validate c = 0) {s : RS} {lev : Nat → Nat} {j : Nat} (h : PI c c.layers.toNat j s lev) (hl : 0 ≤ s.2.2) :
    (∀ i, i < c.layers.toNat → ∃ (k : Nat) (x : Bound), c.bounds[k]? = some x ∧ x.b = back c s.2.1 s.2.2 i ∧ s.2.1[(back c s.2.1 s.2.2 i).toNat]? = some (k : Int) ∧ 0 ≤ back c s.2.1 s.2.2 i ∧ x.a = back c s.2.1 s.2.2 (i + 1)) ∧
    ∃ q, 1 ≤ q ∧ q ≤ c.layers.toNat ∧ back c s.2.1 s.2.2 (c.layers.toNat + q) = back c s.2.1 s.2.2 c.layers.toNat ∧ (∀ t, 1 ≤ t → t < q → back c s.2.1 s.2.2 (c.layers.toNat + t) ≠ back c s.2.1 s.2.2 c.layers.toNat) ∧
      ∀ t, ∃ (k : Nat) (x : Bound), c.bounds[k]? = some x ∧ x.b = back c s.2.1 s.2.2 (c.layers.toNat + t) ∧ s.2.1[(back c s.2.1 s.2.2 (c.layers.toNat + t)).toNat]? = some (k : Int) ∧ 0 ≤ back c s.2.1 s.2.2 (c.layers.toNat + t) ∧ x.a = back c s.2.1 s.2.2 (c.layers.toNat + (t + 1)) ∧ PE c s x := by
  have hvo := validate_ok hv
  obtain ⟨hll, hlh⟩ : lev s.2.2.toNat = c.layers.toNat ∧ s.2.2 < c.layers := by
    rcases h.last with h' | h'
    · omega
    · exact h'
  have o : On c s lev s.2.2 c.layers.toNat := ⟨hl, hlh, by omega⟩
  have hon := back_on hv h o
  generalize hN : c.layers.toNat = N at *
  have good : ∀ i, i < N → ∃ (k : Nat) (x : Bound), c.bounds[k]? = some x ∧ x.b = back c s.2.1 s.2.2 i ∧ s.2.1[(back c s.2.1 s.2.2 i).toNat]? = some (k : Int) ∧ 0 ≤ back c s.2.1 s.2.2 i ∧ x.a = back c s.2.1 s.2.2 (i + 1) ∧ PE c s x := by
    intro i hi
    have o1 := hon i (by omega)
    rw [show N - i = (N - i - 1) + 1 by omega] at o1
    obtain ⟨k, x, h1, h2, h3, h4, h5, h6, _⟩ := o1.next hv h
    exact ⟨k, x, h1, h2, h3, o1.lo, by show x.a = (bAt c (gi s.2.1 (back c s.2.1 s.2.2 i))).a; rw [h5], h6⟩
  obtain ⟨i, j', hij, hj, heq⟩ := pigeon (fun i => (back c s.2.1 s.2.2 i).toNat) N (fun i hi => by have := (hon i hi).lo; have := (hon i hi).hi; omega)
  have heq' : back c s.2.1 s.2.2 i = back c s.2.1 s.2.2 j' := by
    have h1 := (hon i (by omega)).lo
    have h2 := (hon j' hj).lo
    have : (back c s.2.1 s.2.2 i).toNat = (back c s.2.1 s.2.2 j').toNat := heq
    omega
  have per : ∀ m, i ≤ m → back c s.2.1 s.2.2 (m + (j' - i)) = back c s.2.1 s.2.2 m := by
    intro m hm
    rw [show m + (j' - i) = j' + (m - i) by omega, back_add, ← heq', ← back_add, show i + (m - i) = m by omega]
  have all : ∀ m, ∃ (k : Nat) (x : Bound), c.bounds[k]? = some x ∧ x.b = back c s.2.1 s.2.2 m ∧ s.2.1[(back c s.2.1 s.2.2 m).toNat]? = some (k : Int) ∧ 0 ≤ back c s.2.1 s.2.2 m ∧ x.a = back c s.2.1 s.2.2 (m + 1) ∧ PE c s x := by
    intro m
    induction m using Nat.strongRecOn with
    | _ m ih =>
      by_cases hm : m < N
      · exact good m hm
      · obtain ⟨k, x, h1, h2, h3, h4, h5, h6⟩ := ih (m - (j' - i)) (by omega)
        have e1 := per (m - (j' - i)) (by omega)
        have e2 := per (m - (j' - i) + 1) (by omega)
        rw [show m - (j' - i) + (j' - i) = m by omega] at e1
        rw [show m - (j' - i) + 1 + (j' - i) = m + 1 by omega] at e2
        rw [← e1] at h2 h3 h4
        rw [← e2] at h5
        exact ⟨k, x, h1, h2, h3, h4, h5, h6⟩
  refine ⟨fun i hi => ?_, ?_⟩
  · obtain ⟨k, x, h1, h2, h3, h4, h5, _⟩ := good i hi
    exact ⟨k, x, h1, h2, h3, h4, h5⟩
  · obtain ⟨q, ⟨hq1, hq2⟩, hq3, hq4⟩ := least (p := fun q => 1 ≤ q ∧ back c s.2.1 s.2.2 (N + q) = back c s.2.1 s.2.2 N) (j' - i) ⟨by omega, per N (by omega)⟩
    exact ⟨q, hq1, by omega, hq2, fun t ht1 ht2 hc => hq4 t ht2 ⟨ht1, hc⟩, fun t => all (N + t)⟩
theorem Reverse_eq (l : List Int) (hl : l.length ≤ 1000000) : slices_Reverse_int l = some l.reverse := by
  unfold slices_Reverse_int
  rw [gd_pos (by omega)]
  -- after i rounds the first i and the last i have changed places
  have key : ∀ (d n i : Nat) (m : List Int), l.length ≤ 2 * i + d → d < n → m.length = l.length → (∀ j, j < l.length → m[j]? = if j < i ∨ l.length ≤ j + i then l.reverse[j]? else l[j]?) → i ≤ l.length →
      slices_Reverse_int_L1 n (i : Int) ((l.length : Int) - 1 - i) m = some l.reverse := by
    intro d
    induction d with
    | zero =>
      intro n i m hd hn hm hj hi
      obtain ⟨n, rfl⟩ : ∃ k, n = k + 1 := ⟨n - 1, by omega⟩
      show slices_Reverse_int_B1 (slices_Reverse_int_L1 n) _ _ _ = _
      unfold slices_Reverse_int_B1
      rw [if_neg (by omega)]
      congr 1
      apply List.ext_getElem?
      intro j
      by_cases hjl : j < l.length
      · rw [hj j hjl, if_pos (by omega)]
      · rw [List.getElem?_eq_none (by omega), List.getElem?_eq_none (by simp; omega)]
    | succ d ih =>
      intro n i m hd hn hm hj hi
      obtain ⟨n, rfl⟩ : ∃ k, n = k + 1 := ⟨n - 1, by omega⟩
      show slices_Reverse_int_B1 (slices_Reverse_int_L1 n) _ _ _ = _
      unfold slices_Reverse_int_B1
      by_cases hlt : (i : Int) < (l.length : Int) - 1 - i
      · have hi2 : i < l.length := by omega
        have hk2 : l.length - 1 - i < l.length := by omega
        have e1 : ((l.length : Int) - 1 - i).toNat = l.length - 1 - i := by omega
        have a1 : m[l.length - 1 - i]? = some l[l.length - 1 - i] := by rw [hj _ hk2, if_neg (by omega)]; simp [hk2]
        have a2 : m[i]? = some l[i] := by rw [hj _ hi2, if_neg (by omega)]; simp [hi2]
        rw [if_pos hlt, ix_eq (by omega) (by rw [e1]; exact a1), ix_nat a2, ix_nat a2, ix_eq (x := l[l.length - 1 - i]) (by omega) (by rw [e1, Int.toNat_natCast, List.getElem?_set_ne (by omega)]; exact a1), gd_pos (by omega), gd_pos (by omega), e1, Int.toNat_natCast]
        have := ih n (i + 1) ((m.set i l[l.length - 1 - i]).set (l.length - 1 - i) l[i]) (by omega) (by omega) (by simp [hm]) (fun j hjl => ?_) (by omega)
        · rw [show (l.length : Int) - 1 - i - 1 = (l.length : Int) - 1 - ((i + 1 : Nat) : Int) by omega]
          exact this
        · by_cases hj1 : j = l.length - 1 - i
          · subst hj1
            rw [List.getElem?_set_self (by simp [hm]; omega), if_pos (by omega)]
            rw [List.getElem?_reverse (by omega)]
            rw [show l.length - 1 - (l.length - 1 - i) = i by omega]; simp [hi2]
          · rw [List.getElem?_set_ne (Ne.symm hj1)]
            by_cases hj2 : j = i
            · subst hj2
              rw [List.getElem?_set_self (by omega), if_pos (by omega), List.getElem?_reverse (by omega)]; simp [hk2]
            · rw [List.getElem?_set_ne (Ne.symm hj2), hj j hjl]
              by_cases hc : j < i ∨ l.length ≤ j + i
              · rw [if_pos hc, if_pos (by omega)]
              · rw [if_neg hc, if_neg (by omega)]
      · rw [if_neg hlt]
        congr 1
        apply List.ext_getElem?
        intro j
        by_cases hjl : j < l.length
        · rw [hj j hjl]
          by_cases hc : j < i ∨ l.length ≤ j + i
          · rw [if_pos hc]
          · rw [if_neg hc, List.getElem?_reverse hjl]
            rw [show l.length - 1 - j = j by omega]
        · rw [List.getElem?_eq_none (by omega), List.getElem?_eq_none (by simp; omega)]
  have := key l.length FU 0 l (by omega) (by have := FU_pos; omega) rfl (fun j hj => by rw [if_neg (by omega)]) (by omega)
  simpa using this
def outs (c : Core) (s : RS) (t : Nat) : List Int := (List.range t).map fun i => gi s.2.1 (back c s.2.1 s.2.2 (c.layers.toNat + i))
theorem outs_succ (c : Core) (s : RS) (t : Nat) : outs c s (t + 1) = outs c s t ++ [gi s.2.1 (back c s.2.1 s.2.2 (c.layers.toNat + t))] := by
  unfold outs; rw [List.range_succ, List.map_append]; rfl
theorem outs_len (c : Core) (s : RS) (t : Nat) : (outs c s t).length = t := by simp [outs]
theorem outs_at (c : Core) (s : RS) {t i : Nat} (h : i < t) : (outs c s t)[i]? = some (gi s.2.1 (back c s.2.1 s.2.2 (c.layers.toNat + i))) := by
  unfold outs; simp [h]
theorem msum_wt (c : Core) (l : List Int) : ∀ i, i ≤ l.length → msum c l i = wt ((l.take i).map (bAt c))
  | 0, _ => by simp [msum, wt]
  | i + 1, hi => by
    obtain ⟨k, hk⟩ := ex_at (l := l) (j := i) (by omega)
    rw [take_succ_at hk, List.map_append, wt_append, ← msum_wt c l i (by omega)]
    have e : l.getD i 0 = k := by simp [List.getD, hk]
    simp only [msum, e, List.map_cons, List.map_nil, wt]; omega
theorem Clash_eq (c : Core) (hc : c.bounds.length ≤ 100) : ∃ l, core_Clash c = some (if validate c = 0 then (if clashes c = true then (l, true, 0) else ([], false, 0)) else ([], false, validate c)) ∧ (validate c = 0 → clashes c = true → checkClash c l = 0) ∧ l.length ≤ 8 := by
  unfold core_Clash
  rw [bnd_eq (Validate_eq c hc)]
  by_cases hv' : ¬ validate c = 0
  · exact ⟨[], by rw [if_neg hv', if_neg hv'], fun h => absurd h hv', by simp⟩
  have hv := Classical.not_not.1 hv'
  rw [if_pos hv]
  simp only [if_pos hv]
  rw [bnd_eq (relax_eq hv)]
  have hvo := validate_ok hv
  cases hcl : clashes c
  · refine ⟨[], ?_, fun _ h => by simp at h, by simp⟩
    unfold clashes at hcl
    have : (relax c).2.2 < 0 := by simpa using hcl
    rw [if_pos this]; simp
  have hl : 0 ≤ (relax c).2.2 := by unfold clashes at hcl; simpa using hcl
  obtain ⟨lev, hPI⟩ := PI.rounds hv c.layers.toNat
  have hPI' : PI c c.layers.toNat c.bounds.length (relax c) lev := hPI
  obtain ⟨g1, q, hq1, hq2, hq3, hq4, g2⟩ := round_of hv hPI' hl
  generalize hS : relax c = s at *
  have hgi : ∀ t, ∃ k : Nat, ∃ x, c.bounds[k]? = some x ∧ gi s.2.1 (back c s.2.1 s.2.2 (c.layers.toNat + t)) = k ∧ x.b = back c s.2.1 s.2.2 (c.layers.toNat + t) ∧ x.a = back c s.2.1 s.2.2 (c.layers.toNat + (t + 1)) ∧ PE c s x ∧ bAt c (gi s.2.1 (back c s.2.1 s.2.2 (c.layers.toNat + t))) = x := by
    intro t
    obtain ⟨k, x, h1, h2, h3, h4, h5, h6⟩ := g2 t
    have e : gi s.2.1 (back c s.2.1 s.2.2 (c.layers.toNat + t)) = k := gi_of h3
    exact ⟨k, x, h1, e, h2, h5, h6, by rw [e]; exact bAt_of (by simpa using h1)⟩
  refine ⟨(outs c s q).reverse, ?_, fun _ _ => ?_, by rw [List.length_reverse, outs_len]; omega⟩
  · rw [if_neg (by omega)]
    simp only [if_true]
    refine for_loop0 c.layers.toNat (fun i => back c s.2.1 s.2.2 i) (fun n b i => core_Clash_L2 c s n b i) _ (fun n i hi => ?_) (fun n => ?_) (by omega)
    · obtain ⟨k, x, h1, h2, h3, h4, h5⟩ := g1 i hi
      show core_Clash_B2 c s (core_Clash_L2 c s n) _ _ = _
      unfold core_Clash_B2
      rw [if_pos (by omega), ix_eq h4 h3, ix_eq (by omega) (by simpa using h1), gd_pos (by omega), h5]
      rfl
    · show core_Clash_B2 c s (core_Clash_L2 c s n) _ _ = _
      unfold core_Clash_B2
      rw [if_neg (by omega)]
      unfold core_Clash_k3
      refine for_loop0 q (fun t => (back c s.2.1 s.2.2 (c.layers.toNat + t), outs c s t)) (fun n p _ => core_Clash_L1 c s (back c s.2.1 s.2.2 c.layers.toNat) n p.1 p.2) _ (fun n t ht => ?_) (fun n => ?_) (by omega)
      · obtain ⟨k, x, h1, h2, h3, h4, h5, h6⟩ := g2 t
        have e : gi s.2.1 (back c s.2.1 s.2.2 (c.layers.toNat + t)) = k := gi_of h3
        have go : core_Clash_k2 c s (back c s.2.1 s.2.2 (c.layers.toNat + t)) (outs c s t) (core_Clash_L1 c s (back c s.2.1 s.2.2 c.layers.toNat) n) true = core_Clash_L1 c s (back c s.2.1 s.2.2 c.layers.toNat) n (back c s.2.1 s.2.2 (c.layers.toNat + (t + 1))) (outs c s (t + 1)) := by
          unfold core_Clash_k2
          rw [if_pos rfl, ix_eq h4 h3, gd_pos (by rw [outs_len]; simp; omega), ix_eq h4 h3, ix_eq (by omega) (by simpa using h1), h5, outs_succ, e]
        show core_Clash_B1 c s (back c s.2.1 s.2.2 c.layers.toNat) (core_Clash_L1 c s (back c s.2.1 s.2.2 c.layers.toNat) n) _ _ = _
        unfold core_Clash_B1
        simp only [outs_len]
        by_cases h0 : (t : Int) = 0
        · rw [if_pos h0]; exact go
        · rw [if_neg h0]
          have := hq4 t (by omega) ht
          have e2 : (!decide (back c s.2.1 s.2.2 (c.layers.toNat + t) = back c s.2.1 s.2.2 c.layers.toNat)) = true := by simp [this]
          rw [e2]; exact go
      · show core_Clash_B1 c s (back c s.2.1 s.2.2 c.layers.toNat) (core_Clash_L1 c s (back c s.2.1 s.2.2 c.layers.toNat) n) _ _ = _
        unfold core_Clash_B1
        simp only [outs_len]
        rw [if_neg (by omega), hq3]
        have e2 : (!decide (back c s.2.1 s.2.2 c.layers.toNat = back c s.2.1 s.2.2 c.layers.toNat)) = false := by simp
        rw [e2]
        unfold core_Clash_k2 core_Clash_k1
        rw [if_neg (by simp), bnd_eq (Reverse_eq _ (by rw [outs_len]; omega))]
  · -- the round proves a clash
    have hlen : ((outs c s q).reverse).length = q := by rw [List.length_reverse, outs_len]
    have hat : ∀ i, i < q → ((outs c s q).reverse)[i]? = some (gi s.2.1 (back c s.2.1 s.2.2 (c.layers.toNat + (q - 1 - i)))) := by
      intro i hi
      rw [List.getElem?_reverse (by rw [outs_len]; exact hi), outs_len, outs_at c s (by omega)]
    unfold checkClash
    rw [if_pos hv, if_neg (by rw [hlen]; omega), if_pos, if_pos, if_neg]
    · -- the sum
      rw [msum_wt c _ _ (Nat.le_refl _), List.take_length]
      have path : ∀ t, Path c (back c s.2.1 s.2.2 (c.layers.toNat + t)).toNat (((outs c s t).reverse).map (bAt c)) (back c s.2.1 s.2.2 c.layers.toNat).toNat := by
        intro t
        induction t with
        | zero => simp [outs]; exact .nil _
        | succ t ih =>
          obtain ⟨k, x, h1, h2, h3, h4, h5, h6⟩ := hgi t
          rw [outs_succ, List.reverse_append]
          simp only [List.reverse_cons, List.reverse_nil, List.nil_append, List.singleton_append, List.map_cons, h6]
          rw [← h4]
          refine .cons (List.mem_of_getElem? h1) ?_
          rw [h3]; exact ih
      have hp := path q
      rw [hq3] at hp
      have := hPI'.cyc _ _ hp (by
        intro h0
        have := congrArg List.length h0
        simp [outs_len] at this
        omega) (fun x hx => by
        obtain ⟨k, hk, rfl⟩ := List.mem_map.1 hx
        obtain ⟨i, hi, rfl⟩ := List.mem_map.1 (List.mem_reverse.1 hk)
        obtain ⟨k', x', h1, h2, h3, h4, h5, h6⟩ := hgi i
        rw [h6]; exact h5)
      omega
    · -- links
      intro i hi
      rw [hlen] at hi
      unfold link nx
      rw [hlen]
      have e1 : ((outs c s q).reverse).getD i 0 = gi s.2.1 (back c s.2.1 s.2.2 (c.layers.toNat + (q - 1 - i))) := by simp only [List.getD, hat i hi]; rfl
      obtain ⟨k, x, h1, h2, h3, h4, h5, h6⟩ := hgi (q - 1 - i)
      rw [e1, h6, h3]
      by_cases hw : i + 1 = q
      · have e0 : (i + 1) % q = 0 := by rw [hw]; exact Nat.mod_self q
        have e2 : ((outs c s q).reverse).getD ((i + 1) % q) 0 = gi s.2.1 (back c s.2.1 s.2.2 (c.layers.toNat + (q - 1))) := by rw [e0]; simp only [List.getD, hat 0 (by omega)]; rfl
        obtain ⟨k', x', h1', h2', h3', h4', h5', h6'⟩ := hgi (q - 1)
        rw [e2, h6', h4', show q - 1 + 1 = q by omega, hq3, show q - 1 - i = 0 by omega]
        simp
      · have e0 : (i + 1) % q = i + 1 := Nat.mod_eq_of_lt (by omega)
        have e2 : ((outs c s q).reverse).getD ((i + 1) % q) 0 = gi s.2.1 (back c s.2.1 s.2.2 (c.layers.toNat + (q - 1 - (i + 1)))) := by rw [e0]; simp only [List.getD, hat (i + 1) (by omega)]; rfl
        obtain ⟨k', x', h1', h2', h3', h4', h5', h6'⟩ := hgi (q - 1 - (i + 1))
        rw [e2, h6', h4', show q - 1 - (i + 1) + 1 = q - 1 - i by omega]
        simp
    · refine List.all_eq_true.2 fun k hk => ?_
      obtain ⟨i, hi, rfl⟩ := List.mem_map.1 (List.mem_reverse.1 hk)
      obtain ⟨k', x', h1, h2, _⟩ := hgi i
      have := lt_of_at h1
      rw [h2, Core.within_iff]
      omega
end Go.D3

set_option linter.unusedVariables false
set_option linter.unusedSimpArgs false
namespace Go.Tb
open Go.RowKit
section
variable {P : Program} {n : Nat} {ops : Array Oper} {Q : Exit → Env → World → Prop} {ρ : Env} {w : World}
variable {d : Option Tmp} {ty : TypeId} {pos : String} {after : Array Edge} {g : Option (Nat × Bool)} {K : Value → World → Prop}
/-- clear of a part of a slice or an array of the call's own. -/
theorem zero_flat {α : Type} {enc : α → List Value} {x0 : α} {z : List Value} {m : Nat} (hz : enc x0 = z) (hm : z.length = m) (h0 : Nat.blt 0 m = true) (c : Nat) : Builtin.zeroCells z.toArray c = ((List.replicate c x0).flatMap enc).toArray := by
  have h0' : 0 < m := by simpa [Nat.blt_eq] using h0
  apply Array.toList_inj.1
  apply List.ext_getElem?
  intro i
  have hl : ((List.replicate c x0).flatMap enc).length = c * m := by
    induction c with
    | zero => simp
    | succ c ih => simp only [List.replicate_succ, List.flatMap_cons, List.length_append, ih, hz, hm, Nat.succ_mul]; omega
  have hrow : ∀ r ∈ (List.replicate c x0).map enc, r.length = m := by
    intro r hr
    obtain ⟨x, hx, rfl⟩ := List.mem_map.1 hr
    rw [(List.mem_replicate.1 hx).2, hz, hm]
  by_cases hi : i < c * m
  · have hmod : i % m < m := Nat.mod_lt _ h0'
    have hq : i / m < c := (Nat.div_lt_iff_lt_mul h0').2 hi
    have hv : z[i % m]? = some (z[i % m]'(by rw [hm]; exact hmod)) := by simp [hm, hmod]
    have hf := flatten_row hrow (i / m) z (by simp [hq, hz]) (i % m) _ hv
    have hjm : i / m * m + i % m = i := by rw [Nat.mul_comm]; exact Nat.div_add_mod i m
    rw [hjm] at hf
    simp only [List.flatMap_def, List.toList_toArray]
    rw [hf]
    simp only [Builtin.zeroCells]
    simp [hi, hm, hmod]
  · rw [List.getElem?_eq_none (by simp [Builtin.zeroCells, hm]; omega), List.getElem?_eq_none (by simp only [List.toList_toArray]; rw [hl]; omega)]
theorem OW.clearSub {α : Type} {enc : α → List Value} {l : List α} (x0 : α) {t e k bt b c cap len lo hi t' : Nat} {z : List Value} {x : Operand} {A : Option Addr} (hT : tyS P t = some (e, k, bt, z)) (hx : ev ρ x = some (.slice A len cap))
    (o : Own w (some ⟨b, 0, none⟩) c t' k (l.map enc)) (hk : ∀ x, (enc x).length = k) (hz : enc x0 = z) (hzl : z.length = k) (hk0 : Nat.blt 0 k = true) (hA : A = cutA (some ⟨b, 0, none⟩) c k lo) (hlen : len = hi - lo) (h1 : lo ≤ hi) (h2 : hi ≤ l.length) (ho : z.all Value.oneCell' = true)
    (kk : ∀ v w', Mod w w' (some ⟨b, 0, none⟩) → Own w' (some ⟨b, 0, none⟩) c t' k ((l.take lo ++ List.replicate (hi - lo) x0 ++ l.drop hi).map enc) → K v w') : OW P n Q ⟨d, .call ⟨.builtin .clear, #[x], #[t]⟩, ty, pos, after, g⟩ ρ w K := by
  obtain ⟨hu, i, zv, hinf, hs1, hs2, hs3, hs4⟩ := tyS_spec hT
  by_cases h0 : hi - lo = 0
  · refine OW.value (w' := w) (v := .tuple #[]) (fun a ha => ?_) (kk _ w ⟨rfl, rfl, rfl, Nat.le_refl _, fun _ _ _ => rfl⟩ (by
      have e : l.take lo ++ List.replicate (hi - lo) x0 ++ l.drop hi = l := by rw [h0, show hi = lo by omega]; simp
      rw [e]; exact o))
    have : len = 0 := by omega
    subst this
    cases A <;> simp [execOp, resolve, ha.ev hx, invoke, builtin, Builtin.clear_, run_underlying hu]
  · rcases o.blk with ⟨h, _⟩ | ⟨b', sp, h, f, h3, h4⟩
    · cases h
    · cases h
      have hlc : l.length ≤ c := by simpa using h3
      have hcl : c ≠ lo := by omega
      have hk' : 0 < k := by simpa [Nat.blt_eq] using hk0
      have hAe : A = some ⟨b, lo * k, none⟩ := by
        rw [hA]; unfold cutA; rw [if_neg hcl]
        simp only [Option.map_some]; unfold Addr.add; split
        · rename_i h; rw [h]
        · simp
      have hL : (l.flatMap enc).length = l.length * k := len_flatMap hk l
      have hR : ((List.replicate (hi - lo) x0).flatMap enc).length = (hi - lo) * k := by rw [len_flatMap hk]; simp
      have f' : Blk w b t' (l.flatMap enc ++ sp) := by rw [List.flatMap_def]; exact f
      have hhk : hi * k ≤ l.length * k := Nat.mul_le_mul_right _ h2
      have hlk : lo * k + (hi - lo) * k = hi * k := by rw [← Nat.add_mul]; congr 1; omega
      have hall : ((List.replicate (hi - lo) x0).flatMap enc).all Value.oneCell' = true := by
        rw [List.all_eq_true]
        intro v hv
        obtain ⟨y, hy, hv⟩ := List.mem_flatMap.1 hv
        rw [(List.mem_replicate.1 hy).2, hz] at hv
        exact List.all_eq_true.1 ho v hv
      have hst := run_storeCells_at P b (lo * k) t' ((List.replicate (hi - lo) x0).flatMap enc) 0 (l.flatMap enc ++ sp).toArray w f' (by simp [hR, hL]; omega) (fun v hv => List.all_eq_true.1 hall v hv)
      have hs : Stored w (w.setRow b (over (l.flatMap enc ++ sp) (lo * k) ((List.replicate (hi - lo) x0).flatMap enc)).toArray) b t' (over (l.flatMap enc ++ sp) (lo * k) ((List.replicate (hi - lo) x0).flatMap enc)) := setRow_stored f'
      refine OW.value (w' := w.setRow b (over (l.flatMap enc ++ sp) (lo * k) ((List.replicate (hi - lo) x0).flatMap enc)).toArray) (v := .tuple #[]) (fun a ha => ?_) (kk _ _ ⟨hs.os, hs.tape, hs.output, by rw [hs.size]; exact Nat.le_refl _, fun i _ hi => hs.other i (fun e => hi (by simp [blkOf, e]))⟩ ?_)
      · have hlen' : len = hi - lo := hlen
        obtain ⟨q, hq⟩ : ∃ q, len = q + 1 := ⟨len - 1, by omega⟩
        have hzc : Builtin.zeroCells zv.cells (q + 1) = ((List.replicate (hi - lo) x0).flatMap enc).toArray := by
          have := zero_flat (x0 := x0) (c := hi - lo) hz hzl hk0
          rw [← this, show q + 1 = hi - lo by omega, ← hs4]
        simp [execOp, resolve, ha.ev hx, invoke, builtin, Builtin.clear_, run_underlying hu, hq, hAe, zeroValue, typeInfo, hinf, hs3, hzc]
        have hover : over (l.flatMap enc ++ sp) (lo * k) ((List.replicate (hi - lo) x0).flatMap enc) = List.take (lo * k + 0) (l.flatMap enc ++ sp).toArray.toList ++ ((List.replicate (hi - lo) x0).flatMap enc) ++ List.drop (lo * k + 0 + ((List.replicate (hi - lo) x0).flatMap enc).length) (l.flatMap enc ++ sp).toArray.toList := by simp [over]
        have hst' := hst
        rw [hover, hst']
        simp
      · have htk : ∀ j, j ≤ l.length → (l.take j).flatMap enc = (l.flatMap enc).take (j * k) := by
          intro j hj
          have e : l.flatMap enc = (l.take j).flatMap enc ++ (l.drop j).flatMap enc := by rw [← List.flatMap_append, List.take_append_drop]
          have e2 : ((l.take j).flatMap enc).length = j * k := by rw [len_flatMap hk]; simp [Nat.min_eq_left hj]
          rw [e, ← e2, List.take_left]
        have hdk : ∀ j, j ≤ l.length → (l.drop j).flatMap enc = (l.flatMap enc).drop (j * k) := by
          intro j hj
          have e : l.flatMap enc = (l.take j).flatMap enc ++ (l.drop j).flatMap enc := by rw [← List.flatMap_append, List.take_append_drop]
          have e2 : ((l.take j).flatMap enc).length = j * k := by rw [len_flatMap hk]; simp [Nat.min_eq_left hj]
          rw [e, ← e2, List.drop_left]
        have hov : over (l.flatMap enc ++ sp) (lo * k) ((List.replicate (hi - lo) x0).flatMap enc) = (l.take lo ++ List.replicate (hi - lo) x0 ++ l.drop hi).flatMap enc ++ sp := by
          rw [over_app (by rw [hR, hL]; omega)]
          congr 1
          unfold over
          rw [hR, hlk, List.flatMap_append, List.flatMap_append, htk lo (by omega), hdk hi h2]
        rw [hov] at hs
        have hl' : (l.take lo ++ List.replicate (hi - lo) x0 ++ l.drop hi).length = l.length := by simp; omega
        have hL' : ((l.take lo ++ List.replicate (hi - lo) x0 ++ l.drop hi).flatMap enc).length = (l.flatMap enc).length := by rw [len_flatMap hk, len_flatMap hk, hl']
        rw [hov]
        exact Own.stored o f' hk hl' (by simp only [List.length_append]; rw [hL']) (by rw [← hL, ← hL']; exact List.take_left) hs
end
end Go.Tb

set_option linter.unusedVariables false
set_option linter.unusedSimpArgs false
namespace Go.Tb
open Go.RowKit
theorem Sl.none_nil {α : Type} {enc : α → List Value} {w : World} {c k : Nat} {l : List α} (h : Sl w none c k (l.map enc)) : l = [] := by
  cases l with
  | nil => rfl
  | cons x r => obtain ⟨_, ⟨a, ha⟩, _⟩ := h.row 0 (enc x) (by simp); cases ha
theorem evs_cast {ρ : Env} {a : List Operand} {vs vs' : List Value} (h : evs ρ a = some vs) (e : vs = vs') : evs ρ a = some vs' := e ▸ h
theorem CallsV.cap {P : Program} {f : Nat} {first cap args all : Array Value} {w : World} {R : Ending → World → Prop} (hc : callable P f = true) (e : first ++ args ++ cap = all) (h : Calls P f all w R) : CallsV P f first cap args w R := ⟨hc, by rw [e]; exact h⟩
section
variable {P : Program} {n : Nat} {ops : Array Oper} {Q : Exit → Env → World → Prop} {ρ : Env} {w : World}
variable {d : Option Tmp} {ty : TypeId} {pos : String} {after : Array Edge} {g : Option (Nat × Bool)} {K : Value → World → Prop}
theorem RV.makeFunc {f : Fn} {first cap : Array Operand} {fs cs : List Value} (hf : evs ρ first.toList = some fs) (hc : evs ρ cap.toList = some cs) : RV P n ⟨d, .makeFunc f first cap, ty, pos, after, g⟩ ρ w (.func f fs.toArray cs.toArray) := fun a ha => by
  have h1 : first.map a.eval = fs.toArray := by
    apply Array.toList_inj.1; rw [Array.toList_map]; exact ha.evs hf
  have h2 : cap.map a.eval = cs.toArray := by
    apply Array.toList_inj.1; rw [Array.toList_map]; exact ha.evs hc
  simp only [execOp, Instr.makeFunc]
  rw [show Array.map a.eval first = fs.toArray from h1, show Array.map a.eval cap = cs.toArray from h2]
  rfl
end
end Go.Tb

set_option linter.unusedVariables false
set_option linter.unusedSimpArgs false
namespace Go.Tb
open Go.RowKit
/-- The rows hs, m are rows of the table hT, mT. -/
structure SubT {α : Type} (hs : List (Option Addr × Nat)) (m : List (List α)) (hT : List (Option Addr × Nat)) (mT : List (List α)) : Prop where
  len : hs.length = m.length
  sub : ∀ p ∈ hs.zip m, p ∈ hT.zip mT
section
variable {α : Type} {enc : α → List Value} {hs hT : List (Option Addr × Nat)} {m mT : List (List α)} {w : World} {A AT : Option Addr} {c cT to toT ti k : Nat}
theorem SubT.nil : SubT (α := α) [] [] hT mT := ⟨rfl, by simp⟩
theorem SubT.sl2 (s : SubT hs m hT mT) (o : Own w A c to 1 ((hs.zip m).map encH)) (T : TabH w AT cT toT hT ti k (encM enc mT)) : Sl2 w A c k enc m := by
  refine ⟨hs, s.len, o.sl, fun j h l hj hl => ?_⟩
  have hm : (h, l) ∈ hs.zip m := List.mem_of_getElem? (i := j) (by simp [List.getElem?_zip_eq_some, hj, hl])
  obtain ⟨i, hi⟩ := List.getElem?_of_mem (s.sub _ hm)
  rw [List.getElem?_zip_eq_some] at hi
  exact (T.row i h.1 h.2 _ hi.1 (by simp [encM, hi.2])).sl
end
section
variable {P : Program} {n : Nat} {ops : Array Oper} {Q : Exit → Env → World → Prop} {ρ : Env} {w : World}
variable {d : Option Tmp} {ty : TypeId} {pos : String} {after : Array Edge} {g : Option (Nat × Bool)} {K : Value → World → Prop}
end
end Go.Tb

set_option linter.unusedVariables false
set_option linter.unusedSimpArgs false
namespace Go.Tb
open Go.RowKit
section
variable {κ ν : Type}
/-- Where an entry lies. -/
def mfind (eq : κ → κ → Bool) (x : κ) : List κ → List MapEntry → Nat → Option (Nat × Value)
  | y :: ks, e :: es, i => if eq x y = true then some (i, e.val) else mfind eq x ks es (i + 1)
  | _, _, _ => none
/-- What a key's type must have: its values are asked for and compared ags eq says. -/
structure KeyOK (P : Program) (k : TypeId) (ek : κ → Value) (eq : κ → κ → Bool) : Prop where
  check : ∀ (w : World) (em : Bool) (x : κ), (Instr.checkKey em 10000 k (ek x)).run P w = .ok () w
  same : ∀ x y : κ, eq x y = true ↔ ek x = ek y
  find : ∀ (w : World) (x : κ) (es : List MapEntry) (ks : List κ), es.map (·.key) = ks.map ek → (Instr.findKey k (ek x) es).run P w = .ok (mfind eq x ks es 0) w
  stays : ∀ (w : World) (x : κ), (Instr.keyThatStays (ek x) (ek x)).run P w = .ok (ek x) w
def ekI (x : Int) : Value := .int .i64 x
def eqI (x y : Int) : Bool := x == y
theorem KeyOK.int {P : Program} {k : TypeId} (hk : P.underlying k = some (.int .i64)) : KeyOK P k ekI eqI where
  check w em x := MapKept.run_checkKey hk (show MapKept.IsKey (.int .i64) (.int .i64 x) from rfl) em 9999
  same x y := by simp [eqI, ekI]
  find w x es ks h := by
    refine MapKept.run_findKey hk ?_
    have : ∀ (es : List MapEntry) (ks : List Int) (i : Nat), es.map (·.key) = ks.map ekI → Instr.findNow (.int .i64) (ekI x) es i = some (mfind eqI x ks es i) := by
      intro es
      induction es with
      | nil => intro ks i h; cases ks <;> rfl
      | cons e es ih =>
        intro ks i h
        cases ks with
        | nil => simp at h
        | cons y ks =>
          simp only [List.map_cons, List.cons.injEq] at h
          unfold Instr.findNow mfind
          rw [h.1]
          have e1 : Instr.sameNow (.int .i64) (ekI x) (ekI y) = some (eqI x y) := by simp [Instr.sameNow, ekI, eqI]
          rw [e1]
          cases eqI x y
          · simpa using ih ks (i + 1) h.2
          · simp
    exact this es ks 0 h
  stays w x := MapKept.run_keyThatStays (show MapKept.IsKey (.int .i64) (.int .i64 x) from rfl)
theorem KeyOK.agg {P : Program} {k : TypeId} {d : TypeDesc} {ek : κ → Value} {eq : κ → κ → Bool} (ags : κ → Array Value) (hk : P.underlying k = some d) (hek : ∀ x, ek x = .agg (ags x)) (hc : ∀ (w : World) (em : Bool) (x : κ), (Instr.checkKey em 10000 k (.agg (ags x))).run P w = .ok () w)
    (he : ∀ (w : World) (x y : κ), (Op.equalIn 10000 k (.agg (ags x)) (.agg (ags y))).run P w = .ok (eq x y) w) (hs : ∀ x y : κ, eq x y = true ↔ ags x = ags y) (hb : ∀ x : κ, Instr.sameBits 10000 (.agg (ags x)) (.agg (ags x)) = true) : KeyOK P k ek eq where
  check w em x := by rw [hek]; exact hc w em x
  same x y := by rw [hs, hek, hek]; constructor <;> intro h <;> simp_all
  find w x es ks h := by
    have asking : ∀ (es : List MapEntry) (ks : List κ) (i : Nat), es.map (·.key) = ks.map ek → (Instr.findAsking k (ek x) es i).run P w = .ok (mfind eq x ks es i) w := by
      intro es
      induction es with
      | nil => intro ks i h; cases ks <;> rfl
      | cons e es ih =>
        intro ks i h
        cases ks with
        | nil => simp at h
        | cons y ks =>
          simp only [List.map_cons, List.cons.injEq] at h
          unfold Instr.findAsking mfind
          rw [h.1, hek, hek]
          have e1 : (Op.equal k (.agg (ags x)) (.agg (ags y))).run P w = .ok (eq x y) w := he w x y
          simp only [Sem.run_bind, e1, Result.andThen_ok, Sem.run_ite, Sem.run_pure]
          cases eq x y
          · have := ih ks (i + 1) h.2
            rw [hek] at this
            simpa using this
          · simp
    cases es with
    | nil => cases ks <;> simp [Instr.findKey, run_underlying hk, Result.andThen, Instr.findNow, mfind]
    | cons e es =>
      cases ks with
      | nil => simp at h
      | cons y ks =>
        have e0 : e.key = ek y := by simp at h; exact h.1
        have e1 : Instr.findNow d (ek x) (e :: es) 0 = none := by
          unfold Instr.findNow
          rw [e0, hek, hek]
          simp [Instr.sameNow]
        simp only [Instr.findKey, Sem.run_bind, run_underlying hk, Result.andThen_ok, e1]
        exact asking _ _ 0 h
  stays w x := by rw [hek]; simp [Instr.keyThatStays, hb x]
end
section
variable {κ ν : Type} {P : Program} {k : TypeId} {ek : κ → Value} {ev : ν → Value} {eq : κ → κ → Bool} {w : World} {b : Nat} {m : List (κ × ν)}
end
section
variable {P : Program} {n : Nat} {ops : Array Oper} {Q : Exit → Env → World → Prop} {ρ : Env} {w : World}
variable {d : Option Tmp} {ty : TypeId} {pos : String} {after : Array Edge} {g : Option (Nat × Bool)} {K : Value → World → Prop}
end
section
variable {w0 w w' : World} {L : List Ck}
end
end Go.Tb

set_option linter.unusedVariables false
set_option linter.unusedSimpArgs false
namespace Go.Tb
open Go.RowKit
theorem Own.shrink {w : World} {A : Option Addr} {c : Nat} {e : TypeId} {k : Nat} {rows news : List (List Value)} (h : Own w A c e k (rows ++ news)) (hA : A ≠ none) : Own w A c e k rows := by
  refine ⟨?_, fun r hr => h.row r (List.mem_append.2 (.inl hr))⟩
  obtain ⟨h1, h2⟩ := h.own
  have hlen : ∀ l : List (List Value), (∀ r ∈ l, r.length = k) → l.flatten.length = l.length * k := fun l hl => by
    induction l with
    | nil => simp
    | cons r q ih =>
      simp only [List.flatten_cons, List.length_append, List.length_cons, Nat.succ_mul]
      rw [ih (fun r hr => hl r (List.mem_cons_of_mem _ hr)), hl r (List.mem_cons_self ..)]; omega
  have hr := hlen rows (fun r hr => h.row r (List.mem_append.2 (.inl hr)))
  refine ⟨hr, ?_⟩
  rcases h2 with ⟨hv, _⟩ | ⟨g, cap, cur, hv, hg, hh, hn, hm, hs, ht⟩
  · injection hv with hv1; exact absurd hv1 hA
  · injection hv with hv1 hv2 hv3
    subst hv1 hv3
    have hle : rows.length ≤ (rows ++ news).length := by simp
    refine .inr ⟨g, c, cur, rfl, hg, hh, Nat.le_trans hle hn, hm, hs, ?_⟩
    have hk : rows.length * k ≤ (rows ++ news).length * k := Nat.mul_le_mul_right _ hle
    rw [← Nat.min_eq_left hk, ← List.take_take, ht, List.flatten_append, ← hr, List.take_left]
section
variable {P : Program} {n : Nat} {ops : Array Oper} {Q : Exit → Env → World → Prop} {ρ : Env} {w : World}
variable {d : Option Tmp} {ty : TypeId} {pos : String} {after : Array Edge} {g : Option (Nat × Bool)} {K : Value → World → Prop}
theorem Below.drew_ {b : Nat} {w w' : World} (h : Below b w w') : Below b w w'.drew := ⟨h.1, h.2, h.3, h.4, h.5⟩
end
section
variable {w0 w w' : World} {L : List Ck}
/-- A chunk is known as less. -/
theorem Hp.weaken (h : Hp w0 w L) (p : Nat) {x y : Ck} (hp : L[p]? = some x) (hy : y.holds w) (hb : ∀ b ∈ y.bl, b ∈ x.bl) : Hp w0 w (L.set p y) :=
  h.step p hp h.ext (fun _ _ _ => rfl) hy fun b hb' => .inl (hb b hb')
end
end Go.Tb

set_option linter.unusedVariables false
set_option linter.unusedSimpArgs false
namespace Go.Tb
open Go.RowKit
section
variable {P : Program} {n : Nat} {ops : Array Oper} {Q : Exit → Env → World → Prop} {ρ : Env} {w : World}
variable {d : Option Tmp} {ty : TypeId} {pos : String} {after : Array Edge} {g : Option (Nat × Bool)} {K : Value → World → Prop}
end
theorem Own.ne {w : World} {A : Option Addr} {c : Nat} {e : TypeId} {k : Nat} {rows : List (List Value)} (h : Own w A c e k rows) (hr : rows ≠ []) : A ≠ none := by
  rintro rfl
  rcases h.blk with ⟨_, h1, _⟩ | ⟨b, sp, h1, _⟩
  · exact hr h1
  · cases h1
end Go.Tb

set_option linter.unusedVariables false
set_option linter.unusedSimpArgs false
namespace Go.Tb
open Go.RowKit
structure FitsD (n : Nat) (ds : List Deferred) (ρ : Env) (a : Act) : Prop where
  defers : a.defers = ds
  fits : Fits n ρ { a with defers := [] }
def liftD (n : Nat) (ds : List Deferred) (Q : Exit → Env → World → Prop) : Exit → Act → World → Prop := fun e a w => ∃ ρ, FitsD n ds ρ a ∧ Q e ρ w
def CWD (P : Program) (n : Nat) (ds : List Deferred) (c : Code) (Q : Exit → Env → World → Prop) (ρ : Env) (w : World) : Prop := ∀ a, FitsD n ds ρ a → c.wp P (liftD n ds Q) a w
def LWD (P : Program) (n : Nat) (ds : List Deferred) (ops : Array Oper) (Q : Exit → Env → World → Prop) (l : List Oper) (ρ : Env) (w : World) : Prop := ∀ a, FitsD n ds ρ a → wpList P ops (liftD n ds Q) l a w
section
variable {P : Program} {n : Nat} {ds : List Deferred} {ops : Array Oper} {Q : Exit → Env → World → Prop} {ρ : Env} {w : World}
theorem eval_defers (a : Act) (l : List Deferred) : ({ a with defers := l } : Act).eval = a.eval := by
  funext x; cases x <;> rfl
theorem OW.toD {o : Oper} {K : Value → World → Prop} (h : OW P n Q o ρ w K) {a : Act} (ha : FitsD n ds ρ a) : wpV P o a w K (fun c w' => Q (.panic c) ρ w') := by
  have := h _ ha.fits
  unfold wpV at this ⊢
  rw [eval_defers] at this
  exact this
theorem FitsD.upd {a : Act} (h : FitsD n ds ρ a) {d : Option Nat} (hd : okDst n d = true) (v : Value) : FitsD n ds (Tb.upd ρ d v) (a.put d v) := by
  have := h.fits.upd hd v
  refine ⟨?_, ?_⟩
  · cases d <;> exact h.defers
  · cases d <;> exact this
theorem LWD.go {o : Oper} {rest : List Oper} (hg : o.guard = none) (hd : okDst n o.dst = true) (h : OW P n Q o ρ w (fun v w' => LWD P n ds ops Q rest (upd ρ o.dst v) w')) : LWD P n ds ops Q (o :: rest) ρ w := fun a ha => by
  unfold wpList
  rw [if_pos (by simp [Region.wanted, hg])]
  exact .inl (wp_of_wpV (h.toD ha) (fun v w' hk => hk _ (ha.upd hd v)) (fun c w' hk => ⟨ρ, ha, hk⟩))
theorem LWD.pure {o : Oper} {rest : List Oper} {v : Value} (hg : o.guard = none) (hd : okDst n o.dst = true) (h : RV P n o ρ w v) (k : LWD P n ds ops Q rest (upd ρ o.dst v) w) : LWD P n ds ops Q (o :: rest) ρ w :=
  LWD.go hg hd (OW.value h k)
theorem LWD.nil (h : Q .normal ρ w) : LWD P n ds ops Q [] ρ w := fun _ ha => wpList_nil ⟨ρ, ha, h⟩
theorem CWD.region {id : Nat} {l : List Oper} (h : LWD P n ds l.toArray Q l ρ w) : CWD P n ds (.region id l.toArray false) Q ρ w := fun a ha => wp_region_lit (h a ha)
theorem CWD.seq {x y : Code} (h : CWD P n ds x (thenE (fun ρ w => CWD P n ds y Q ρ w) Q) ρ w) : CWD P n ds (.seq x y) Q ρ w := fun a ha => by
  refine wp_seq (wp_mono (h a ha) fun e a' w' hq => ?_)
  obtain ⟨ρ', hf, hq⟩ := hq
  cases e <;> first | exact hq a' hf | exact ⟨ρ', hf, hq⟩
theorem CWD.ret (h : Q .ret ρ w) : CWD P n ds .ret Q ρ w := fun _ ha => wp_ret ⟨ρ, ha, h⟩
variable {d : Option Tmp} {ty : TypeId} {pos : String} {after : Array Edge} {g : Option (Nat × Bool)} {K : Value → World → Prop}
end
end Go.Tb
namespace Go.Tb
theorem Fits.empty {n : Nat} {a : Act} (hd : a.defers = []) (hs : a.tmps.size = n) : Fits n [] a := ⟨hd, hs, fun t v h => by simp [Tb.look] at h⟩
theorem Fits.add {n k : Nat} {v : Value} {ρ : Env} {a : Act} (h : Fits n ρ a) (hv : a.tmps[k]? = some v) : Fits n ((k, v) :: ρ) a := ⟨h.defers, h.size, fun t u hl => by
  unfold Tb.look at hl
  split at hl
  · rename_i hb
    have : k = t := Nat.eq_of_beq_eq_true hb
    subst this
    simp at hl; subst hl; exact hv
  · exact h.at_ t u hl⟩
end Go.Tb
namespace Go.Tb
section
variable {P : Program} {n : Nat} {ops : Array Oper} {Q : Exit → Act → World → Prop} {a : Act} {w : World} {ρ : Env}
end
end Go.Tb
namespace Go.Tb
section
variable {P : Program} {n : Nat} {ρ : Env} {w : World} {d : Option Tmp} {ty : TypeId} {pos : String} {after : Array Edge} {g : Option (Nat × Bool)}
end
end Go.Tb
namespace Go.Tb
section
variable {P : Program} {n : Nat} {ρ : Env} {w : World} {d : Option Tmp} {ty : TypeId} {pos : String} {after : Array Edge} {g : Option (Nat × Bool)}
end
end Go.Tb

set_option linter.unusedVariables false
namespace Go.Tb
structure SlT {α β : Type} (w : World) (A : Option Addr) (c k : Nat) (enc : (Option Addr × Nat) × α → List Value) (f : α → List β) (k2 : Nat) (enc2 : β → List Value) (l : List α) : Prop where
  ex : ∃ hs : List (Option Addr × Nat), hs.length = l.length ∧ Sl w A c k ((hs.zip l).map enc) ∧ ∀ (j : Nat) (h : Option Addr × Nat) (x : α), hs[j]? = some h → l[j]? = some x → Sl w h.1 h.2 k2 ((f x).map enc2)
section
variable {α β : Type} {w w' : World} {A : Option Addr} {c k k2 : Nat} {enc : (Option Addr × Nat) × α → List Value} {f : α → List β} {enc2 : β → List Value} {l : List α}
theorem SlT.ext (h : SlT w A c k enc f k2 enc2 l) (e : Ext w w') : SlT w' A c k enc f k2 enc2 l := by
  obtain ⟨hs, h1, h2, h3⟩ := h.ex
  exact ⟨hs, h1, h2.ext e, fun j h x hj hx => (h3 j h x hj hx).ext e⟩
theorem SlT.at_ (h : SlT w A c k enc f k2 enc2 l) {j : Nat} {x : α} (hx : l[j]? = some x) : ∃ (Aj : Option Addr) (cj : Nat), Cells w (elemPtr A k j) (enc ((Aj, cj), x)) ∧ Sl w Aj cj k2 ((f x).map enc2) := by
  obtain ⟨hs, h1, h2, h3⟩ := h.ex
  have hlt := lt_of_at hx
  have hh : hs[j]? = some hs[j] := by simp [h1, hlt]
  refine ⟨hs[j].1, hs[j].2, ?_, h3 j _ x hh hx⟩
  exact h2.at_ (enc := enc) (x := (hs[j], x)) (by simp [List.getElem?_zip_eq_some, hh, hx])
theorem SlT.addr (h : SlT w A c k enc f k2 enc2 l) {i : Int} (h0 : 0 ≤ i ∧ i < l.length) : ∃ a, A = some a := by
  obtain ⟨hs, h1, h2, _⟩ := h.ex
  exact h2.addr (i := i) (by simp [h1]; omega)
theorem SlT.max (h : SlT w A c k enc f k2 enc2 l) : (l.length : Int) ≤ 9223372036854775807 := by
  obtain ⟨hs, h1, h2, _⟩ := h.ex
  have := h2.max
  simp [h1] at this
  omega
theorem SlT.nil_ : SlT w none 0 k enc f k2 enc2 [] := ⟨⟨[], rfl, Sl.nil (by decide), fun j h l hj => by simp at hj⟩⟩
end
end Go.Tb

set_option linter.unusedVariables false
namespace Go.Tb
open Go.RowKit
section
variable {P : Program} {n : Nat} {ops : Array Oper} {Q : Exit → Env → World → Prop} {ρ : Env} {w : World} {d : Option Tmp} {ty : TypeId} {pos : String} {after : Array Edge} {g : Option (Nat × Bool)} {K : Value → World → Prop}
/-- What an assertion to the type q gives, with its word on whether it holds. -/
def AssertM (P : Program) (q : TypeId) (v r : Value) : Prop := ∀ (t : TypeId) (w : World), (Instr.typeAssert v t q true).run P w = .ok r w
theorem AssertM.yes {q : TypeId} {fs : TypeDesc} {v : Value} (hT : P.underlying q = some fs) (hn : (match fs with | .interface _ => true | _ => false) = false) : AssertM P q (.iface q v) (.tuple #[v, .bool true]) := fun t w => by
  simp only [Instr.typeAssert, Sem.run_bind, run_underlying hT, Result.andThen_ok]
  cases fs <;> simp_all
theorem zeroV_run {q : TypeId} {z : Value} (hz : tyZ P q = some z) (w : World) : (zeroValue q).run P w = .ok z w := by
  unfold tyZ at hz
  cases hi : P.info? q with
  | none => simp [hi] at hz
  | some i => simp [hi] at hz; simp [zeroValue, typeInfo, hi, hz]
theorem AssertM.no {q q' : TypeId} {fs : TypeDesc} {v z : Value} (hT : P.underlying q = some fs) (hn : (match fs with | .interface _ => true | _ => false) = false) (hz : tyZ P q = some z) (hq : q' ≠ q) : AssertM P q (.iface q' v) (.tuple #[z, .bool false]) := fun t w => by
  simp only [Instr.typeAssert, Sem.run_bind, run_underlying hT, Result.andThen_ok]
  cases fs <;> simp_all [zeroV_run hz]
theorem AssertM.nil {q : TypeId} {fs : TypeDesc} {z : Value} (hT : P.underlying q = some fs) (hn : (match fs with | .interface _ => true | _ => false) = false) (hz : tyZ P q = some z) : AssertM P q .nilIface (.tuple #[z, .bool false]) := fun t w => by
  simp only [Instr.typeAssert, Sem.run_bind, run_underlying hT, Result.andThen_ok]
  cases fs <;> simp_all [zeroV_run hz]
/-- A method called through an interface. -/
def CallsM (P : Program) (v : Value) (name : String) (args : List Value) (w : World) (R : Ending → World → Prop) : Prop :=
  ∃ (t : TypeId) (u : Value) (f : FuncId) (r : Value), v = .iface t u ∧ (∀ w, (method (P.types.size + Made.depth) t u name).run P w = .ok (f, r) w) ∧ callable P f = true ∧ Calls P f (r :: args).toArray w R
theorem OW.invoke {recv : Operand} {name : String} {args : Array Operand} {tys : Array TypeId} {vs : List Value} {v : Value} {R : Ending → World → Prop} (hx : ev ρ recv = some v) (hargs : evs ρ args.toList = some vs)
    (hc : CallsM P v name vs w R) (k : ∀ e w', R e w' → ∃ v, e = .returned v ∧ K v w') : OW P n Q ⟨d, .call ⟨.invoke recv name, args, tys⟩, ty, pos, after, g⟩ ρ w K := by
  obtain ⟨t, u, f, r, rfl, hm, hf, hc⟩ := hc
  refine OW.enters (f := f) (args := (r :: vs).toArray) (fun a ha => ?_) hc k
  have h1 : args.map a.eval = vs.toArray := by
    have := ha.evs hargs
    apply Array.toList_inj.1
    rw [Array.toList_map]; exact this
  have hx' := ha.ev hx
  simp only [execOp, resolve, hx', Sem.run_bind, Sem.run_pure, Result.andThen_ok, Go.invoke]
  rw [show (Array.map a.eval args) = vs.toArray from h1]
  have e0 : (#[Value.iface t u] ++ vs.toArray)[0]? = some (.iface t u) := by simp
  have e1 : (#[Value.iface t u] ++ vs.toArray).extract 1 (#[Value.iface t u] ++ vs.toArray).size = vs.toArray := by
    apply Array.toList_inj.1; simp
  simp only [e0, callMethod, Sem.run_bind]
  rw [e1]
  have hp : (program : Sem Program).run P w = .ok P w := rfl
  rw [hp]
  simp only [Result.andThen_ok, hm w]
  have e2 : (#[r] ++ vs.toArray) = (r :: vs).toArray := by
    apply Array.toList_inj.1; simp
  rw [e2]
  exact run_callFunc hf _
end
structure Sl3 {α : Type} (w : World) (A : Option Addr) (c k : Nat) (enc : α → List Value) (lll : List (List (List α))) : Prop where
  ex : ∃ hs : List (Option Addr × Nat), hs.length = lll.length ∧ Sl w A c 1 ((hs.zip lll).map encH) ∧ ∀ (j : Nat) (h : Option Addr × Nat) (l : List (List α)), hs[j]? = some h → lll[j]? = some l → Sl2 w h.1 h.2 k enc l
section
variable {α : Type} {w w' : World} {A : Option Addr} {c k : Nat} {enc : α → List Value} {ll : List (List (List α))}
theorem Sl3.ext (h : Sl3 w A c k enc ll) (e : Ext w w') : Sl3 w' A c k enc ll := by
  obtain ⟨hs, h1, h2, h3⟩ := h.ex
  exact ⟨hs, h1, h2.ext e, fun j h l hj hl => (h3 j h l hj hl).ext e⟩
theorem Sl3.at_ (h : Sl3 w A c k enc ll) {j : Nat} {l : List (List α)} (hl : ll[j]? = some l) : ∃ (Aj : Option Addr) (cj : Nat), Cells w (elemPtr A 1 j) [.slice Aj l.length cj] ∧ Sl2 w Aj cj k enc l := by
  obtain ⟨hs, h1, h2, h3⟩ := h.ex
  have hlt := lt_of_at hl
  have hh : hs[j]? = some hs[j] := by simp [h1, hlt]
  refine ⟨hs[j].1, hs[j].2, ?_, h3 j _ l hh hl⟩
  exact h2.at_ (enc := encH) (x := (hs[j], l)) (by simp [List.getElem?_zip_eq_some, hh, hl])
theorem Sl3.addr (h : Sl3 w A c k enc ll) {i : Int} (h0 : 0 ≤ i ∧ i < ll.length) : ∃ a, A = some a := by
  obtain ⟨hs, h1, h2, _⟩ := h.ex
  exact h2.addr (i := i) (by simp [h1]; omega)
theorem Sl3.nil_ : Sl3 w none 0 k enc ([] : List (List (List α))) := ⟨⟨[], rfl, Sl.nil (by decide), fun j h l hj => by simp at hj⟩⟩
theorem Sl3.one {A1 : Option Addr} {c1 : Nat} {l1 : List (List α)} (h : Sl w A c 1 ([((A1, c1), l1)].map encH)) (s1 : Sl2 w A1 c1 k enc l1) : Sl3 w A c k enc [l1] := by
  refine ⟨[(A1, c1)], rfl, h, fun j x l hj hl => ?_⟩
  match j, hj, hl with
  | 0, hj, hl => simp at hj hl; subst hj; subst hl; exact s1
end
end Go.Tb

set_option linter.unusedVariables false
set_option linter.unusedSimpArgs false
namespace Go.Tb
open Go.RowKit
section
variable {P : Program} {n : Nat} {ops : Array Oper} {Q : Exit → Env → World → Prop} {ρ : Env} {w : World}
variable {d : Option Tmp} {ty : TypeId} {pos : String} {after : Array Edge} {g : Option (Nat × Bool)} {K : Value → World → Prop}
theorem OW.appendZ {α : Type} {enc : α → List Value} (x0 : α) {t tn e m bt : Nat} {kn : IntKind} {z : List Value} {x y : Operand} {k : Int} (hT : tyS P t = some (e, m, bt, z)) (htn : P.underlying tn = some (.int kn))
    (hx : ev ρ x = some (.slice none 0 0)) (hy : ev ρ y = some (.int .i64 k)) (hz : enc x0 = z) (hzl : z.length = m) (hk : ∀ u, (enc u).length = m) (hm0 : Nat.blt 0 m = true) (h : 1 ≤ k ∧ k ≤ 1000000) (hb : bt ≤ 1000000)
    (kk : ∀ b c w', Own w' (some ⟨b, 0, none⟩) c e m ((List.replicate k.toNat x0).map enc) → b = w.heap.size → Ext w w' → K (.slice (some ⟨b, 0, none⟩) (List.replicate k.toNat x0).length c) w') :
    OW P n Q ⟨d, .call ⟨.builtin .append, #[x, y], #[t, tn]⟩, ty, pos, after, g⟩ ρ w K := by
  obtain ⟨hu, i, zv, hi, hs1, hs2, hs3, hs4⟩ := tyS_spec hT
  have hm0' : 0 < m := by simpa [Nat.blt_eq] using hm0
  subst hs1
  have hn0 : 0 < k.toNat := by omega
  have hbytes : (0 + k.toNat) * bt ≤ 140737488355328 := by
    have : k.toNat * bt ≤ 1000000 * 1000000 := Nat.mul_le_mul (by omega) hb
    rw [Nat.zero_add]; omega
  have hold : (Builtin.firstCells i.size 0 (.slice none 0 0)).run P w.drew = .ok (([] : List Value).toArray) w.drew := run_firstCells_none _ _ _ _ _
  have hr := Lib.run_append_grow_zeros (P := P) w t tn ty e i zv .i64 kn hu htn hi hs3 none 0 0 [] hold k.toNat hn0 hm0' (by omega) (by omega) (by rw [hs2]; rw [Nat.zero_add] at hbytes; omega) (growslice_fits (by omega) (by rw [hs2]; exact hbytes))
  have hge := grownCap_ge w (0 + k.toNat) 0 e
  have hcm : grownCap w (0 + k.toNat) 0 e ≤ maxLen := grownCap_le_maxLen w (0 + k.toNat) 0 e (by unfold maxLen; omega)
  simp only [Nat.zero_add] at hr hge hcm
  have hzs : zv.cells.size = i.size := by rw [← hzl, ← hs4]; simp
  have hzc : Builtin.zeroCells zv.cells k.toNat = ((List.replicate k.toNat x0).flatMap enc).toArray := by
    have := zero_flat (x0 := x0) (c := k.toNat) hz hzl hm0
    rw [← this, ← hs4]
  refine OW.value (w' := w.drew.alloc (.cells (([] : List Value).toArray ++ Builtin.zeroCells zv.cells k.toNat ++ Builtin.zeroCells zv.cells (grownCap w k.toNat 0 e - k.toNat)) e)) (v := .slice (some ⟨w.heap.size, 0, none⟩) k.toNat (grownCap w k.toNat 0 e)) (fun a ha => ?_) ?_
  · have e1 : ((k.toNat : Nat) : Int) = k := by omega
    rw [e1] at hr
    simp [execOp, resolve, ha.ev hx, ha.ev hy, Go.invoke, builtin, hr]
  · have e2 : k.toNat = (List.replicate k.toNat x0).length := by simp
    have hL : ((List.replicate k.toNat x0).flatMap enc).length = k.toNat * i.size := by rw [len_flatMap hk]; simp
    have own : Own (w.drew.alloc (.cells (([] : List Value).toArray ++ Builtin.zeroCells zv.cells k.toNat ++ Builtin.zeroCells zv.cells (grownCap w k.toNat 0 e - k.toNat)) e)) (some ⟨w.heap.size, 0, none⟩) (grownCap w k.toNat 0 e) e i.size ((List.replicate k.toNat x0).map enc) := by
      refine ⟨⟨?_, .inr ⟨w.heap.size, _, _, ?_, Nat.zero_le _, heap_alloc_new w.drew _, ?_, hcm, ?_, ?_⟩⟩, ?_⟩
      · rw [← List.flatMap_def, hL]; simp
      · rw [List.length_map]
      · simpa using hge
      · simp only [Array.size_append, List.size_toArray, size_zeroCells, hzs, List.length_nil, Nat.zero_add, ← Nat.add_mul]
        congr 1; omega
      · simp only [hzc, Array.toList_append, List.nil_append, List.length_map, List.length_replicate]
        rw [← List.flatMap_def, ← hL]
        exact List.take_left
      · intro r hr
        obtain ⟨q, _, rfl⟩ := List.mem_map.1 hr
        exact hk q
    have := kk w.heap.size _ _ own rfl (Below.alloc (Below.drew_ (Below.refl _ _)) (Nat.le_refl _) _)
    rw [List.length_replicate] at this
    exact this
end
end Go.Tb
