/- Lemmas and walks that the proof of this claim uses: D4m1, D4m2. -/
import Derived.Test.YtihcdffakmnkdaaCutProves1
set_option linter.unusedVariables false
set_option linter.unusedSimpArgs false
namespace Go.D4
open Go.Tb Go.Proofs Go.RowKit
theorem Ta87 : tyA Try.prog 87 = some (3, 6, 1) := by kernel_rfl
theorem Tc67 : callable Try.prog 67 = true := by kernel_rfl
theorem Tc68 : callable Try.prog 68 = true := by kernel_rfl
theorem Tc69 : callable Try.prog 69 = true := by kernel_rfl
theorem Tc70 : callable Try.prog 70 = true := by kernel_rfl
theorem Tc97 : callable Try.prog 97 = true := by kernel_rfl
theorem Tc99 : callable Try.prog 99 = true := by kernel_rfl
theorem Tf24_0 : tyF Try.prog 24 0 = some 0 := by kernel_rfl
theorem Tk22 : tyK Try.prog 22 = some (false, 1) := by kernel_rfl
theorem Tk24 : tyK Try.prog 24 = some (true, 1) := by kernel_rfl
theorem Tk25 : tyK Try.prog 25 = some (false, 1) := by kernel_rfl
theorem Tk3 : tyK Try.prog 3 = some (false, 1) := by kernel_rfl
theorem Tk87 : tyK Try.prog 87 = some (true, 6) := by kernel_rfl
theorem mixed : Try.prog.follows .mixedOrders = true := by kernel_rfl
theorem Ts22 : tyS Try.prog 22 = some (25, 1, 24, [.slice none 0 0]) := by kernel_rfl
theorem Ts25 : tyS Try.prog 25 = some (3, 1, 8, [.int .i64 0]) := by kernel_rfl
theorem Ts82 : tyS Try.prog 82 = some (87, 6, 48, [.int .i64 0, .int .i64 0, .int .i64 0, .int .i64 0, .int .i64 0, .int .i64 0]) := by kernel_rfl
theorem Tz87 : tyZ Try.prog 87 = some (.agg #[.int .i64 0, .int .i64 0, .int .i64 0, .int .i64 0, .int .i64 0, .int .i64 0]) := by kernel_rfl
set_option maxRecDepth 20000 in
set_option maxHeartbeats 1000000 in
theorem law04_Long_ok {a0 : Bog} {a1 : List (List Int)} {A_a0_worth : Option Addr} {c_a0_worth : Nat} {A_a1 : Option Addr} {c_a1 : Nat} {w : World} {res : Bool} (h_a0_worth : Sl2 w A_a0_worth c_a0_worth 1 encN a0.worth) (h_a1 : Sl2 w A_a1 c_a1 1 encN a1) (F : law04_Long a0 a1 = some res) : Calls Try.prog 17 #[.agg #[.slice A_a0_worth a0.worth.length c_a0_worth], .slice A_a1 a1.length c_a1] w (Rt w (.bool res)) := by
  refine calls_of_cw (args := [.agg #[.slice A_a0_worth a0.worth.length c_a0_worth], .slice A_a1 a1.length c_a1]) Try.func17 rfl rfl rfl rfl ?_
  have H := Hp.start w
  have R0 := H.ext
  unfold law04_Long at F
  refine CW.seq fun K1 hK1 => ?_
  refine CW.region ?_
  refine LW.go rfl rfl (OW.box rfl fun b1 w1 N1 => ?_)
  replace H := H.new N1 N1.blk
  replace R0 := H.ext
  refine LW.pure rfl rfl (RV.assign rfl) ?_
  refine LW.nil (hK1 _ _ ?_)
  refine CW.seqJ (fun ρ wl1 => (law04_Long_k2 a0 = some res ∧ ρ = [(2, .pointer (some (⟨b1, 0, none⟩))), (4, .bool false)] ∧ Hp w wl1 [.blk b1 24 [.slice A_a0_worth a0.worth.length c_a0_worth]])) ?_ ?_
  ·
    rintro _ wl1 ⟨F, rfl, H⟩
    have R0 := H.ext
    unfold law04_Long_k2 at F
    refine CW.seqJ (fun ρ wl2 => (law04_Long_k1 a0 = some res ∧ ρ = [(2, .pointer (some (⟨b1, 0, none⟩))), (4, .bool false)] ∧ Hp w wl2 [.blk b1 24 [.slice A_a0_worth a0.worth.length c_a0_worth]])) ?_ ?_
    ·
      rintro _ wl2 ⟨F, rfl, H⟩
      have R0 := H.ext
      unfold law04_Long_k1 at F
      refine CW.seq fun K2 hK2 => ?_
      refine CW.region ?_
      refine LW.pure rfl rfl (RV.fieldAddr Tf24_0 rfl) ?_
      refine LW.pure rfl rfl (RV.load1 Tk22 rfl ((H.blk 0 rfl).cells.off 0) rfl) ?_
      refine LW.pure rfl rfl (RV.len Ts22 rfl) ?_
      refine LW.pure rfl rfl (RV.gtr rfl rfl) ?_
      refine LW.pure rfl rfl (RV.assign rfl) ?_
      refine LW.nil (hK2 _ _ ?_)
      refine CW.ret ?_
      obtain rfl := Option.some.inj F
      refine ⟨_, (ResOK.one rfl), ?_⟩
      refine ⟨(by first | rfl | simp), R0⟩
    ·
      intro K3 hK3 jK103
      refine CW.seq fun K4 hK4 => ?_
      refine CW.region ?_
      refine LW.pure rfl rfl (RV.assign rfl) ?_
      refine LW.nil (hK4 _ _ ?_)
      refine CW.block ?_
      refine CW.loop (fun meas ρ wl3 => ∃ (t6_1 : Int), law04_Long_L1 a0 meas t6_1 = some res ∧ ρ = [(2, .pointer (some (⟨b1, 0, none⟩))), (4, .bool false), (6, .int .i64 t6_1)] ∧ Hp w wl3 [.blk b1 24 [.slice A_a0_worth a0.worth.length c_a0_worth]]) FU ⟨_, ?_, ((0 : Int)), F, rfl, H⟩ ?_
      · exact ⟨rfl, rfl, rfl, trivial⟩
      rintro mk1 _ wl3 ⟨t6_1, F, rfl, H⟩
      have R0 := H.ext
      replace F := law04_Long_L1_s F
      obtain ⟨mk1, rfl, F⟩ := F
      generalize hrec1 : law04_Long_L1 a0 mk1 = rec1 at F
      unfold law04_Long_B1 at F
      refine CW.seq fun K5 hK5 => ?_
      refine CW.seq fun K6 hK6 => ?_
      refine CW.region ?_
      refine LW.pure rfl rfl (RV.move rfl) ?_
      refine LW.pure rfl rfl (RV.fieldAddr Tf24_0 rfl) ?_
      refine LW.pure rfl rfl (RV.load1 Tk22 rfl ((H.blk 0 rfl).cells.off 0) rfl) ?_
      refine LW.pure rfl rfl (RV.len Ts22 rfl) ?_
      refine LW.pure rfl rfl (RV.lss rfl rfl) ?_
      refine LW.nil (hK6 _ _ ?_)
      by_cases hp1 : t6_1 < ((a0.worth.length : Int))
      ·
        replace F := ite_y hp1 F
        have hq1 := dec_t hp1
        refine CW.condT rfl hq1 ?_
        refine CW.skip (hK5 _ _ ?_)
        refine CW.seq fun K7 hK7 => ?_
        refine CW.block ?_
        refine CW.seq fun K8 hK8 => ?_
        obtain ⟨x1, hbx1, hx1, F⟩ := ix_some F
        refine CW.region ?_
        refine LW.pure rfl rfl (RV.fieldAddr Tf24_0 rfl) ?_
        refine LW.pure rfl rfl (RV.load1 Tk22 rfl ((H.blk 0 rfl).cells.off 0) rfl) ?_
        refine LW.pure rfl rfl (RV.move rfl) ?_
        obtain ⟨A1, c1, hC1, hS1⟩ := h_a0_worth.at_ hx1
        refine LW.pure rfl rfl (RV.indexAddr Ts22 rfl rfl hbx1 (h_a0_worth.addr hbx1)) ?_
        refine LW.pure rfl rfl (RV.load1 Tk25 rfl (hC1.ext R0) rfl) ?_
        refine LW.pure rfl rfl (RV.len Ts25 rfl) ?_
        refine LW.pure rfl rfl (RV.gtr rfl rfl) ?_
        refine LW.nil (hK8 _ _ ?_)
        by_cases hp2 : (50 : Int) < ((x1.length : Int))
        ·
          replace F := ite_y hp2 F
          have hq2 := dec_t hp2
          refine CW.condT rfl hq2 ?_
          refine CW.seq fun K9 hK9 => ?_
          refine CW.region ?_
          refine LW.pure rfl rfl (RV.assign rfl) ?_
          refine LW.nil (hK9 _ _ ?_)
          refine CW.ret ?_
          obtain rfl := Option.some.inj F
          refine ⟨_, (ResOK.one rfl), ?_⟩
          refine ⟨(by first | rfl | simp), R0⟩
        ·
          replace F := ite_n hp2 F
          have hq2 := dec_f hp2
          refine CW.condF rfl hq2 ?_
          refine CW.skip (hK7 _ _ ?_)
          obtain ⟨hg1, F⟩ := gd_some F
          refine CW.region ?_
          refine LW.pure rfl rfl (RV.move rfl) ?_
          refine LW.pure rfl rfl (RV.add rfl rfl hg1) ?_
          refine LW.pure rfl rfl (RV.assign rfl) ?_
          refine LW.nil ?_
          subst hrec1
          refine ⟨mk1, Nat.lt_succ_self _, _, ?_, (t6_1 + 1), F, rfl, H⟩
          exact ⟨rfl, rfl, rfl, trivial⟩
      ·
        replace F := ite_n hp1 F
        have hq1 := dec_f hp1
        refine CW.condF rfl hq1 ?_
        refine CW.exit (jK103 _ _ ⟨_, ?_, ⟨F, rfl, H⟩⟩)
        exact ⟨rfl, rfl, trivial⟩
  ·
    intro K10 hK10 jK120
    refine CW.seq fun K11 hK11 => ?_
    refine CW.region ?_
    refine LW.pure rfl rfl (RV.assign rfl) ?_
    refine LW.nil (hK11 _ _ ?_)
    refine CW.block ?_
    refine CW.loop (fun meas ρ wl4 => ∃ (t5_1 : Int), law04_Long_L2 a0 a1 meas t5_1 = some res ∧ ρ = [(1, .slice A_a1 a1.length c_a1), (2, .pointer (some (⟨b1, 0, none⟩))), (4, .bool false), (5, .int .i64 t5_1)] ∧ Hp w wl4 [.blk b1 24 [.slice A_a0_worth a0.worth.length c_a0_worth]]) FU ⟨_, ?_, ((0 : Int)), F, rfl, H⟩ ?_
    · exact ⟨rfl, rfl, rfl, rfl, trivial⟩
    rintro mk2 _ wl4 ⟨t5_1, F, rfl, H⟩
    have R0 := H.ext
    replace F := law04_Long_L2_s F
    obtain ⟨mk2, rfl, F⟩ := F
    generalize hrec2 : law04_Long_L2 a0 a1 mk2 = rec2 at F
    unfold law04_Long_B2 at F
    refine CW.seq fun K12 hK12 => ?_
    refine CW.seq fun K13 hK13 => ?_
    refine CW.region ?_
    refine LW.pure rfl rfl (RV.move rfl) ?_
    refine LW.pure rfl rfl (RV.move rfl) ?_
    refine LW.pure rfl rfl (RV.len Ts22 rfl) ?_
    refine LW.pure rfl rfl (RV.lss rfl rfl) ?_
    refine LW.nil (hK13 _ _ ?_)
    by_cases hp3 : t5_1 < ((a1.length : Int))
    ·
      replace F := ite_y hp3 F
      have hq3 := dec_t hp3
      refine CW.condT rfl hq3 ?_
      refine CW.skip (hK12 _ _ ?_)
      refine CW.seq fun K14 hK14 => ?_
      refine CW.block ?_
      refine CW.seq fun K15 hK15 => ?_
      obtain ⟨x2, hbx2, hx2, F⟩ := ix_some F
      refine CW.region ?_
      refine LW.pure rfl rfl (RV.move rfl) ?_
      refine LW.pure rfl rfl (RV.move rfl) ?_
      obtain ⟨A2, c2, hC2, hS2⟩ := h_a1.at_ hx2
      refine LW.pure rfl rfl (RV.indexAddr Ts22 rfl rfl hbx2 (h_a1.addr hbx2)) ?_
      refine LW.pure rfl rfl (RV.load1 Tk25 rfl (hC2.ext R0) rfl) ?_
      refine LW.pure rfl rfl (RV.len Ts25 rfl) ?_
      refine LW.pure rfl rfl (RV.gtr rfl rfl) ?_
      refine LW.nil (hK15 _ _ ?_)
      by_cases hp4 : (100 : Int) < ((x2.length : Int))
      ·
        replace F := ite_y hp4 F
        have hq4 := dec_t hp4
        refine CW.condT rfl hq4 ?_
        refine CW.seq fun K16 hK16 => ?_
        refine CW.region ?_
        refine LW.pure rfl rfl (RV.assign rfl) ?_
        refine LW.nil (hK16 _ _ ?_)
        refine CW.ret ?_
        obtain rfl := Option.some.inj F
        refine ⟨_, (ResOK.one rfl), ?_⟩
        refine ⟨(by first | rfl | simp), R0⟩
      ·
        replace F := ite_n hp4 F
        have hq4 := dec_f hp4
        refine CW.condF rfl hq4 ?_
        refine CW.skip (hK14 _ _ ?_)
        obtain ⟨hg2, F⟩ := gd_some F
        refine CW.region ?_
        refine LW.pure rfl rfl (RV.move rfl) ?_
        refine LW.pure rfl rfl (RV.add rfl rfl hg2) ?_
        refine LW.pure rfl rfl (RV.assign rfl) ?_
        refine LW.nil ?_
        subst hrec2
        refine ⟨mk2, Nat.lt_succ_self _, _, ?_, (t5_1 + 1), F, rfl, H⟩
        exact ⟨rfl, rfl, rfl, rfl, trivial⟩
    ·
      replace F := ite_n hp3 F
      have hq3 := dec_f hp3
      refine CW.condF rfl hq3 ?_
      refine CW.exit (jK120 _ _ ⟨_, ?_, ⟨F, rfl, H⟩⟩)
      exact ⟨rfl, rfl, trivial⟩
set_option maxRecDepth 20000 in
set_option maxHeartbeats 1000000 in
theorem cut_from_ok {a0 : Int} {a1 : Int} {a2 : Int} {w : World} {res : Bool} (F : cut_from a0 a1 a2 = some res) : Calls Try.prog 67 #[.int .i64 a0, .int .i64 a1, .int .i64 a2] w (Rt w (.bool res)) := by
  refine calls_of_cw (args := [.int .i64 a0, .int .i64 a1, .int .i64 a2]) Try.func67 rfl rfl rfl rfl ?_
  have H := Hp.start w
  have R0 := H.ext
  unfold cut_from at F
  refine CW.seq fun K1 hK1 => ?_
  refine CW.region ?_
  refine LW.pure rfl rfl (RV.assign rfl) ?_
  refine LW.nil (hK1 _ _ ?_)
  refine CW.seq fun K2 hK2 => ?_
  by_cases hp1 : a1 ≤ a0
  ·
    replace F := ite_y hp1 F
    have hq1 := dec_t hp1
    refine CW.region ?_
    refine LW.pure rfl rfl (RV.move rfl) ?_
    refine LW.pure rfl rfl (RV.move rfl) ?_
    refine LW.pure rfl rfl (RV.leq rfl rfl) ?_
    refine LW.pure rfl rfl (RV.move rfl) ?_
    refine LW.pureYB rfl rfl rfl rfl hq1 (RV.move rfl) ?_
    refine LW.pureYB rfl rfl rfl rfl hq1 (RV.move rfl) ?_
    refine LW.pureYB rfl rfl rfl rfl hq1 (RV.leq rfl rfl) ?_
    refine LW.pure rfl rfl (RV.pickTB rfl hq1 rfl) ?_
    refine LW.pure rfl rfl (RV.assign rfl) ?_
    refine LW.nil (hK2 _ _ ?_)
    refine CW.ret ?_
    obtain rfl := Option.some.inj F
    refine ⟨_, (ResOK.one rfl), ?_⟩
    refine ⟨(by first | rfl | simp), R0⟩
  ·
    replace F := ite_n hp1 F
    have hq1 := dec_f hp1
    refine CW.region ?_
    refine LW.pure rfl rfl (RV.move rfl) ?_
    refine LW.pure rfl rfl (RV.move rfl) ?_
    refine LW.pure rfl rfl (RV.leq rfl rfl) ?_
    refine LW.pure rfl rfl (RV.move rfl) ?_
    refine LW.noB rfl rfl rfl rfl (ne_beq (v := false) hq1 rfl) ?_
    refine LW.noB rfl rfl rfl rfl (ne_beq (v := false) hq1 rfl) ?_
    refine LW.noB rfl rfl rfl rfl (ne_beq (v := false) hq1 rfl) ?_
    refine LW.pure rfl rfl (RV.pickFB rfl hq1 rfl) ?_
    refine LW.pure rfl rfl (RV.assign rfl) ?_
    refine LW.nil (hK2 _ _ ?_)
    refine CW.ret ?_
    obtain rfl := Option.some.inj F
    refine ⟨_, (ResOK.one rfl), ?_⟩
    refine ⟨(by first | rfl | simp), R0⟩
set_option maxRecDepth 20000 in
set_option maxHeartbeats 1000000 in
theorem cut_depth_ok {a0 : Bog} {A_a0_worth : Option Addr} {c_a0_worth : Nat} {w : World} {res : Int} (h_a0_worth : Sl2 w A_a0_worth c_a0_worth 1 encN a0.worth) (F : cut_depth a0 = some res) : Calls Try.prog 68 #[.agg #[.slice A_a0_worth a0.worth.length c_a0_worth]] w (Rt w (.int .i64 res)) := by
  refine calls_of_cw (args := [.agg #[.slice A_a0_worth a0.worth.length c_a0_worth]]) Try.func68 rfl rfl rfl rfl ?_
  have H := Hp.start w
  have R0 := H.ext
  unfold cut_depth at F
  refine CW.seq fun K1 hK1 => ?_
  refine CW.region ?_
  refine LW.go rfl rfl (OW.box rfl fun b1 w1 N1 => ?_)
  replace H := H.new N1 N1.blk
  replace R0 := H.ext
  refine LW.pure rfl rfl (RV.assign rfl) ?_
  refine LW.nil (hK1 _ _ ?_)
  refine CW.seq fun K2 hK2 => ?_
  obtain ⟨x1, hbx1, hx1, F⟩ := ix_some F
  refine CW.region ?_
  refine LW.pure rfl rfl (RV.fieldAddr Tf24_0 rfl) ?_
  refine LW.pure rfl rfl (RV.load1 Tk22 rfl ((H.blk 0 rfl).cells.off 0) rfl) ?_
  obtain ⟨A1, c1, hC1, hS1⟩ := h_a0_worth.at_ hx1
  refine LW.pure rfl rfl (RV.indexAddr Ts22 rfl rfl hbx1 (h_a0_worth.addr hbx1)) ?_
  refine LW.pure rfl rfl (RV.load1 Tk25 rfl (hC1.ext R0) rfl) ?_
  refine LW.pure rfl rfl (RV.len Ts25 rfl) ?_
  refine LW.pure rfl rfl (RV.assign rfl) ?_
  refine LW.nil (hK2 _ _ ?_)
  refine CW.ret ?_
  obtain rfl := Option.some.inj F
  refine ⟨_, (ResOK.one rfl), ?_⟩
  refine ⟨(by first | rfl | simp), R0⟩
set_option maxRecDepth 20000 in
set_option maxHeartbeats 1000000 in
theorem slices_IndexFunc_int_ok {a0 : List Int} {a1 : Int → Option Bool} {A_a0 : Option Addr} {c_a0 : Nat} {f_a1 : Nat} {p_a1 : Array Value} {q_a1 : Array Value} {w : World} {res : Int} (h_a0 : Sl w A_a0 c_a0 1 (a0.map encN)) (h_a1 : ∀ (x2 : Int) (r : Bool), a1 x2 = some r → ∀ w1, Ext w w1 → CallsV Try.prog f_a1 p_a1 q_a1 #[.int .i64 x2] w1 (Rt w1 (.bool r))) (F : slices_IndexFunc_int a0 a1 = some res) : Calls Try.prog 97 #[.slice A_a0 a0.length c_a0, .func (.func f_a1) p_a1 q_a1] w (Rt w (.int .i64 res)) := by
  refine calls_of_cw (args := [.slice A_a0 a0.length c_a0, .func (.func f_a1) p_a1 q_a1]) Try.func97 rfl rfl rfl rfl ?_
  have H := Hp.start w
  have R0 := H.ext
  unfold slices_IndexFunc_int at F
  refine CW.seq fun K1 hK1 => ?_
  refine CW.region ?_
  refine LW.pure rfl rfl (RV.assign rfl) ?_
  refine LW.nil (hK1 _ _ ?_)
  refine CW.seqJ (fun ρ wl1 => (slices_IndexFunc_int_k1 = some res ∧ ρ = [(4, .int .i64 0)] ∧ Hp w wl1 [])) ?_ ?_
  ·
    rintro _ wl1 ⟨F, rfl, H⟩
    have R0 := H.ext
    unfold slices_IndexFunc_int_k1 at F
    refine CW.seq fun K2 hK2 => ?_
    refine CW.region ?_
    refine LW.pure rfl rfl (RV.assign rfl) ?_
    refine LW.nil (hK2 _ _ ?_)
    refine CW.ret ?_
    obtain rfl := Option.some.inj F
    refine ⟨_, (ResOK.one rfl), ?_⟩
    refine ⟨(by first | rfl | simp), R0⟩
  ·
    intro K3 hK3 jK63
    refine CW.seq fun K4 hK4 => ?_
    refine CW.region ?_
    refine LW.pure rfl rfl (RV.move rfl) ?_
    refine LW.pure rfl rfl (RV.len Ts25 rfl) ?_
    refine LW.pure rfl rfl (RV.move rfl) ?_
    refine LW.nil (hK4 _ _ ?_)
    refine CW.block ?_
    refine CW.loop (fun meas ρ wl2 => ∃ (t8_1 : Int), slices_IndexFunc_int_L1 a0 a1 meas t8_1 = some res ∧ ρ = [(0, .slice A_a0 a0.length c_a0), (1, .func (.func f_a1) p_a1 q_a1), (4, .int .i64 0), (7, .int .i64 ((a0.length : Int))), (8, .int .i64 t8_1)] ∧ Hp w wl2 []) FU ⟨_, ?_, ((0 : Int)), F, rfl, H⟩ ?_
    · exact ⟨rfl, rfl, rfl, rfl, rfl, trivial⟩
    rintro mk1 _ wl2 ⟨t8_1, F, rfl, H⟩
    have R0 := H.ext
    replace F := slices_IndexFunc_int_L1_s F
    obtain ⟨mk1, rfl, F⟩ := F
    generalize hrec1 : slices_IndexFunc_int_L1 a0 a1 mk1 = rec1 at F
    unfold slices_IndexFunc_int_B1 at F
    refine CW.seq fun K5 hK5 => ?_
    refine CW.region ?_
    refine LW.pure rfl rfl (RV.lss rfl rfl) ?_
    refine LW.nil (hK5 _ _ ?_)
    refine CW.seq fun K6 hK6 => ?_
    by_cases hp1 : t8_1 < ((a0.length : Int))
    ·
      replace F := ite_y hp1 F
      have hq1 := dec_t hp1
      refine CW.condT rfl hq1 ?_
      refine CW.skip (hK6 _ _ ?_)
      refine CW.seq fun K7 hK7 => ?_
      refine CW.block ?_
      refine CW.seq fun K8 hK8 => ?_
      refine CW.region ?_
      refine LW.pure rfl rfl (RV.move rfl) ?_
      refine LW.pure rfl rfl (RV.assign rfl) ?_
      refine LW.nil (hK8 _ _ ?_)
      refine CW.seq fun K9 hK9 => ?_
      obtain ⟨x1, hbx1, hx1, F⟩ := ix_some F
      obtain ⟨r1, hr1, F⟩ := bnd_some F
      refine CW.region ?_
      refine LW.pure rfl rfl (RV.move rfl) ?_
      refine LW.pure rfl rfl (RV.move rfl) ?_
      refine LW.pure rfl rfl (RV.move rfl) ?_
      refine LW.pure rfl rfl (RV.indexAddr Ts25 rfl rfl hbx1 (h_a0.addr_ hx1)) ?_
      refine LW.pure rfl rfl (RV.load1 Tk3 rfl ((h_a0.at_ hx1).ext R0) rfl) ?_
      refine LW.go rfl rfl (OW.callV2 rfl rfl rfl (h_a1 _ _ hr1 _ R0) ?_)
      rintro _ w2 ⟨rfl, E1⟩
      refine ⟨_, rfl, ?_⟩
      replace H := H.grow E1
      replace R0 := H.ext
      refine LW.nil (hK9 _ _ ?_)
      by_cases hp2 : r1 = true
      ·
        replace F := ite_y hp2 F
        have hq2 : r1 = true := hp2
        refine CW.condT rfl hq2 ?_
        refine CW.seq fun K10 hK10 => ?_
        refine CW.region ?_
        refine LW.pure rfl rfl (RV.move rfl) ?_
        refine LW.pure rfl rfl (RV.assign rfl) ?_
        refine LW.nil (hK10 _ _ ?_)
        refine CW.ret ?_
        obtain rfl := Option.some.inj F
        refine ⟨_, (ResOK.one rfl), ?_⟩
        refine ⟨(by first | rfl | simp), R0⟩
      ·
        replace F := ite_n hp2 F
        have hq2 : r1 = false := raw_f hp2
        refine CW.condF rfl hq2 ?_
        refine CW.skip (hK7 _ _ ?_)
        obtain ⟨hg1, F⟩ := gd_some F
        refine CW.region ?_
        refine LW.pure rfl rfl (RV.add rfl rfl hg1) ?_
        refine LW.pure rfl rfl (RV.move rfl) ?_
        refine LW.nil ?_
        subst hrec1
        refine ⟨mk1, Nat.lt_succ_self _, _, ?_, (t8_1 + 1), F, rfl, H⟩
        exact ⟨rfl, rfl, rfl, rfl, rfl, trivial⟩
    ·
      replace F := ite_n hp1 F
      have hq1 := dec_f hp1
      refine CW.condF rfl hq1 ?_
      refine CW.exit (jK63 _ _ ⟨_, ?_, ⟨F, rfl, H⟩⟩)
      exact ⟨rfl, trivial⟩
set_option maxRecDepth 20000 in
set_option maxHeartbeats 1000000 in
theorem slices_ContainsFunc_int_ok {a0 : List Int} {a1 : Int → Option Bool} {A_a0 : Option Addr} {c_a0 : Nat} {f_a1 : Nat} {p_a1 : Array Value} {q_a1 : Array Value} {w : World} {res : Bool} (h_a0 : Sl w A_a0 c_a0 1 (a0.map encN)) (h_a1 : ∀ (x0 : Int) (r : Bool), a1 x0 = some r → ∀ w1, Ext w w1 → CallsV Try.prog f_a1 p_a1 q_a1 #[.int .i64 x0] w1 (Rt w1 (.bool r))) (F : slices_ContainsFunc_int a0 a1 = some res) : Calls Try.prog 69 #[.slice A_a0 a0.length c_a0, .func (.func f_a1) p_a1 q_a1] w (Rt w (.bool res)) := by
  refine calls_of_cw (args := [.slice A_a0 a0.length c_a0, .func (.func f_a1) p_a1 q_a1]) Try.func69 rfl rfl rfl rfl ?_
  have H := Hp.start w
  have R0 := H.ext
  unfold slices_ContainsFunc_int at F
  refine CW.seq fun K1 hK1 => ?_
  refine CW.region ?_
  refine LW.pure rfl rfl (RV.assign rfl) ?_
  refine LW.nil (hK1 _ _ ?_)
  refine CW.seq fun K2 hK2 => ?_
  obtain ⟨r1, hr1, F⟩ := bnd_some F
  refine CW.region ?_
  refine LW.pure rfl rfl (RV.move rfl) ?_
  refine LW.pure rfl rfl (RV.move rfl) ?_
  refine LW.go rfl rfl (OW.call Tc97 rfl (slices_IndexFunc_int_ok (a0 := a0) (a1 := a1) (h_a0.ext R0) (fun x0 r hF w1 hE => h_a1 x0 r hF w1 (R0.trans hE)) hr1) ?_)
  rintro _ w2 ⟨rfl, E1⟩
  refine ⟨_, rfl, ?_⟩
  replace H := H.grow E1
  replace R0 := H.ext
  refine LW.pure rfl rfl (RV.geq rfl rfl) ?_
  refine LW.pure rfl rfl (RV.assign rfl) ?_
  refine LW.nil (hK2 _ _ ?_)
  refine CW.ret ?_
  obtain rfl := Option.some.inj F
  refine ⟨_, (ResOK.one rfl), ?_⟩
  refine ⟨(by first | rfl | simp), R0⟩
set_option maxRecDepth 20000 in
set_option maxHeartbeats 1000000 in
theorem cut_Validate_1_ok {a0 : Int} {w : World} {res : Bool} (F : cut_Validate_1 a0 = some res) : Calls Try.prog 70 #[.int .i64 a0] w (Rt w (.bool res)) := by
  refine calls_of_cw (args := [.int .i64 a0]) Try.func70 rfl rfl rfl rfl ?_
  have H := Hp.start w
  have R0 := H.ext
  unfold cut_Validate_1 at F
  refine CW.seq fun K1 hK1 => ?_
  refine CW.region ?_
  refine LW.pure rfl rfl (RV.assign rfl) ?_
  refine LW.nil (hK1 _ _ ?_)
  refine CW.seq fun K2 hK2 => ?_
  obtain ⟨r1, hr1, F⟩ := bnd_some F
  refine CW.region ?_
  refine LW.pure rfl rfl (RV.move rfl) ?_
  refine LW.go rfl rfl (OW.call Tc67 rfl (cut_from_ok (a0 := a0) (a1 := (-50 : Int)) (a2 := (50 : Int)) hr1) ?_)
  rintro _ w1 ⟨rfl, E1⟩
  refine ⟨_, rfl, ?_⟩
  replace H := H.grow E1
  replace R0 := H.ext
  refine LW.pure rfl rfl (RV.not rfl) ?_
  refine LW.pure rfl rfl (RV.assign rfl) ?_
  refine LW.nil (hK2 _ _ ?_)
  refine CW.ret ?_
  obtain rfl := Option.some.inj F
  refine ⟨_, (ResOK.one rfl), ?_⟩
  refine ⟨(by first | rfl | simp), R0⟩
set_option maxRecDepth 20000 in
set_option maxHeartbeats 1000000 in
theorem cut_Validate_ok {a0 : Bog} {A_a0_worth : Option Addr} {c_a0_worth : Nat} {w : World} {res : Int} (h_a0_worth : Sl2 w A_a0_worth c_a0_worth 1 encN a0.worth) (F : cut_Validate a0 = some res) : Calls Try.prog 25 #[.agg #[.slice A_a0_worth a0.worth.length c_a0_worth]] w (Rt w (.int .i64 res)) := by
  refine calls_of_cw (args := [.agg #[.slice A_a0_worth a0.worth.length c_a0_worth]]) Try.func25 rfl rfl rfl rfl ?_
  have H := Hp.start w
  have R0 := H.ext
  unfold cut_Validate at F
  refine CW.seq fun K1 hK1 => ?_
  refine CW.region ?_
  refine LW.go rfl rfl (OW.box rfl fun b1 w1 N1 => ?_)
  replace H := H.new N1 N1.blk
  replace R0 := H.ext
  refine LW.pure rfl rfl (RV.assign rfl) ?_
  refine LW.nil (hK1 _ _ ?_)
  refine CW.seq fun K2 hK2 => ?_
  refine CW.seqJ (fun ρ wl1 => (∃ (t15_1 : Bool), cut_Validate_k3 a0 t15_1 = some res ∧ ρ = [(1, .pointer (some (⟨b1, 0, none⟩))), (2, .int .i64 0), (15, .bool t15_1)] ∧ Hp w wl1 [.blk b1 24 [.slice A_a0_worth a0.worth.length c_a0_worth]])) ?_ ?_
  ·
    rintro _ wl1 ⟨t15_1, F, rfl, H⟩
    have R0 := H.ext
    unfold cut_Validate_k3 at F
    by_cases hp1 : t15_1 = true
    ·
      replace F := ite_y hp1 F
      have hq1 : t15_1 = true := hp1
      refine CW.condT rfl hq1 ?_
      refine CW.seq fun K3 hK3 => ?_
      refine CW.region ?_
      refine LW.pure rfl rfl (RV.assign rfl) ?_
      refine LW.nil (hK3 _ _ ?_)
      refine CW.ret ?_
      obtain rfl := Option.some.inj F
      refine ⟨_, (ResOK.one rfl), ?_⟩
      refine ⟨(by first | rfl | simp), R0⟩
    ·
      replace F := ite_n hp1 F
      have hq1 : t15_1 = false := raw_f hp1
      refine CW.condF rfl hq1 ?_
      refine CW.skip (hK2 _ _ ?_)
      refine CW.seqJ (fun ρ wl2 => (cut_Validate_k1 = some res ∧ ρ = [(2, .int .i64 0)] ∧ Hp w wl2 [])) ?_ ?_
      ·
        rintro _ wl2 ⟨F, rfl, H⟩
        have R0 := H.ext
        unfold cut_Validate_k1 at F
        refine CW.seq fun K4 hK4 => ?_
        refine CW.region ?_
        refine LW.pure rfl rfl (RV.assign rfl) ?_
        refine LW.nil (hK4 _ _ ?_)
        refine CW.ret ?_
        obtain rfl := Option.some.inj F
        refine ⟨_, (ResOK.one rfl), ?_⟩
        refine ⟨(by first | rfl | simp), R0⟩
      ·
        intro K5 hK5 jK68
        refine CW.seq fun K6 hK6 => ?_
        refine CW.region ?_
        refine LW.pure rfl rfl (RV.fieldAddr Tf24_0 rfl) ?_
        refine LW.pure rfl rfl (RV.load1 Tk22 rfl ((H.blk 0 rfl).cells.off 0) rfl) ?_
        refine LW.pure rfl rfl (RV.len Ts22 rfl) ?_
        refine LW.pure rfl rfl (RV.move rfl) ?_
        refine LW.nil (hK6 _ _ ?_)
        refine CW.block ?_
        refine CW.loop (fun meas ρ wl3 => ∃ (t19_1 : Int), cut_Validate_L1 a0 meas t19_1 = some res ∧ ρ = [(1, .pointer (some (⟨b1, 0, none⟩))), (2, .int .i64 0), (17, .slice A_a0_worth a0.worth.length c_a0_worth), (18, .int .i64 ((a0.worth.length : Int))), (19, .int .i64 t19_1)] ∧ Hp w wl3 [.blk b1 24 [.slice A_a0_worth a0.worth.length c_a0_worth]]) FU ⟨_, ?_, ((0 : Int)), F, rfl, H⟩ ?_
        · exact ⟨rfl, rfl, rfl, rfl, rfl, trivial⟩
        rintro mk1 _ wl3 ⟨t19_1, F, rfl, H⟩
        have R0 := H.ext
        replace F := cut_Validate_L1_s F
        obtain ⟨mk1, rfl, F⟩ := F
        generalize hrec1 : cut_Validate_L1 a0 mk1 = rec1 at F
        unfold cut_Validate_B1 at F
        refine CW.seq fun K7 hK7 => ?_
        refine CW.region ?_
        refine LW.pure rfl rfl (RV.lss rfl rfl) ?_
        refine LW.nil (hK7 _ _ ?_)
        refine CW.seq fun K8 hK8 => ?_
        by_cases hp2 : t19_1 < ((a0.worth.length : Int))
        ·
          replace F := ite_y hp2 F
          have hq2 := dec_t hp2
          refine CW.condT rfl hq2 ?_
          refine CW.skip (hK8 _ _ ?_)
          refine CW.seq fun K9 hK9 => ?_
          refine CW.block ?_
          refine CW.seq fun K10 hK10 => ?_
          obtain ⟨x1, hbx1, hx1, F⟩ := ix_some F
          refine CW.region ?_
          obtain ⟨A1, c1, hC1, hS1⟩ := h_a0_worth.at_ hx1
          refine LW.pure rfl rfl (RV.indexAddr Ts22 rfl rfl hbx1 (h_a0_worth.addr hbx1)) ?_
          refine LW.pure rfl rfl (RV.load1 Tk25 rfl (hC1.ext R0) rfl) ?_
          refine LW.pure rfl rfl (RV.assign rfl) ?_
          refine LW.nil (hK10 _ _ ?_)
          refine CW.seqJ (fun ρ wl4 => (∃ (t31_1 : Bool), cut_Validate_k2 t19_1 rec1 t31_1 = some res ∧ ρ = [(1, .pointer (some (⟨b1, 0, none⟩))), (2, .int .i64 0), (17, .slice A_a0_worth a0.worth.length c_a0_worth), (18, .int .i64 ((a0.worth.length : Int))), (19, .int .i64 t19_1), (31, .bool t31_1)] ∧ Hp w wl4 [.blk b1 24 [.slice A_a0_worth a0.worth.length c_a0_worth]])) ?_ ?_
          ·
            rintro _ wl4 ⟨t31_1, F, rfl, H⟩
            have R0 := H.ext
            unfold cut_Validate_k2 at F
            by_cases hp3 : t31_1 = true
            ·
              replace F := ite_y hp3 F
              have hq3 : t31_1 = true := hp3
              refine CW.condT rfl hq3 ?_
              refine CW.seq fun K11 hK11 => ?_
              refine CW.region ?_
              refine LW.pure rfl rfl (RV.assign rfl) ?_
              refine LW.nil (hK11 _ _ ?_)
              refine CW.ret ?_
              obtain rfl := Option.some.inj F
              refine ⟨_, (ResOK.one rfl), ?_⟩
              refine ⟨(by first | rfl | simp), R0⟩
            ·
              replace F := ite_n hp3 F
              have hq3 : t31_1 = false := raw_f hp3
              refine CW.condF rfl hq3 ?_
              refine CW.skip (hK9 _ _ ?_)
              obtain ⟨hg1, F⟩ := gd_some F
              refine CW.region ?_
              refine LW.pure rfl rfl (RV.add rfl rfl hg1) ?_
              refine LW.pure rfl rfl (RV.move rfl) ?_
              refine LW.nil ?_
              subst hrec1
              refine ⟨mk1, Nat.lt_succ_self _, _, ?_, (t19_1 + 1), F, rfl, H⟩
              exact ⟨rfl, rfl, rfl, rfl, rfl, trivial⟩
          ·
            intro K12 hK12 jK87
            obtain ⟨r1, hr1, F⟩ := bnd_some F
            by_cases hp4 : ((x1.length : Int)) = r1
            ·
              replace F := ite_y hp4 F
              have hq4 := dec_t hp4
              obtain ⟨r2, hr2, F⟩ := bnd_some F
              refine CW.region ?_
              refine LW.pure rfl rfl (RV.move rfl) ?_
              refine LW.pure rfl rfl (RV.len Ts25 rfl) ?_
              refine LW.pure rfl rfl (RV.loadA [.slice A_a0_worth a0.worth.length c_a0_worth] Tk24 rfl (H.blk 0 rfl).cells rfl rfl) ?_
              refine LW.go rfl rfl (OW.call Tc68 rfl (cut_depth_ok (a0 := a0) (h_a0_worth.ext R0) hr1) ?_)
              rintro _ w2 ⟨rfl, E1⟩
              refine ⟨_, rfl, ?_⟩
              replace H := H.grow E1
              replace R0 := H.ext
              refine LW.pure rfl rfl (RV.nei rfl rfl) ?_
              refine LW.pure rfl rfl (RV.move rfl) ?_
              refine LW.pureYB rfl rfl rfl rfl (not_f hq4) (RV.move rfl) ?_
              refine LW.yesB rfl rfl rfl rfl (not_f hq4) (OW.call Tc69 rfl (slices_ContainsFunc_int_ok (a0 := x1) (a1 := cut_Validate_1) (hS1.ext R0) (fun x2 r hF w3 hE => CallsV.of Tc70 (cut_Validate_1_ok (a0 := x2) hF)) hr2) ?_)
              rintro _ w4 ⟨rfl, E2⟩
              refine ⟨_, rfl, ?_⟩
              replace H := H.grow E2
              replace R0 := H.ext
              refine LW.pure rfl rfl (RV.pickFB rfl (not_f hq4) rfl) ?_
              refine LW.nil (jK87 _ _ ⟨_, ?_, ⟨r2, F, rfl, H⟩⟩)
              exact ⟨rfl, rfl, rfl, rfl, rfl, rfl, trivial⟩
            ·
              replace F := ite_n hp4 F
              have hq4 := dec_f hp4
              refine CW.region ?_
              refine LW.pure rfl rfl (RV.move rfl) ?_
              refine LW.pure rfl rfl (RV.len Ts25 rfl) ?_
              refine LW.pure rfl rfl (RV.loadA [.slice A_a0_worth a0.worth.length c_a0_worth] Tk24 rfl (H.blk 0 rfl).cells rfl rfl) ?_
              refine LW.go rfl rfl (OW.call Tc68 rfl (cut_depth_ok (a0 := a0) (h_a0_worth.ext R0) hr1) ?_)
              rintro _ w5 ⟨rfl, E3⟩
              refine ⟨_, rfl, ?_⟩
              replace H := H.grow E3
              replace R0 := H.ext
              refine LW.pure rfl rfl (RV.nei rfl rfl) ?_
              refine LW.pure rfl rfl (RV.move rfl) ?_
              refine LW.noB rfl rfl rfl rfl (ne_beq (v := true) (not_t hq4) rfl) ?_
              refine LW.noB rfl rfl rfl rfl (ne_beq (v := true) (not_t hq4) rfl) ?_
              refine LW.pure rfl rfl (RV.pickTB rfl (not_t hq4) rfl) ?_
              refine LW.nil (jK87 _ _ ⟨_, ?_, ⟨true, F, rfl, H⟩⟩)
              exact ⟨rfl, rfl, rfl, rfl, rfl, rfl, trivial⟩
        ·
          replace F := ite_n hp2 F
          have hq2 := dec_f hp2
          refine CW.condF rfl hq2 ?_
          replace H := H.pick (L' := []) [] (by decide) rfl
          replace R0 := H.ext
          refine CW.exit (jK68 _ _ ⟨_, ?_, ⟨F, rfl, H⟩⟩)
          exact ⟨rfl, trivial⟩
  ·
    intro K13 hK13 jK88
    obtain ⟨r3, hr3, F⟩ := bnd_some F
    by_cases hp5 : r3 = true
    ·
      replace F := ite_y hp5 F
      have hq5 : r3 = true := hp5
      obtain ⟨r4, hr4, F⟩ := bnd_some F
      obtain ⟨r5, hr5, F⟩ := bnd_some F
      refine CW.region ?_
      refine LW.pure rfl rfl (RV.fieldAddr Tf24_0 rfl) ?_
      refine LW.pure rfl rfl (RV.load1 Tk22 rfl ((H.blk 0 rfl).cells.off 0) rfl) ?_
      refine LW.pure rfl rfl (RV.len Ts22 rfl) ?_
      refine LW.go rfl rfl (OW.call Tc67 rfl (cut_from_ok (a0 := (a0.worth.length : Int)) (a1 := (1 : Int)) (a2 := (6 : Int)) hr3) ?_)
      rintro _ w6 ⟨rfl, E4⟩
      refine ⟨_, rfl, ?_⟩
      replace H := H.grow E4
      replace R0 := H.ext
      refine LW.pure rfl rfl (RV.not rfl) ?_
      refine LW.pure rfl rfl (RV.move rfl) ?_
      refine LW.pureYB rfl rfl rfl rfl (not_f hq5) (RV.loadA [.slice A_a0_worth a0.worth.length c_a0_worth] Tk24 rfl (H.blk 0 rfl).cells rfl rfl) ?_
      refine LW.yesB rfl rfl rfl rfl (not_f hq5) (OW.call Tc68 rfl (cut_depth_ok (a0 := a0) (h_a0_worth.ext R0) hr4) ?_)
      rintro _ w7 ⟨rfl, E5⟩
      refine ⟨_, rfl, ?_⟩
      replace H := H.grow E5
      replace R0 := H.ext
      refine LW.yesB rfl rfl rfl rfl (not_f hq5) (OW.call Tc67 rfl (cut_from_ok (a0 := r4) (a1 := (1 : Int)) (a2 := (4 : Int)) hr5) ?_)
      rintro _ w8 ⟨rfl, E6⟩
      refine ⟨_, rfl, ?_⟩
      replace H := H.grow E6
      replace R0 := H.ext
      refine LW.pureYB rfl rfl rfl rfl (not_f hq5) (RV.not rfl) ?_
      refine LW.pure rfl rfl (RV.pickFB rfl (not_f hq5) rfl) ?_
      refine LW.nil (jK88 _ _ ⟨_, ?_, ⟨(!r5), F, rfl, H⟩⟩)
      exact ⟨rfl, rfl, rfl, trivial⟩
    ·
      replace F := ite_n hp5 F
      have hq5 : r3 = false := raw_f hp5
      refine CW.region ?_
      refine LW.pure rfl rfl (RV.fieldAddr Tf24_0 rfl) ?_
      refine LW.pure rfl rfl (RV.load1 Tk22 rfl ((H.blk 0 rfl).cells.off 0) rfl) ?_
      refine LW.pure rfl rfl (RV.len Ts22 rfl) ?_
      refine LW.go rfl rfl (OW.call Tc67 rfl (cut_from_ok (a0 := (a0.worth.length : Int)) (a1 := (1 : Int)) (a2 := (6 : Int)) hr3) ?_)
      rintro _ w9 ⟨rfl, E7⟩
      refine ⟨_, rfl, ?_⟩
      replace H := H.grow E7
      replace R0 := H.ext
      refine LW.pure rfl rfl (RV.not rfl) ?_
      refine LW.pure rfl rfl (RV.move rfl) ?_
      refine LW.noB rfl rfl rfl rfl (ne_beq (v := true) (not_t hq5) rfl) ?_
      refine LW.noB rfl rfl rfl rfl (ne_beq (v := true) (not_t hq5) rfl) ?_
      refine LW.noB rfl rfl rfl rfl (ne_beq (v := true) (not_t hq5) rfl) ?_
      refine LW.noB rfl rfl rfl rfl (ne_beq (v := true) (not_t hq5) rfl) ?_
      refine LW.pure rfl rfl (RV.pickTB rfl (not_t hq5) rfl) ?_
      refine LW.nil (jK88 _ _ ⟨_, ?_, ⟨true, F, rfl, H⟩⟩)
      exact ⟨rfl, rfl, rfl, trivial⟩
set_option maxRecDepth 20000 in
set_option maxHeartbeats 1000000 in
theorem cut_raise_ok {a0 : List Int} {a1 : Int} {a2 : Int} {a3 : Int} {b_a0 : Nat} {wb : World} {R : List Ck} {w : World} {res : Bool × (List Int)} (hn_a0 : a0.length = 6) (H : Hp wb w ([.own (some ⟨b_a0, 0, none⟩) 6 87 1 (List.map encN a0)] ++ R)) (F : cut_raise a0 a1 a2 a3 = some res) : Calls Try.prog 99 #[.pointer (some ⟨b_a0, 0, none⟩), .int .i64 a1, .int .i64 a2, .int .i64 a3] w (fun e w' => e = .returned (.bool res.1) ∧ res.2.length = a0.length ∧ Hp wb w' ([.own (some ⟨b_a0, 0, none⟩) 6 87 1 (List.map encN res.2)] ++ R)) := by
  refine calls_of_cw (args := [.pointer (some ⟨b_a0, 0, none⟩), .int .i64 a1, .int .i64 a2, .int .i64 a3]) Try.func99 rfl rfl rfl rfl ?_
  have R0 := H.ext
  unfold cut_raise at F
  refine CW.seq fun K1 hK1 => ?_
  refine CW.region ?_
  refine LW.pure rfl rfl (RV.assign rfl) ?_
  refine LW.nil (hK1 _ _ ?_)
  refine CW.seqJ (fun ρ wl1 => (cut_raise_k1 a0 = some res ∧ ρ = [(8, .bool false)] ∧ Hp wb wl1 ([.own (some ⟨b_a0, 0, none⟩) 6 87 1 (List.map encN a0)] ++ R))) ?_ ?_
  ·
    rintro _ wl1 ⟨F, rfl, H⟩
    have R0 := H.ext
    unfold cut_raise_k1 at F
    refine CW.seq fun K2 hK2 => ?_
    refine CW.region ?_
    refine LW.pure rfl rfl (RV.assign rfl) ?_
    refine LW.nil (hK2 _ _ ?_)
    refine CW.ret ?_
    obtain rfl := Option.some.inj F
    refine ⟨_, (ResOK.one rfl), ?_⟩
    exact ⟨(by first | rfl | (simp; done) | (simp; omega)), (by first | rfl | assumption | omega | (simp; done) | (simp; assumption) | (simp; omega)), H⟩
  ·
    intro K3 hK3 jK69
    refine CW.block ?_
    refine CW.loop (fun meas ρ wl2 => ∃ (t1_1 : Int), cut_raise_L1 a0 a2 a3 meas t1_1 = some res ∧ ρ = [(0, .pointer (some ⟨b_a0, 0, none⟩)), (1, .int .i64 t1_1), (2, .int .i64 a2), (3, .int .i64 a3), (8, .bool false)] ∧ Hp wb wl2 ([.own (some ⟨b_a0, 0, none⟩) 6 87 1 (List.map encN a0)] ++ R)) FU ⟨_, ?_, a1, F, rfl, H⟩ ?_
    · exact ⟨rfl, rfl, rfl, rfl, rfl, trivial⟩
    rintro mk1 _ wl2 ⟨t1_1, F, rfl, H⟩
    have R0 := H.ext
    replace F := cut_raise_L1_s F
    obtain ⟨mk1, rfl, F⟩ := F
    generalize hrec1 : cut_raise_L1 a0 a2 a3 mk1 = rec1 at F
    unfold cut_raise_B1 at F
    refine CW.seq fun K4 hK4 => ?_
    refine CW.seq fun K5 hK5 => ?_
    refine CW.region ?_
    refine LW.pure rfl rfl (RV.move rfl) ?_
    refine LW.pure rfl rfl (RV.geq rfl rfl) ?_
    refine LW.nil (hK5 _ _ ?_)
    by_cases hp1 : (0 : Int) ≤ t1_1
    ·
      replace F := ite_y hp1 F
      have hq1 := dec_t hp1
      refine CW.condT rfl hq1 ?_
      refine CW.skip (hK4 _ _ ?_)
      refine CW.seq fun K6 hK6 => ?_
      refine CW.block ?_
      refine CW.seq fun K7 hK7 => ?_
      obtain ⟨x1, hbx1, hx1, F⟩ := ix_some F
      refine CW.region ?_
      refine LW.pure rfl rfl (RV.move rfl) ?_
      refine LW.pure rfl rfl (RV.move rfl) ?_
      refine LW.pure rfl rfl (RV.nilCheck rfl) ?_
      refine LW.pure rfl rfl (RV.indexArr Ta87 rfl rfl ⟨hbx1.1, (by first | exact hbx1.2 | omega | (have q := hbx1.2; simp at q; omega))⟩) ?_
      refine LW.pure rfl rfl (RV.load1 Tk3 rfl ((H.own 0 rfl).sl.at_ hx1) rfl) ?_
      refine LW.pure rfl rfl (RV.move rfl) ?_
      refine LW.pure rfl rfl (RV.lss rfl rfl) ?_
      refine LW.nil (hK7 _ _ ?_)
      by_cases hp2 : x1 < a3
      ·
        replace F := ite_y hp2 F
        have hq2 := dec_t hp2
        refine CW.condT rfl hq2 ?_
        refine CW.seq fun K8 hK8 => ?_
        obtain ⟨x2, hbx2, hx2, F⟩ := ix_some F
        obtain ⟨hg1, F⟩ := gd_some F
        obtain ⟨x3, hbx3, hx3, F⟩ := ix_some F
        refine CW.draw [8] (fun _ => True) (.cons 0 1 (.cons 1 1 (.cons 2 1 (.cons 3 1 (.cons 4 1 (.cons 5 1 (.cons 6 2 (.cons 7 1 (.cons 8 0 .nil))))))))) mixed (by kernel_rfl) fun w1 E1 => ?_
        replace H := H.grow E1
        replace R0 := H.ext
        refine DW.fix rfl rfl rfl (fun _ EQ => RV.move rfl) ?_
        refine DW.fix rfl rfl rfl (fun _ EQ => RV.move rfl) ?_
        refine DW.fix rfl rfl rfl (fun _ EQ => RV.nilCheck rfl) ?_
        refine DW.fix rfl rfl rfl (fun _ EQ => RV.indexArr Ta87 rfl rfl ⟨hbx2.1, (by first | exact hbx2.2 | omega | (have q := hbx2.2; simp at q; omega))⟩) ?_
        refine DW.fix rfl rfl rfl (fun _ EQ => RV.load1 Tk3 rfl (((H.grow EQ).own 0 rfl).sl.at_ hx2) rfl) ?_
        refine DW.fix rfl rfl rfl (fun _ EQ => RV.add rfl rfl hg1) ?_
        refine DW.thru rfl rfl rfl (fun _ EQ => RV.nilCheck rfl) ?_
        refine DW.fix rfl rfl rfl (fun _ EQ => RV.indexArr Ta87 rfl rfl ⟨hbx3.1, (by first | exact hbx3.2 | omega | (have q := hbx3.2; simp at q; omega))⟩) ?_
        refine DW.sole rfl rfl rfl (OW.storeO (enc := encN) (vs := [.int .i64 (x2 + 1)]) 0 (x2 + 1) Tk3 rfl rfl (H.own 0 rfl) (fun _ => rfl) rfl hx3 rfl rfl (by decide) rfl rfl fun w2 M1 O1 => ?_)
        refine ⟨fun h => absurd h (by decide), M1.modx (fun _ _ => trivial), ?_⟩
        replace H : Hp wb w2 ([.own (some ⟨b_a0, 0, none⟩) 6 87 1 (List.map encN ((a0.set (Int.toNat t1_1) (x2 + 1))))] ++ R) := H.mod 0 rfl M1 O1 (.inl rfl)
        replace R0 := H.ext
        refine DW.nil (hK8 _ _ ?_)
        refine CW.seq fun K9 hK9 => ?_
        obtain ⟨hg2, F⟩ := gd_some F
        obtain ⟨hg3, F⟩ := gd_some F
        refine CW.region ?_
        refine LW.pure rfl rfl (RV.move rfl) ?_
        refine LW.pure rfl rfl (RV.nilCheck rfl) ?_
        refine LW.pure rfl rfl (RV.move rfl) ?_
        refine LW.pure rfl rfl (RV.add rfl rfl hg2) ?_
        refine LW.pure rfl rfl (RV.move rfl) ?_
        refine LW.pure rfl rfl (RV.arrLH (l := (a0.set (Int.toNat t1_1) (x2 + 1))) Ta87 rfl rfl rfl (by first | exact hg3 | (have q := hg3; simp at q ⊢; omega) | (simp; omega)) (by first | rfl | omega | (simp; done) | (simp; omega))) ?_
        refine LW.go rfl rfl (OW.clearSub (lo := Int.toNat (t1_1 + 1)) (hi := (Int.toNat a2)) (0 : Int) Ts25 rfl (H.own 0 rfl) (fun _ => rfl) rfl rfl rfl rfl (by first | omega | (simp; omega)) (by first | omega | (simp; omega)) (by first | omega | (simp; omega)) rfl fun vv1 w3 M2 O2 => ?_)
        replace H : Hp wb w3 ([.own (some ⟨b_a0, 0, none⟩) 6 87 1 (List.map encN ((List.take (Int.toNat (t1_1 + 1)) ((a0.set (Int.toNat t1_1) (x2 + 1))) ++ List.replicate ((Int.toNat a2) - Int.toNat (t1_1 + 1)) (0 : Int) ++ List.drop ((Int.toNat a2)) ((a0.set (Int.toNat t1_1) (x2 + 1))))))] ++ R) := H.mod 0 rfl M2 O2 (.inl rfl)
        replace R0 := H.ext
        refine LW.nil (hK9 _ _ ?_)
        refine CW.seq fun K10 hK10 => ?_
        refine CW.region ?_
        refine LW.pure rfl rfl (RV.assign rfl) ?_
        refine LW.nil (hK10 _ _ ?_)
        refine CW.ret ?_
        obtain rfl := Option.some.inj F
        refine ⟨_, (ResOK.one rfl), ?_⟩
        exact ⟨(by first | rfl | (simp; done) | (simp; omega)), (by first | rfl | assumption | omega | (simp; done) | (simp; assumption) | (simp; omega)), H⟩
      ·
        replace F := ite_n hp2 F
        have hq2 := dec_f hp2
        refine CW.condF rfl hq2 ?_
        refine CW.skip (hK6 _ _ ?_)
        obtain ⟨hg4, F⟩ := gd_some F
        refine CW.region ?_
        refine LW.pure rfl rfl (RV.move rfl) ?_
        refine LW.pure rfl rfl (RV.sub rfl rfl hg4) ?_
        refine LW.pure rfl rfl (RV.assign rfl) ?_
        refine LW.nil ?_
        subst hrec1
        refine ⟨mk1, Nat.lt_succ_self _, _, ?_, (t1_1 - 1), F, rfl, H⟩
        exact ⟨rfl, rfl, rfl, rfl, rfl, trivial⟩
    ·
      replace F := ite_n hp1 F
      have hq1 := dec_f hp1
      refine CW.condF rfl hq1 ?_
      refine CW.exit (jK69 _ _ ⟨_, ?_, ⟨F, rfl, H⟩⟩)
      exact ⟨rfl, trivial⟩
set_option maxRecDepth 20000 in
set_option maxHeartbeats 1000000 in
theorem cut_all_ok {a0 : Bog} {A_a0_worth : Option Addr} {c_a0_worth : Nat} {w : World} {res : (List Arr6)} (h_a0_worth : Sl2 w A_a0_worth c_a0_worth 1 encN a0.worth) (F : cut_all a0 = some res) : Calls Try.prog 88 #[.agg #[.slice A_a0_worth a0.worth.length c_a0_worth]] w (fun e w' => ∃ (A1 : Option Addr) (c1 : Nat), e = .returned (.slice A1 res.length c1) ∧ Hp w w' [.own A1 c1 87 6 (List.map encArr6 res)]) := by
  refine calls_of_cw (args := [.agg #[.slice A_a0_worth a0.worth.length c_a0_worth]]) Try.func88 rfl rfl rfl rfl ?_
  have H := Hp.start w
  have R0 := H.ext
  unfold cut_all at F
  refine CW.seq fun K1 hK1 => ?_
  refine CW.region ?_
  refine LW.go rfl rfl (OW.box rfl fun b1 w1 N1 => ?_)
  replace H := H.new N1 N1.blk
  replace R0 := H.ext
  refine LW.pure rfl rfl (RV.assign rfl) ?_
  refine LW.nil (hK1 _ _ ?_)
  refine CW.scope ?_
  refine CW.seq fun K2 hK2 => ?_
  refine CW.region ?_
  refine LW.pure rfl rfl (RV.assign rfl) ?_
  refine LW.nil (hK2 _ _ ?_)
  refine CW.seq fun K3 hK3 => ?_
  refine CW.region ?_
  refine LW.go rfl rfl (OW.alloc Tz87 fun b2 w2 N2 => ?_)
  replace H := H.made' (k := 1) (t := 87) (enc := encN) (l := ([0, 0, 0, 0, 0, 0] : List Int)) N2 N2.blk (fun _ => rfl) rfl (by first | decide | (simp; done) | (simp; omega))
  replace R0 := H.ext
  refine LW.nil (hK3 _ _ ?_)
  refine CW.seq fun K4 hK4 => ?_
  refine CW.region ?_
  refine LW.pure rfl rfl (RV.fieldAddr Tf24_0 rfl) ?_
  refine LW.pure rfl rfl (RV.load1 Tk22 rfl ((H.blk 1 rfl).cells.off 0) rfl) ?_
  refine LW.pure rfl rfl (RV.len Ts22 rfl) ?_
  refine LW.pure rfl rfl (RV.assign rfl) ?_
  refine LW.nil (hK4 _ _ ?_)
  refine CW.seq fun K5 hK5 => ?_
  refine CW.label (hK5 _ _ ?_)
  refine CW.block ?_
  replace H := H.nilOwn 87 6
  replace R0 := H.ext
  refine CW.loop (fun meas ρ wl1 => ∃ (l1 : List Arr6) (l2 : List Int) (Al1 : Option Addr) (cl1 : Nat), cut_all_L2 a0 meas l1 l2 = some res ∧ ρ = [(1, .pointer (some (⟨b1, 0, none⟩))), (2, .slice none 0 0), (3, .slice Al1 l1.length cl1), (4, .pointer (some ⟨b2, 0, none⟩)), (5, .int .i64 ((a0.worth.length : Int)))] ∧ Hp w wl1 [.own Al1 cl1 87 6 (List.map encArr6 l1), .own (some ⟨b2, 0, none⟩) 6 87 1 (List.map encN l2), .blk b1 24 [.slice A_a0_worth a0.worth.length c_a0_worth]] ∧ l2.length = 6) FU ⟨_, ?_, (([] : List Arr6)), (([0, 0, 0, 0, 0, 0] : List Int)), none, 0, F, rfl, H, (show (([0, 0, 0, 0, 0, 0] : List Int)).length = 6 by first | rfl | assumption | omega | (simp; done) | (simp; assumption) | (simp; omega))⟩ ?_
  · exact ⟨rfl, rfl, (look_slice rfl (by first | rfl | (simp; done) | (simp; omega))), rfl, rfl, trivial⟩
  rintro mk1 _ wl1 ⟨l1, l2, Al1, cl1, F, rfl, H, hl1⟩
  have R0 := H.ext
  replace F := cut_all_L2_s F
  obtain ⟨mk1, rfl, F⟩ := F
  generalize hrec1 : cut_all_L2 a0 mk1 = rec1 at F
  unfold cut_all_B2 at F
  refine CW.block ?_
  refine CW.seqJ (fun ρ wl2 => (cut_all_k1 a0 l1 l2 rec1 = some res ∧ ρ = [(1, .pointer (some (⟨b1, 0, none⟩))), (2, .slice none 0 0), (3, .slice Al1 l1.length cl1), (4, .pointer (some ⟨b2, 0, none⟩)), (5, .int .i64 ((a0.worth.length : Int)))] ∧ Hp w wl2 [.own Al1 cl1 87 6 (List.map encArr6 l1), .own (some ⟨b2, 0, none⟩) 6 87 1 (List.map encN l2), .blk b1 24 [.slice A_a0_worth a0.worth.length c_a0_worth]])) ?_ ?_
  ·
    rintro _ wl2 ⟨F, rfl, H⟩
    have R0 := H.ext
    unfold cut_all_k1 at F
    refine CW.seq fun K6 hK6 => ?_
    obtain ⟨hg1, F⟩ := gd_some F
    obtain ⟨x1, hbx1, hx1, F⟩ := ix_some F
    obtain ⟨x2, hbx2, hx2, F⟩ := ix_some F
    obtain ⟨x3, hbx3, hx3, F⟩ := ix_some F
    obtain ⟨x4, hbx4, hx4, F⟩ := ix_some F
    obtain ⟨x5, hbx5, hx5, F⟩ := ix_some F
    obtain ⟨x6, hbx6, hx6, F⟩ := ix_some F
    obtain ⟨hg2, F⟩ := gd_some F
    refine CW.region ?_
    refine LW.pure rfl rfl (RV.move rfl) ?_
    have hL1 := list6 hg1 hx1 hx2 hx3 hx4 hx5 hx6
    refine LW.pure rfl rfl (RV.loadA (vs := [.int .i64 x1, .int .i64 x2, .int .i64 x3, .int .i64 x4, .int .i64 x5, .int .i64 x6]) [.int .i64 x1, .int .i64 x2, .int .i64 x3, .int .i64 x4, .int .i64 x5, .int .i64 x6] Tk87 rfl (fun j v hj => (H.own 1 rfl).flat j v (by rw [hL1]; exact hj)) rfl rfl) ?_
    refine LW.go rfl rfl (OW.buildSlice (e := 87) (vs := [.agg #[.int .i64 x1, .int .i64 x2, .int .i64 x3, .int .i64 x4, .int .i64 x5, .int .i64 x6]]) (cs := [.int .i64 x1, .int .i64 x2, .int .i64 x3, .int .i64 x4, .int .i64 x5, .int .i64 x6]) rfl (fun _ => by kernel_rfl) fun b3 w3 N3 => ?_)
    replace H := H.made' (k := 6) (t := 87) (enc := encArr6) (l := ([(⟨x1, x2, x3, x4, x5, x6⟩ : Arr6)] : List Arr6)) N3 N3.blk (fun _ => rfl) rfl (by first | decide | omega | (simp; done) | (simp; omega))
    replace R0 := H.ext
    refine LW.go rfl rfl (OW.appendG (enc := encArr6) (l := l1) (xs := ([(⟨x1, x2, x3, x4, x5, x6⟩ : Arr6)] : List Arr6)) Ts82 rfl (look_slice rfl (by first | rfl | (simp; done) | (simp; omega))) (H.own 1 rfl) (H.own 0 rfl).sl (fun _ => rfl) rfl rfl hg2 (by decide) fun A2 c2 w4 O1 M1 D1 => ?_)
    replace H : Hp w w4 [.own (some ⟨b3, 0, none⟩) ((([(⟨x1, x2, x3, x4, x5, x6⟩ : Arr6)] : List Arr6)).length) 87 6 (List.map encArr6 (([(⟨x1, x2, x3, x4, x5, x6⟩ : Arr6)] : List Arr6))), .own A2 c2 87 6 (List.map encArr6 ((l1 ++ ([(⟨x1, x2, x3, x4, x5, x6⟩ : Arr6)] : List Arr6)))), .own (some ⟨b2, 0, none⟩) 6 87 1 (List.map encN l2), .blk b1 24 [.slice A_a0_worth a0.worth.length c_a0_worth]] := H.mod 1 rfl M1 O1 D1
    replace R0 := H.ext
    refine LW.pure rfl rfl (RV.assign rfl) ?_
    refine LW.nil (hK6 _ _ ?_)
    refine CW.seq fun K7 hK7 => ?_
    obtain ⟨hg3, F⟩ := gd_some F
    obtain ⟨r1, hr1, F⟩ := bnd_some F
    obtain ⟨r2, hr2, F⟩ := bnd_some F
    refine CW.region ?_
    refine LW.pure rfl rfl (RV.move rfl) ?_
    refine LW.pure rfl rfl (RV.sub rfl rfl hg3) ?_
    refine LW.pure rfl rfl (RV.move rfl) ?_
    refine LW.pure rfl rfl (RV.loadA [.slice A_a0_worth a0.worth.length c_a0_worth] Tk24 rfl (H.blk 3 rfl).cells rfl rfl) ?_
    refine LW.go rfl rfl (OW.call Tc68 rfl (cut_depth_ok (a0 := a0) (h_a0_worth.ext R0) hr1) ?_)
    rintro _ w5 ⟨rfl, E1⟩
    refine ⟨_, rfl, ?_⟩
    replace H := H.grow E1
    replace R0 := H.ext
    replace H := H.pick (L' := [.own (some ⟨b2, 0, none⟩) 6 87 1 (List.map encN l2), .own (some ⟨b3, 0, none⟩) ((([(⟨x1, x2, x3, x4, x5, x6⟩ : Arr6)] : List Arr6)).length) 87 6 (List.map encArr6 (([(⟨x1, x2, x3, x4, x5, x6⟩ : Arr6)] : List Arr6))), .own A2 c2 87 6 (List.map encArr6 ((l1 ++ ([(⟨x1, x2, x3, x4, x5, x6⟩ : Arr6)] : List Arr6)))), .blk b1 24 [.slice A_a0_worth a0.worth.length c_a0_worth]]) [2, 0, 1, 3] (by decide) rfl
    replace R0 := H.ext
    refine LW.go rfl rfl (OW.call Tc99 rfl (cut_raise_ok (a0 := l2) (a1 := ((a0.worth.length : Int)) - 1) (a2 := (a0.worth.length : Int)) (a3 := r1) (R := [.own (some ⟨b3, 0, none⟩) ((([(⟨x1, x2, x3, x4, x5, x6⟩ : Arr6)] : List Arr6)).length) 87 6 (List.map encArr6 (([(⟨x1, x2, x3, x4, x5, x6⟩ : Arr6)] : List Arr6))), .own A2 c2 87 6 (List.map encArr6 ((l1 ++ ([(⟨x1, x2, x3, x4, x5, x6⟩ : Arr6)] : List Arr6)))), .blk b1 24 [.slice A_a0_worth a0.worth.length c_a0_worth]]) (by first | rfl | assumption | omega | (simp; done) | (simp; assumption) | (simp; omega)) H hr2) ?_)
    rintro _ w6 ⟨rfl, hlm113_a0, Hq1⟩
    refine ⟨_, rfl, ?_⟩
    replace H : Hp w w6 [.own (some ⟨b2, 0, none⟩) 6 87 1 (List.map encN r2.2), .own (some ⟨b3, 0, none⟩) ((([(⟨x1, x2, x3, x4, x5, x6⟩ : Arr6)] : List Arr6)).length) 87 6 (List.map encArr6 (([(⟨x1, x2, x3, x4, x5, x6⟩ : Arr6)] : List Arr6))), .own A2 c2 87 6 (List.map encArr6 ((l1 ++ ([(⟨x1, x2, x3, x4, x5, x6⟩ : Arr6)] : List Arr6)))), .blk b1 24 [.slice A_a0_worth a0.worth.length c_a0_worth]] := Hq1
    replace R0 := H.ext
    refine LW.pure rfl rfl (RV.not rfl) ?_
    refine LW.nil (hK7 _ _ ?_)
    by_cases hp1 : r2.1 = true
    ·
      replace F := ite_y hp1 F
      have hq1 : r2.1 = true := hp1
      refine CW.condF rfl (not_f hq1) ?_
      refine CW.skip ?_
      replace H := H.pick (L' := [.own A2 c2 87 6 (List.map encArr6 ((l1 ++ ([(⟨x1, x2, x3, x4, x5, x6⟩ : Arr6)] : List Arr6)))), .own (some ⟨b2, 0, none⟩) 6 87 1 (List.map encN r2.2), .blk b1 24 [.slice A_a0_worth a0.worth.length c_a0_worth]]) [2, 0, 3] (by decide) rfl
      replace R0 := H.ext
      subst hrec1
      refine ⟨mk1, Nat.lt_succ_self _, _, ?_, ((l1 ++ ([(⟨x1, x2, x3, x4, x5, x6⟩ : Arr6)] : List Arr6))), r2.2, A2, c2, F, rfl, H, (show r2.2.length = 6 by first | rfl | assumption | omega | (simp; done) | (simp; assumption) | (simp; omega))⟩
      exact ⟨rfl, rfl, (look_slice rfl (by first | rfl | (simp; done) | (simp; omega))), rfl, rfl, trivial⟩
    ·
      replace F := ite_n hp1 F
      have hq1 : r2.1 = false := raw_f hp1
      refine CW.condT rfl (not_t hq1) ?_
      refine CW.seq fun K8 hK8 => ?_
      refine CW.region ?_
      refine LW.pure rfl rfl (RV.move rfl) ?_
      refine LW.pure rfl rfl (RV.assign rfl) ?_
      refine LW.nil (hK8 _ _ ?_)
      refine CW.ret ?_
      obtain rfl := Option.some.inj F
      refine ⟨_, (ResOK.one rfl), ?_⟩
      replace H := H.pick (L' := [.own A2 c2 87 6 (List.map encArr6 ((l1 ++ ([(⟨x1, x2, x3, x4, x5, x6⟩ : Arr6)] : List Arr6))))]) [2] (by decide) rfl
      replace R0 := H.ext
      exact ⟨A2, c2, (by first | rfl | (simp; done) | (simp; omega)), H⟩
  ·
    intro K9 hK9 jK441
    refine CW.seq fun K10 hK10 => ?_
    refine CW.region ?_
    refine LW.pure rfl rfl (RV.assign rfl) ?_
    refine LW.nil (hK10 _ _ ?_)
    refine CW.block ?_
    refine CW.loop (fun meas ρ wl3 => ∃ (t6_1 : Int), cut_all_L1 a0 l1 l2 rec1 meas t6_1 = some res ∧ ρ = [(1, .pointer (some (⟨b1, 0, none⟩))), (2, .slice none 0 0), (3, .slice Al1 l1.length cl1), (4, .pointer (some ⟨b2, 0, none⟩)), (5, .int .i64 ((a0.worth.length : Int))), (6, .int .i64 t6_1)] ∧ Hp w wl3 [.own Al1 cl1 87 6 (List.map encArr6 l1), .own (some ⟨b2, 0, none⟩) 6 87 1 (List.map encN l2), .blk b1 24 [.slice A_a0_worth a0.worth.length c_a0_worth]]) FU ⟨_, ?_, ((1 : Int)), F, rfl, H⟩ ?_
    · exact ⟨rfl, rfl, (look_slice rfl (by first | rfl | (simp; done) | (simp; omega))), rfl, rfl, rfl, trivial⟩
    rintro mk2 _ wl3 ⟨t6_1, F, rfl, H⟩
    have R0 := H.ext
    replace F := cut_all_L1_s F
    obtain ⟨mk2, rfl, F⟩ := F
    generalize hrec2 : cut_all_L1 a0 l1 l2 rec1 mk2 = rec2 at F
    unfold cut_all_B1 at F
    refine CW.seq fun K11 hK11 => ?_
    refine CW.seq fun K12 hK12 => ?_
    refine CW.region ?_
    refine LW.pure rfl rfl (RV.move rfl) ?_
    refine LW.pure rfl rfl (RV.move rfl) ?_
    refine LW.pure rfl rfl (RV.lss rfl rfl) ?_
    refine LW.nil (hK12 _ _ ?_)
    by_cases hp2 : t6_1 < ((a0.worth.length : Int))
    ·
      replace F := ite_y hp2 F
      have hq2 := dec_t hp2
      refine CW.condT rfl hq2 ?_
      refine CW.skip (hK11 _ _ ?_)
      refine CW.seq fun K13 hK13 => ?_
      refine CW.block ?_
      refine CW.seq fun K14 hK14 => ?_
      refine CW.seq fun K15 hK15 => ?_
      obtain ⟨x7, hbx7, hx7, F⟩ := ix_some F
      obtain ⟨hg4, F⟩ := gd_some F
      obtain ⟨x8, hbx8, hx8, F⟩ := ix_some F
      obtain ⟨hg5, F⟩ := gd_some F
      obtain ⟨r3, hr3, F⟩ := bnd_some F
      refine CW.draw [] (fun _ => True) (.cons 0 1 (.cons 1 1 (.cons 2 1 (.cons 3 1 (.cons 4 1 (.cons 5 1 (.cons 6 1 (.cons 7 1 (.cons 8 0 .nil))))))))) mixed (by kernel_rfl) fun w7 E2 => ?_
      replace H := H.grow E2
      replace R0 := H.ext
      refine DW.fix rfl rfl rfl (fun _ EQ => RV.move rfl) ?_
      refine DW.fix rfl rfl rfl (fun _ EQ => RV.indexArr Ta87 rfl rfl ⟨hbx7.1, (by first | exact hbx7.2 | omega | (have q := hbx7.2; simp at q; omega))⟩) ?_
      refine DW.fix rfl rfl rfl (fun _ EQ => RV.load1 Tk3 rfl (((H.grow EQ).own 1 rfl).sl.at_ hx7) rfl) ?_
      refine DW.fix rfl rfl rfl (fun _ EQ => RV.move rfl) ?_
      refine DW.fix rfl rfl rfl (fun _ EQ => RV.sub rfl rfl hg4) ?_
      refine DW.fix rfl rfl rfl (fun _ EQ => RV.indexArr Ta87 rfl rfl ⟨hbx8.1, (by first | exact hbx8.2 | omega | (have q := hbx8.2; simp at q; omega))⟩) ?_
      refine DW.fix rfl rfl rfl (fun _ EQ => RV.load1 Tk3 rfl (((H.grow EQ).own 1 rfl).sl.at_ hx8) rfl) ?_
      refine DW.fix rfl rfl rfl (fun _ EQ => RV.sub rfl rfl hg5) ?_
      refine DW.sole rfl rfl rfl (OW.call Tc67 rfl (cut_from_ok (a0 := x7 - x8) (a1 := (-1 : Int)) (a2 := (1 : Int)) hr3) ?_)
      rintro _ w8 ⟨rfl, E3⟩
      refine ⟨_, rfl, fun _ => E3, ModX.ext E3, ?_⟩
      replace H := H.grow E3
      replace R0 := H.ext
      refine DW.nil (hK15 _ _ ?_)
      by_cases hp3 : r3 = true
      ·
        replace F := ite_y hp3 F
        have hq3 : r3 = true := hp3
        refine CW.condT rfl hq3 ?_
        refine CW.exit (hK13 _ _ ?_)
        obtain ⟨hg6, F⟩ := gd_some F
        refine CW.region ?_
        refine LW.pure rfl rfl (RV.move rfl) ?_
        refine LW.pure rfl rfl (RV.add rfl rfl hg6) ?_
        refine LW.pure rfl rfl (RV.assign rfl) ?_
        refine LW.nil ?_
        subst hrec2
        refine ⟨mk2, Nat.lt_succ_self _, _, ?_, (t6_1 + 1), F, rfl, H⟩
        exact ⟨rfl, rfl, (look_slice rfl (by first | rfl | (simp; done) | (simp; omega))), rfl, rfl, rfl, trivial⟩
      ·
        replace F := ite_n hp3 F
        have hq3 : r3 = false := raw_f hp3
        refine CW.condF rfl hq3 ?_
        refine CW.skip (hK14 _ _ ?_)
        refine CW.seq fun K16 hK16 => ?_
        refine CW.seq fun K17 hK17 => ?_
        obtain ⟨x9, hbx9, hx9, F⟩ := ix_some F
        obtain ⟨hg7, F⟩ := gd_some F
        obtain ⟨x10, hbx10, hx10, F⟩ := ix_some F
        refine CW.draw [] (fun _ => True) (.cons 0 1 (.cons 1 1 (.cons 2 1 (.cons 3 1 (.cons 4 1 (.cons 5 1 (.cons 6 1 (.cons 7 1 .nil)))))))) mixed (by kernel_rfl) fun w9 E4 => ?_
        replace H := H.grow E4
        replace R0 := H.ext
        refine DW.fix rfl rfl rfl (fun _ EQ => RV.move rfl) ?_
        refine DW.fix rfl rfl rfl (fun _ EQ => RV.indexArr Ta87 rfl rfl ⟨hbx9.1, (by first | exact hbx9.2 | omega | (have q := hbx9.2; simp at q; omega))⟩) ?_
        refine DW.fix rfl rfl rfl (fun _ EQ => RV.load1 Tk3 rfl (((H.grow EQ).own 1 rfl).sl.at_ hx9) rfl) ?_
        refine DW.fix rfl rfl rfl (fun _ EQ => RV.move rfl) ?_
        refine DW.fix rfl rfl rfl (fun _ EQ => RV.sub rfl rfl hg7) ?_
        refine DW.fix rfl rfl rfl (fun _ EQ => RV.indexArr Ta87 rfl rfl ⟨hbx10.1, (by first | exact hbx10.2 | omega | (have q := hbx10.2; simp at q; omega))⟩) ?_
        refine DW.fix rfl rfl rfl (fun _ EQ => RV.load1 Tk3 rfl (((H.grow EQ).own 1 rfl).sl.at_ hx10) rfl) ?_
        refine DW.fix rfl rfl rfl (fun _ EQ => RV.lss rfl rfl) ?_
        refine DW.nil (hK17 _ _ ?_)
        by_cases hp4 : x9 < x10
        ·
          replace F := ite_y hp4 F
          have hq4 := dec_t hp4
          refine CW.condT rfl hq4 ?_
          refine CW.seq fun K18 hK18 => ?_
          obtain ⟨hg8, F⟩ := gd_some F
          obtain ⟨x11, hbx11, hx11, F⟩ := ix_some F
          obtain ⟨hg9, F⟩ := gd_some F
          obtain ⟨x12, hbx12, hx12, F⟩ := ix_some F
          refine CW.region ?_
          refine LW.pure rfl rfl (RV.move rfl) ?_
          refine LW.pure rfl rfl (RV.move rfl) ?_
          refine LW.pure rfl rfl (RV.sub rfl rfl hg8) ?_
          refine LW.pure rfl rfl (RV.indexArr Ta87 rfl rfl ⟨hbx11.1, (by first | exact hbx11.2 | omega | (have q := hbx11.2; simp at q; omega))⟩) ?_
          refine LW.pure rfl rfl (RV.load1 Tk3 rfl ((H.own 1 rfl).sl.at_ hx11) rfl) ?_
          refine LW.pure rfl rfl (RV.sub rfl rfl hg9) ?_
          refine LW.pure rfl rfl (RV.indexArr Ta87 rfl rfl ⟨hbx12.1, (by first | exact hbx12.2 | omega | (have q := hbx12.2; simp at q; omega))⟩) ?_
          refine LW.go rfl rfl (OW.storeO (enc := encN) (vs := [.int .i64 (x11 - 1)]) 0 (x11 - 1) Tk3 rfl rfl (H.own 1 rfl) (fun _ => rfl) rfl hx12 rfl rfl (by decide) rfl rfl fun w10 M2 O2 => ?_)
          replace H : Hp w w10 [.own Al1 cl1 87 6 (List.map encArr6 l1), .own (some ⟨b2, 0, none⟩) 6 87 1 (List.map encN ((l2.set (Int.toNat t6_1) (x11 - 1)))), .blk b1 24 [.slice A_a0_worth a0.worth.length c_a0_worth]] := H.mod 1 rfl M2 O2 (.inl rfl)
          replace R0 := H.ext
          refine LW.nil (hK18 _ _ ?_)
          refine CW.seq fun K19 hK19 => ?_
          obtain ⟨hg10, F⟩ := gd_some F
          obtain ⟨hg11, F⟩ := gd_some F
          refine CW.region ?_
          refine LW.pure rfl rfl (RV.move rfl) ?_
          refine LW.pure rfl rfl (RV.add rfl rfl hg10) ?_
          refine LW.pure rfl rfl (RV.move rfl) ?_
          refine LW.pure rfl rfl (RV.arrLH (l := (l2.set (Int.toNat t6_1) (x11 - 1))) Ta87 rfl rfl rfl (by first | exact hg11 | (have q := hg11; simp at q ⊢; omega) | (simp; omega)) (by first | rfl | omega | (simp; done) | (simp; omega))) ?_
          refine LW.go rfl rfl (OW.clearSub (lo := Int.toNat (t6_1 + 1)) (hi := (Int.toNat ((a0.worth.length : Int)))) (0 : Int) Ts25 rfl (H.own 1 rfl) (fun _ => rfl) rfl rfl rfl rfl (by first | omega | (simp; omega)) (by first | omega | (simp; omega)) (by first | omega | (simp; omega)) rfl fun vv1 w11 M3 O3 => ?_)
          replace H : Hp w w11 [.own Al1 cl1 87 6 (List.map encArr6 l1), .own (some ⟨b2, 0, none⟩) 6 87 1 (List.map encN ((List.take (Int.toNat (t6_1 + 1)) ((l2.set (Int.toNat t6_1) (x11 - 1))) ++ List.replicate ((Int.toNat ((a0.worth.length : Int))) - Int.toNat (t6_1 + 1)) (0 : Int) ++ List.drop ((Int.toNat ((a0.worth.length : Int)))) ((l2.set (Int.toNat t6_1) (x11 - 1)))))), .blk b1 24 [.slice A_a0_worth a0.worth.length c_a0_worth]] := H.mod 1 rfl M3 O3 (.inl rfl)
          replace R0 := H.ext
          refine LW.nil (hK19 _ _ ?_)
          refine CW.exit ?_
          subst hrec1
          refine ⟨mk1, Nat.lt_succ_self _, _, ?_, l1, ((List.take (Int.toNat (t6_1 + 1)) ((l2.set (Int.toNat t6_1) (x11 - 1))) ++ List.replicate ((Int.toNat ((a0.worth.length : Int))) - Int.toNat (t6_1 + 1)) (0 : Int) ++ List.drop ((Int.toNat ((a0.worth.length : Int)))) ((l2.set (Int.toNat t6_1) (x11 - 1))))), Al1, cl1, F, rfl, H, (show ((List.take (Int.toNat (t6_1 + 1)) ((l2.set (Int.toNat t6_1) (x11 - 1))) ++ List.replicate ((Int.toNat ((a0.worth.length : Int))) - Int.toNat (t6_1 + 1)) (0 : Int) ++ List.drop ((Int.toNat ((a0.worth.length : Int)))) ((l2.set (Int.toNat t6_1) (x11 - 1))))).length = 6 by first | rfl | assumption | omega | (simp; done) | (simp; assumption) | (simp; omega))⟩
          exact ⟨rfl, rfl, (look_slice rfl (by first | rfl | (simp; done) | (simp; omega))), rfl, rfl, trivial⟩
        ·
          replace F := ite_n hp4 F
          have hq4 := dec_f hp4
          refine CW.condF rfl hq4 ?_
          refine CW.skip (hK16 _ _ ?_)
          refine CW.seq fun K20 hK20 => ?_
          refine CW.seq fun K21 hK21 => ?_
          obtain ⟨hg12, F⟩ := gd_some F
          obtain ⟨r4, hr4, F⟩ := bnd_some F
          obtain ⟨r5, hr5, F⟩ := bnd_some F
          refine CW.region ?_
          refine LW.pure rfl rfl (RV.move rfl) ?_
          refine LW.pure rfl rfl (RV.sub rfl rfl hg12) ?_
          refine LW.pure rfl rfl (RV.move rfl) ?_
          refine LW.pure rfl rfl (RV.loadA [.slice A_a0_worth a0.worth.length c_a0_worth] Tk24 rfl (H.blk 2 rfl).cells rfl rfl) ?_
          refine LW.go rfl rfl (OW.call Tc68 rfl (cut_depth_ok (a0 := a0) (h_a0_worth.ext R0) hr4) ?_)
          rintro _ w12 ⟨rfl, E5⟩
          refine ⟨_, rfl, ?_⟩
          replace H := H.grow E5
          replace R0 := H.ext
          replace H := H.pick (L' := [.own (some ⟨b2, 0, none⟩) 6 87 1 (List.map encN l2), .own Al1 cl1 87 6 (List.map encArr6 l1), .blk b1 24 [.slice A_a0_worth a0.worth.length c_a0_worth]]) [1, 0, 2] (by decide) rfl
          replace R0 := H.ext
          refine LW.go rfl rfl (OW.call Tc99 rfl (cut_raise_ok (a0 := l2) (a1 := t6_1 - 1) (a2 := (a0.worth.length : Int)) (a3 := r4) (R := [.own Al1 cl1 87 6 (List.map encArr6 l1), .blk b1 24 [.slice A_a0_worth a0.worth.length c_a0_worth]]) (by first | rfl | assumption | omega | (simp; done) | (simp; assumption) | (simp; omega)) H hr5) ?_)
          rintro _ w13 ⟨rfl, hlm125_a0, Hq2⟩
          refine ⟨_, rfl, ?_⟩
          replace H : Hp w w13 [.own (some ⟨b2, 0, none⟩) 6 87 1 (List.map encN r5.2), .own Al1 cl1 87 6 (List.map encArr6 l1), .blk b1 24 [.slice A_a0_worth a0.worth.length c_a0_worth]] := Hq2
          replace R0 := H.ext
          refine LW.pure rfl rfl (RV.not rfl) ?_
          refine LW.nil (hK21 _ _ ?_)
          by_cases hp5 : r5.1 = true
          ·
            replace F := ite_y hp5 F
            have hq5 : r5.1 = true := hp5
            refine CW.condF rfl (not_f hq5) ?_
            refine CW.skip (hK20 _ _ ?_)
            refine CW.exit ?_
            replace H := H.pick (L' := [.own Al1 cl1 87 6 (List.map encArr6 l1), .own (some ⟨b2, 0, none⟩) 6 87 1 (List.map encN r5.2), .blk b1 24 [.slice A_a0_worth a0.worth.length c_a0_worth]]) [1, 0, 2] (by decide) rfl
            replace R0 := H.ext
            subst hrec1
            refine ⟨mk1, Nat.lt_succ_self _, _, ?_, l1, r5.2, Al1, cl1, F, rfl, H, (show r5.2.length = 6 by first | rfl | assumption | omega | (simp; done) | (simp; assumption) | (simp; omega))⟩
            exact ⟨rfl, rfl, (look_slice rfl (by first | rfl | (simp; done) | (simp; omega))), rfl, rfl, trivial⟩
          ·
            replace F := ite_n hp5 F
            have hq5 : r5.1 = false := raw_f hp5
            refine CW.condT rfl (not_t hq5) ?_
            refine CW.seq fun K22 hK22 => ?_
            refine CW.region ?_
            refine LW.pure rfl rfl (RV.move rfl) ?_
            refine LW.pure rfl rfl (RV.assign rfl) ?_
            refine LW.nil (hK22 _ _ ?_)
            refine CW.ret ?_
            obtain rfl := Option.some.inj F
            refine ⟨_, (ResOK.one rfl), ?_⟩
            replace H := H.pick (L' := [.own Al1 cl1 87 6 (List.map encArr6 l1)]) [1] (by decide) rfl
            replace R0 := H.ext
            exact ⟨Al1, cl1, (by first | rfl | (simp; done) | (simp; omega)), H⟩
    ·
      replace F := ite_n hp2 F
      have hq2 := dec_f hp2
      refine CW.condF rfl hq2 ?_
      refine CW.exit (jK441 _ _ ⟨_, ?_, ⟨F, rfl, H⟩⟩)
      exact ⟨rfl, rfl, (look_slice rfl (by first | rfl | (simp; done) | (simp; omega))), rfl, rfl, trivial⟩
end Go.D4

set_option linter.unusedVariables false
set_option linter.unusedSimpArgs false
namespace Go.D4
open Go.Tb Go.Proofs Go.RowKit
theorem Tc25 : callable Try.prog 25 = true := by kernel_rfl
theorem Tc65 : callable Try.prog 65 = true := by kernel_rfl
theorem Tc73 : callable Try.prog 73 = true := by kernel_rfl
theorem Tc74 : callable Try.prog 74 = true := by kernel_rfl
theorem Tc84 : callable Try.prog 84 = true := by kernel_rfl
theorem Tc87 : callable Try.prog 87 = true := by kernel_rfl
theorem Tc88 : callable Try.prog 88 = true := by kernel_rfl
theorem Tc91 : callable Try.prog 91 = true := by kernel_rfl
set_option maxRecDepth 20000 in
set_option maxHeartbeats 1000000 in
theorem slices_Clone_int_ok {a0 : List Int} {A_a0 : Option Addr} {c_a0 : Nat} {w : World} {res : List Int} (h_a0 : Sl w A_a0 c_a0 1 (a0.map encN)) (F : slices_Clone_int a0 = some res) : Calls Try.prog 87 #[.slice A_a0 a0.length c_a0] w (fun e w' => ∃ (A0 : Option Addr) (c0 : Nat), e = .returned (.slice A0 res.length c0) ∧ Hp w w' [.own A0 c0 3 1 (List.map encN res)]) := by
  cases A_a0 with
  | none =>
    obtain rfl := Sl.none_nil h_a0
    refine calls_of_cw (args := [.slice none (([] : List Int).length) c_a0]) Try.func87 rfl rfl rfl rfl ?_
    have H := Hp.start w
    have R0 := H.ext
    unfold slices_Clone_int at F
    obtain ⟨_, F⟩ := gd_some F
    refine CW.seq fun K1 hK1 => ?_
    refine CW.region ?_
    refine LW.pure rfl rfl (RV.assign rfl) ?_
    refine LW.nil (hK1 _ _ ?_)
    refine CW.seq fun K2 hK2 => ?_
    refine CW.seq fun K3 hK3 => ?_
    refine CW.region ?_
    refine LW.pure rfl rfl (RV.move rfl) ?_
    refine LW.pure rfl rfl (RV.eqnil Ts25 rfl rfl) ?_
    refine LW.nil (hK3 _ _ ?_)
    refine CW.condT rfl rfl ?_
    refine CW.seq fun K4 hK4 => ?_
    refine CW.region ?_
    refine LW.pure rfl rfl (RV.assign rfl) ?_
    refine LW.nil (hK4 _ _ ?_)
    refine CW.ret ?_
    obtain rfl := Option.some.inj F
    refine ⟨_, (ResOK.one rfl), ?_⟩
    replace H := H.nilOwn 3 1
    replace R0 := H.ext
    exact ⟨none, 0, (by first | rfl | (simp; done) | (simp; omega)), H⟩
  | some ad =>
    refine calls_of_cw (args := [.slice ((some ad)) a0.length c_a0]) Try.func87 rfl rfl rfl rfl ?_
    have H := Hp.start w
    have R0 := H.ext
    unfold slices_Clone_int at F
    refine CW.seq fun K1 hK1 => ?_
    refine CW.region ?_
    refine LW.pure rfl rfl (RV.assign rfl) ?_
    refine LW.nil (hK1 _ _ ?_)
    refine CW.seq fun K2 hK2 => ?_
    refine CW.seq fun K3 hK3 => ?_
    refine CW.region ?_
    refine LW.pure rfl rfl (RV.move rfl) ?_
    refine LW.pure rfl rfl (RV.eqnil Ts25 rfl rfl) ?_
    refine LW.nil (hK3 _ _ ?_)
    refine CW.condF rfl rfl ?_
    refine CW.skip (hK2 _ _ ?_)
    refine CW.seq fun K4 hK4 => ?_
    obtain ⟨hg1, F⟩ := gd_some F
    refine CW.region ?_
    refine LW.go rfl rfl (OW.buildSlice (e := 3) (vs := []) (cs := []) rfl (fun _ => by kernel_rfl) fun b2 w3 N2 => ?_)
    replace H := H.made' (k := 1) (t := 3) (enc := encN) (l := ([] : List Int)) N2 N2.blk (fun _ => rfl) rfl (by first | decide | omega | (simp; done) | (simp; omega))
    replace R0 := H.ext
    refine LW.pure rfl rfl (RV.move rfl) ?_
    refine LW.go rfl rfl (OW.appendG (enc := encN) (l := ([] : List Int)) (xs := a0) Ts25 (look_slice rfl (by first | rfl | (simp; done) | (simp; omega))) rfl (H.own 0 rfl) (h_a0.ext R0) (fun _ => rfl) rfl rfl hg1 (by decide) fun A2 c2 w4 O2 M2 D2 => ?_)
    replace H : Hp w w4 [.own A2 c2 3 1 (List.map encN ((([] : List Int) ++ a0)))] := H.mod 0 rfl M2 O2 D2
    replace R0 := H.ext
    refine LW.pure rfl rfl (RV.assign rfl) ?_
    refine LW.nil (hK4 _ _ ?_)
    refine CW.ret ?_
    obtain rfl := Option.some.inj F
    refine ⟨_, (ResOK.one rfl), ?_⟩
    exact ⟨A2, c2, (by first | rfl | (simp; done) | (simp; omega)), H⟩
set_option maxRecDepth 20000 in
set_option maxHeartbeats 1000000 in
theorem cut_hollow_list_ok {a0 : Arr6} {a1 : Bog} {A_a1_worth : Option Addr} {c_a1_worth : Nat} {w : World} {res : (List Int)} (h_a1_worth : Sl2 w A_a1_worth c_a1_worth 1 encN a1.worth) (F : cut_hollow_list a0 a1 = some res) : Calls Try.prog 91 #[.agg #[.int .i64 a0.at0, .int .i64 a0.at1, .int .i64 a0.at2, .int .i64 a0.at3, .int .i64 a0.at4, .int .i64 a0.at5], .agg #[.slice A_a1_worth a1.worth.length c_a1_worth]] w (fun e w' => ∃ (A0 : Option Addr) (c0 : Nat), e = .returned (.slice A0 res.length c0) ∧ Hp w w' [.own A0 c0 3 1 (List.map encN res)]) := by
  refine calls_of_cw (args := [.agg #[.int .i64 a0.at0, .int .i64 a0.at1, .int .i64 a0.at2, .int .i64 a0.at3, .int .i64 a0.at4, .int .i64 a0.at5], .agg #[.slice A_a1_worth a1.worth.length c_a1_worth]]) Try.func91 rfl rfl rfl rfl ?_
  have H := Hp.start w
  have R0 := H.ext
  unfold cut_hollow_list at F
  refine CW.seq fun K1 hK1 => ?_
  refine CW.region ?_
  refine LW.go rfl rfl (OW.box rfl fun b1 w1 N1 => ?_)
  replace H := H.made' (k := 1) (t := 87) (enc := encN) (l := ([a0.at0, a0.at1, a0.at2, a0.at3, a0.at4, a0.at5] : List Int)) N1 N1.blk (fun _ => rfl) rfl (by first | decide | (simp; done) | (simp; omega))
  replace R0 := H.ext
  refine LW.go rfl rfl (OW.box rfl fun b2 w2 N2 => ?_)
  replace H := H.new N2 N2.blk
  replace R0 := H.ext
  refine LW.pure rfl rfl (RV.assign rfl) ?_
  refine LW.nil (hK1 _ _ ?_)
  refine CW.seq fun K2 hK2 => ?_
  obtain ⟨hg1, F⟩ := gd_some F
  obtain ⟨r1, hr1, F⟩ := bnd_some F
  refine CW.region ?_
  refine LW.pure rfl rfl (RV.fieldAddr Tf24_0 rfl) ?_
  refine LW.pure rfl rfl (RV.load1 Tk22 rfl ((H.blk 0 rfl).cells.off 0) rfl) ?_
  refine LW.pure rfl rfl (RV.len Ts22 rfl) ?_
  refine LW.pure rfl rfl (RV.arrH (l := ([a0.at0, a0.at1, a0.at2, a0.at3, a0.at4, a0.at5] : List Int)) Ta87 rfl rfl (by first | exact hg1 | (have q := hg1; simp at q ⊢; omega) | (simp; omega)) (by first | rfl | omega | (simp; done) | (simp; omega))) ?_
  refine LW.go rfl rfl (OW.call Tc87 rfl (slices_Clone_int_ok (a0 := (List.take (Int.toNat ((a1.worth.length : Int))) (([a0.at0, a0.at1, a0.at2, a0.at3, a0.at4, a0.at5] : List Int)))) ((H.own 1 rfl).sl.cutH (by first | exact hg1 | (have q := hg1; simp at q ⊢; omega) | (simp; omega))) hr1) ?_)
  rintro _ w3 ⟨A3_0, c3_0, rfl, E1⟩
  refine ⟨_, rfl, ?_⟩
  replace H : Hp w w3 [.own A3_0 c3_0 3 1 (List.map encN r1), .blk b2 24 [.slice A_a1_worth a1.worth.length c_a1_worth], .own (some ⟨b1, 0, none⟩) 6 87 1 (List.map encN (([a0.at0, a0.at1, a0.at2, a0.at3, a0.at4, a0.at5] : List Int)))] := H.append E1
  replace R0 := H.ext
  refine LW.pure rfl rfl (RV.assign rfl) ?_
  refine LW.nil (hK2 _ _ ?_)
  refine CW.ret ?_
  obtain rfl := Option.some.inj F
  refine ⟨_, (ResOK.one rfl), ?_⟩
  replace H := H.pick (L' := [.own A3_0 c3_0 3 1 (List.map encN r1)]) [0] (by decide) rfl
  replace R0 := H.ext
  exact ⟨A3_0, c3_0, (by first | rfl | (simp; done) | (simp; omega)), H⟩
set_option maxRecDepth 20000 in
set_option maxHeartbeats 1000000 in
theorem cut_worth_ok {a0 : Bog} {a1 : List Int} {A_a0_worth : Option Addr} {c_a0_worth : Nat} {A_a1 : Option Addr} {c_a1 : Nat} {w : World} {res : Int} (h_a0_worth : Sl2 w A_a0_worth c_a0_worth 1 encN a0.worth) (h_a1 : Sl w A_a1 c_a1 1 (a1.map encN)) (F : cut_worth a0 a1 = some res) : Calls Try.prog 65 #[.agg #[.slice A_a0_worth a0.worth.length c_a0_worth], .slice A_a1 a1.length c_a1] w (Rt w (.int .i64 res)) := by
  refine calls_of_cw (args := [.agg #[.slice A_a0_worth a0.worth.length c_a0_worth], .slice A_a1 a1.length c_a1]) Try.func65 rfl rfl rfl rfl ?_
  have H := Hp.start w
  have R0 := H.ext
  unfold cut_worth at F
  refine CW.seq fun K1 hK1 => ?_
  refine CW.region ?_
  refine LW.go rfl rfl (OW.box rfl fun b1 w1 N1 => ?_)
  replace H := H.new N1 N1.blk
  replace R0 := H.ext
  refine LW.pure rfl rfl (RV.assign rfl) ?_
  refine LW.nil (hK1 _ _ ?_)
  refine CW.seq fun K2 hK2 => ?_
  refine CW.region ?_
  refine LW.pure rfl rfl (RV.assign rfl) ?_
  refine LW.nil (hK2 _ _ ?_)
  refine CW.seqJ (fun ρ wl1 => (∃ (t5_1 : Int), cut_worth_k1 t5_1 = some res ∧ ρ = [(4, .int .i64 0), (5, .int .i64 t5_1)] ∧ Hp w wl1 [])) ?_ ?_
  ·
    rintro _ wl1 ⟨t5_1, F, rfl, H⟩
    have R0 := H.ext
    unfold cut_worth_k1 at F
    refine CW.seq fun K3 hK3 => ?_
    refine CW.region ?_
    refine LW.pure rfl rfl (RV.move rfl) ?_
    refine LW.pure rfl rfl (RV.assign rfl) ?_
    refine LW.nil (hK3 _ _ ?_)
    refine CW.ret ?_
    obtain rfl := Option.some.inj F
    refine ⟨_, (ResOK.one rfl), ?_⟩
    refine ⟨(by first | rfl | simp), R0⟩
  ·
    intro K4 hK4 jK290
    refine CW.seq fun K5 hK5 => ?_
    refine CW.region ?_
    refine LW.pure rfl rfl (RV.move rfl) ?_
    refine LW.pure rfl rfl (RV.len Ts25 rfl) ?_
    refine LW.pure rfl rfl (RV.move rfl) ?_
    refine LW.nil (hK5 _ _ ?_)
    refine CW.block ?_
    refine CW.loop (fun meas ρ wl2 => ∃ (t5_4 : Int) (t12_1 : Int), cut_worth_L2 a0 a1 meas t5_4 t12_1 = some res ∧ ρ = [(2, .pointer (some (⟨b1, 0, none⟩))), (4, .int .i64 0), (5, .int .i64 t5_4), (10, .slice A_a1 a1.length c_a1), (11, .int .i64 ((a1.length : Int))), (12, .int .i64 t12_1)] ∧ Hp w wl2 [.blk b1 24 [.slice A_a0_worth a0.worth.length c_a0_worth]]) FU ⟨_, ?_, ((0 : Int)), ((0 : Int)), F, rfl, H⟩ ?_
    · exact ⟨rfl, rfl, rfl, rfl, rfl, rfl, trivial⟩
    rintro mk1 _ wl2 ⟨t5_4, t12_1, F, rfl, H⟩
    have R0 := H.ext
    replace F := cut_worth_L2_s F
    obtain ⟨mk1, rfl, F⟩ := F
    generalize hrec1 : cut_worth_L2 a0 a1 mk1 = rec1 at F
    unfold cut_worth_B2 at F
    refine CW.seq fun K6 hK6 => ?_
    refine CW.region ?_
    refine LW.pure rfl rfl (RV.lss rfl rfl) ?_
    refine LW.nil (hK6 _ _ ?_)
    refine CW.seq fun K7 hK7 => ?_
    by_cases hp1 : t12_1 < ((a1.length : Int))
    ·
      replace F := ite_y hp1 F
      have hq1 := dec_t hp1
      refine CW.condT rfl hq1 ?_
      refine CW.skip (hK7 _ _ ?_)
      refine CW.seqJ (fun ρ wl3 => (∃ (t5_2 : Int), cut_worth_k2 t12_1 rec1 t5_2 = some res ∧ ρ = [(2, .pointer (some (⟨b1, 0, none⟩))), (4, .int .i64 0), (5, .int .i64 t5_2), (10, .slice A_a1 a1.length c_a1), (11, .int .i64 ((a1.length : Int))), (12, .int .i64 t12_1)] ∧ Hp w wl3 [.blk b1 24 [.slice A_a0_worth a0.worth.length c_a0_worth]])) ?_ ?_
      ·
        rintro _ wl3 ⟨t5_2, F, rfl, H⟩
        have R0 := H.ext
        unfold cut_worth_k2 at F
        obtain ⟨hg1, F⟩ := gd_some F
        refine CW.region ?_
        refine LW.pure rfl rfl (RV.add rfl rfl hg1) ?_
        refine LW.pure rfl rfl (RV.move rfl) ?_
        refine LW.nil ?_
        subst hrec1
        refine ⟨mk1, Nat.lt_succ_self _, _, ?_, t5_2, (t12_1 + 1), F, rfl, H⟩
        exact ⟨rfl, rfl, rfl, rfl, rfl, rfl, trivial⟩
      ·
        intro K8 hK8 jK370
        refine CW.block ?_
        refine CW.seq fun K9 hK9 => ?_
        obtain ⟨x1, hbx1, hx1, F⟩ := ix_some F
        refine CW.region ?_
        refine LW.pure rfl rfl (RV.move rfl) ?_
        refine LW.pure rfl rfl (RV.indexAddr Ts25 rfl rfl hbx1 (h_a1.addr_ hx1)) ?_
        refine LW.pure rfl rfl (RV.load1 Tk3 rfl ((h_a1.at_ hx1).ext R0) rfl) ?_
        refine LW.pure rfl rfl (RV.assign rfl) ?_
        refine LW.pure rfl rfl (RV.assign rfl) ?_
        refine LW.nil (hK9 _ _ ?_)
        refine CW.seq fun K10 hK10 => ?_
        obtain ⟨x2, hbx2, hx2, F⟩ := ix_some F
        obtain ⟨hg2, F⟩ := gd_some F
        refine CW.region ?_
        refine LW.pure rfl rfl (RV.fieldAddr Tf24_0 rfl) ?_
        refine LW.pure rfl rfl (RV.load1 Tk22 rfl ((H.blk 0 rfl).cells.off 0) rfl) ?_
        refine LW.pure rfl rfl (RV.move rfl) ?_
        obtain ⟨A1, c1, hC1, hS1⟩ := h_a0_worth.at_ hx2
        refine LW.pure rfl rfl (RV.indexAddr Ts22 rfl rfl hbx2 (h_a0_worth.addr hbx2)) ?_
        refine LW.pure rfl rfl (RV.load1 Tk25 rfl (hC1.ext R0) rfl) ?_
        refine LW.pure rfl rfl (RV.move rfl) ?_
        refine LW.pure rfl rfl (RV.cutH (l := x2) Ts25 rfl rfl hg2 (hS1.ext R0).le rfl) ?_
        refine LW.pure rfl rfl (RV.len Ts25 rfl) ?_
        refine LW.pure rfl rfl (RV.move rfl) ?_
        refine LW.nil (hK10 _ _ ?_)
        refine CW.block ?_
        refine CW.loop (fun meas ρ wl4 => ∃ (t5_3 : Int) (t25_1 : Int), cut_worth_L1 t12_1 rec1 x1 x2 meas t5_3 t25_1 = some res ∧ ρ = [(2, .pointer (some (⟨b1, 0, none⟩))), (4, .int .i64 0), (5, .int .i64 t5_3), (10, .slice A_a1 a1.length c_a1), (11, .int .i64 ((a1.length : Int))), (12, .int .i64 t12_1), (23, .slice A1 ((List.take (Int.toNat x1) x2).length) c1), (24, .int .i64 (((List.take (Int.toNat x1) x2).length : Int))), (25, .int .i64 t25_1)] ∧ Hp w wl4 [.blk b1 24 [.slice A_a0_worth a0.worth.length c_a0_worth]]) FU ⟨_, ?_, t5_4, ((0 : Int)), F, rfl, H⟩ ?_
        · exact ⟨rfl, rfl, rfl, rfl, rfl, rfl, (look_slice rfl (by first | rfl | (simp; done) | (simp; omega))), rfl, rfl, trivial⟩
        rintro mk2 _ wl4 ⟨t5_3, t25_1, F, rfl, H⟩
        have R0 := H.ext
        replace F := cut_worth_L1_s F
        obtain ⟨mk2, rfl, F⟩ := F
        generalize hrec2 : cut_worth_L1 t12_1 rec1 x1 x2 mk2 = rec2 at F
        unfold cut_worth_B1 at F
        refine CW.seq fun K11 hK11 => ?_
        refine CW.region ?_
        refine LW.pure rfl rfl (RV.lss rfl rfl) ?_
        refine LW.nil (hK11 _ _ ?_)
        refine CW.seq fun K12 hK12 => ?_
        by_cases hp2 : t25_1 < (((List.take (Int.toNat x1) x2).length : Int))
        ·
          replace F := ite_y hp2 F
          have hq2 := dec_t hp2
          refine CW.condT rfl hq2 ?_
          refine CW.skip (hK12 _ _ ?_)
          refine CW.seq fun K13 hK13 => ?_
          refine CW.block ?_
          refine CW.seq fun K14 hK14 => ?_
          obtain ⟨x3, hbx3, hx3, F⟩ := ix_some F
          refine CW.region ?_
          refine LW.pure rfl rfl (RV.indexAddr Ts25 rfl rfl hbx3 (((hS1.ext R0).cutH hg2).addr_ hx3)) ?_
          refine LW.pure rfl rfl (RV.load1 Tk3 rfl (((hS1.ext R0).cutH hg2).at_ hx3) rfl) ?_
          refine LW.pure rfl rfl (RV.assign rfl) ?_
          refine LW.nil (hK14 _ _ ?_)
          obtain ⟨hg3, F⟩ := gd_some F
          refine CW.region ?_
          refine LW.pure rfl rfl (RV.move rfl) ?_
          refine LW.pure rfl rfl (RV.move rfl) ?_
          refine LW.pure rfl rfl (RV.add rfl rfl hg3) ?_
          refine LW.pure rfl rfl (RV.assign rfl) ?_
          refine LW.nil (hK13 _ _ ?_)
          obtain ⟨hg4, F⟩ := gd_some F
          refine CW.region ?_
          refine LW.pure rfl rfl (RV.add rfl rfl hg4) ?_
          refine LW.pure rfl rfl (RV.move rfl) ?_
          refine LW.nil ?_
          subst hrec2
          refine ⟨mk2, Nat.lt_succ_self _, _, ?_, (t5_3 + x3), (t25_1 + 1), F, rfl, H⟩
          exact ⟨rfl, rfl, rfl, rfl, rfl, rfl, (look_slice rfl (by first | rfl | (simp; done) | (simp; omega))), rfl, rfl, trivial⟩
        ·
          replace F := ite_n hp2 F
          have hq2 := dec_f hp2
          refine CW.condF rfl hq2 ?_
          refine CW.exit (jK370 _ _ ⟨_, ?_, ⟨t5_3, F, rfl, H⟩⟩)
          exact ⟨rfl, rfl, rfl, rfl, rfl, rfl, trivial⟩
    ·
      replace F := ite_n hp1 F
      have hq1 := dec_f hp1
      refine CW.condF rfl hq1 ?_
      replace H := H.pick (L' := []) [] (by decide) rfl
      replace R0 := H.ext
      refine CW.exit (jK290 _ _ ⟨_, ?_, ⟨t5_4, F, rfl, H⟩⟩)
      exact ⟨rfl, rfl, trivial⟩
set_option maxRecDepth 20000 in
set_option maxHeartbeats 1000000 in
theorem cut_joined_ok {a0 : List Int} {a1 : List Int} {a2 : Int → Int → Option Int} {A_a0 : Option Addr} {c_a0 : Nat} {A_a1 : Option Addr} {c_a1 : Nat} {f_a2 : Nat} {p_a2 : Array Value} {q_a2 : Array Value} {w : World} {res : (List Int)} (h_a0 : Sl w A_a0 c_a0 1 (a0.map encN)) (h_a1 : Sl w A_a1 c_a1 1 (a1.map encN)) (h_a2 : ∀ (x3 : Int) (x4 : Int) (r : Int), a2 x3 x4 = some r → ∀ w1, Ext w w1 → CallsV Try.prog f_a2 p_a2 q_a2 #[.int .i64 x3, .int .i64 x4] w1 (Rt w1 (.int .i64 r))) (F : cut_joined a0 a1 a2 = some res) : Calls Try.prog 84 #[.slice A_a0 a0.length c_a0, .slice A_a1 a1.length c_a1, .func (.func f_a2) p_a2 q_a2] w (fun e w' => ∃ (A1 : Option Addr) (c1 : Nat), e = .returned (.slice A1 res.length c1) ∧ Hp w w' [.own A1 c1 3 1 (List.map encN res)]) := by
  refine calls_of_cw (args := [.slice A_a0 a0.length c_a0, .slice A_a1 a1.length c_a1, .func (.func f_a2) p_a2 q_a2]) Try.func84 rfl rfl rfl rfl ?_
  have H := Hp.start w
  have R0 := H.ext
  unfold cut_joined at F
  refine CW.seq fun K1 hK1 => ?_
  refine CW.region ?_
  refine LW.pure rfl rfl (RV.assign rfl) ?_
  refine LW.nil (hK1 _ _ ?_)
  refine CW.seq fun K2 hK2 => ?_
  refine CW.region ?_
  refine LW.pure rfl rfl (RV.assign rfl) ?_
  refine LW.nil (hK2 _ _ ?_)
  refine CW.seqJ (fun ρ wl1 => (∃ (l1 : List Int) (Al1 : Option Addr) (cl1 : Nat), cut_joined_k1 l1 = some res ∧ ρ = [(6, .slice none 0 0), (7, .slice Al1 l1.length cl1)] ∧ Hp w wl1 [.own Al1 cl1 3 1 (List.map encN l1)])) ?_ ?_
  ·
    rintro _ wl1 ⟨l1, Al1, cl1, F, rfl, H⟩
    have R0 := H.ext
    unfold cut_joined_k1 at F
    refine CW.seq fun K3 hK3 => ?_
    refine CW.region ?_
    refine LW.pure rfl rfl (RV.move rfl) ?_
    refine LW.pure rfl rfl (RV.assign rfl) ?_
    refine LW.nil (hK3 _ _ ?_)
    refine CW.ret ?_
    obtain rfl := Option.some.inj F
    refine ⟨_, (ResOK.one rfl), ?_⟩
    exact ⟨Al1, cl1, (by first | rfl | (simp; done) | (simp; omega)), H⟩
  ·
    intro K4 hK4 jK47
    refine CW.seq fun K5 hK5 => ?_
    refine CW.region ?_
    refine LW.pure rfl rfl (RV.move rfl) ?_
    refine LW.pure rfl rfl (RV.len Ts25 rfl) ?_
    refine LW.pure rfl rfl (RV.move rfl) ?_
    refine LW.nil (hK5 _ _ ?_)
    refine CW.block ?_
    replace H := H.nilOwn 3 1
    replace R0 := H.ext
    refine CW.loop (fun meas ρ wl2 => ∃ (t11_1 : Int) (l2 : List Int) (Al2 : Option Addr) (cl2 : Nat), cut_joined_L1 a0 a1 a2 meas t11_1 l2 = some res ∧ ρ = [(0, .slice A_a0 a0.length c_a0), (1, .slice A_a1 a1.length c_a1), (2, .func (.func f_a2) p_a2 q_a2), (6, .slice none 0 0), (7, .slice Al2 l2.length cl2), (10, .int .i64 ((a0.length : Int))), (11, .int .i64 t11_1)] ∧ Hp w wl2 [.own Al2 cl2 3 1 (List.map encN l2)]) FU ⟨_, ?_, ((0 : Int)), (([] : List Int)), none, 0, F, rfl, H⟩ ?_
    · exact ⟨rfl, rfl, rfl, rfl, (look_slice rfl (by first | rfl | (simp; done) | (simp; omega))), rfl, rfl, trivial⟩
    rintro mk1 _ wl2 ⟨t11_1, l2, Al2, cl2, F, rfl, H⟩
    have R0 := H.ext
    replace F := cut_joined_L1_s F
    obtain ⟨mk1, rfl, F⟩ := F
    generalize hrec1 : cut_joined_L1 a0 a1 a2 mk1 = rec1 at F
    unfold cut_joined_B1 at F
    refine CW.seq fun K6 hK6 => ?_
    refine CW.region ?_
    refine LW.pure rfl rfl (RV.lss rfl rfl) ?_
    refine LW.nil (hK6 _ _ ?_)
    refine CW.seq fun K7 hK7 => ?_
    by_cases hp1 : t11_1 < ((a0.length : Int))
    ·
      replace F := ite_y hp1 F
      have hq1 := dec_t hp1
      refine CW.condT rfl hq1 ?_
      refine CW.skip (hK7 _ _ ?_)
      refine CW.seq fun K8 hK8 => ?_
      refine CW.block ?_
      refine CW.seq fun K9 hK9 => ?_
      refine CW.region ?_
      refine LW.pure rfl rfl (RV.move rfl) ?_
      refine LW.pure rfl rfl (RV.assign rfl) ?_
      refine LW.nil (hK9 _ _ ?_)
      obtain ⟨x1, hbx1, hx1, F⟩ := ix_some F
      obtain ⟨x2, hbx2, hx2, F⟩ := ix_some F
      obtain ⟨r1, hr1, F⟩ := bnd_some F
      obtain ⟨hg1, F⟩ := gd_some F
      have H0 := H
      have hz : wl2.heap.size ≤ wl2.heap.size := Nat.le_refl _
      refine CW.draw [12] (XB wl2 [.own Al2 cl2 3 1 (List.map encN l2)] [0]) (.cons 0 1 (.cons 1 2 (.cons 2 2 (.cons 3 2 (.cons 4 2 (.cons 5 2 (.cons 6 2 (.cons 7 2 (.cons 8 2 (.cons 9 2 (.cons 10 0 (.cons 11 0 (.cons 12 0 (.cons 13 2 .nil)))))))))))))) mixed (by kernel_rfl) fun w2 E1 => ?_
      replace H := H.grow E1
      replace R0 := H.ext
      replace hz := Nat.le_trans hz (Ext.size E1)
      refine DW.fix rfl rfl rfl (fun _ EQ => RV.move rfl) ?_
      refine DW.thru rfl rfl rfl (fun _ EQ => RV.move rfl) ?_
      refine DW.thru rfl rfl rfl (fun _ EQ => RV.move rfl) ?_
      refine DW.thru rfl rfl rfl (fun _ EQ => RV.move rfl) ?_
      refine DW.thru rfl rfl rfl (fun _ EQ => RV.indexAddr Ts25 rfl rfl hbx1 (h_a0.addr_ hx1)) ?_
      refine DW.thru rfl rfl rfl (fun _ EQ => RV.load1 Tk3 rfl (H0.old EQ R0 (h_a0.at_ hx1)) rfl) ?_
      refine DW.thru rfl rfl rfl (fun _ EQ => RV.move rfl) ?_
      refine DW.thru rfl rfl rfl (fun _ EQ => RV.move rfl) ?_
      refine DW.thru rfl rfl rfl (fun _ EQ => RV.indexAddr Ts25 rfl rfl hbx2 (h_a1.addr_ hx2)) ?_
      refine DW.thru rfl rfl rfl (fun _ EQ => RV.load1 Tk3 rfl (H0.old EQ R0 (h_a1.at_ hx2)) rfl) ?_
      refine DW.sole rfl rfl rfl (OW.callV2 rfl rfl rfl (h_a2 _ _ _ hr1 _ R0) ?_)
      rintro _ w3 ⟨rfl, E2⟩
      refine ⟨_, rfl, fun _ => E2, ModX.ext E2, ?_⟩
      replace H := H.grow E2
      replace R0 := H.ext
      replace hz := Nat.le_trans hz (Ext.size E2)
      refine DW.sole rfl rfl rfl (OW.buildSlice (e := 3) (vs := [.int .i64 r1]) (cs := [.int .i64 r1]) rfl (fun _ => by kernel_rfl) fun b1 w4 N1 => ?_)
      refine ⟨fun _ => N1.ext, ModX.ext N1.ext, ?_⟩
      have G0_b1 : wl2.heap.size ≤ b1 := by rw [N1.at_]; exact hz
      replace H := H.made' (k := 1) (t := 3) (enc := encN) (l := ([r1] : List Int)) N1 N1.blk (fun _ => rfl) rfl (by first | decide | omega | (simp; done) | (simp; omega))
      replace R0 := H.ext
      replace hz := Nat.le_trans hz (Ext.size N1.ext)
      refine DW.sole rfl rfl rfl (OW.appendG (enc := encN) (l := l2) (xs := ([r1] : List Int)) Ts25 rfl (look_slice rfl (by first | rfl | (simp; done) | (simp; omega))) (H.own 1 rfl) (H.own 0 rfl).sl (fun _ => rfl) rfl rfl hg1 (by decide) fun A2 c2 w5 O1 M1 D1 => ?_)
      refine ⟨fun h => absurd h (by decide), M1.modx (XB.own_ 0 (by decide) rfl), ?_⟩
      replace H : Hp w w5 [.own (some ⟨b1, 0, none⟩) ((([r1] : List Int)).length) 3 1 (List.map encN (([r1] : List Int))), .own A2 c2 3 1 (List.map encN ((l2 ++ ([r1] : List Int))))] := H.mod 1 rfl M1 O1 D1
      replace R0 := H.ext
      replace hz := Nat.le_trans hz M1.size
      refine DW.thru rfl rfl rfl (fun _ EQ => RV.assign rfl) ?_
      refine DW.nil (hK8 _ _ ?_)
      obtain ⟨hg2, F⟩ := gd_some F
      refine CW.region ?_
      refine LW.pure rfl rfl (RV.add rfl rfl hg2) ?_
      refine LW.pure rfl rfl (RV.move rfl) ?_
      refine LW.nil ?_
      replace H := H.pick (L' := [.own A2 c2 3 1 (List.map encN ((l2 ++ ([r1] : List Int))))]) [1] (by decide) rfl
      replace R0 := H.ext
      subst hrec1
      refine ⟨mk1, Nat.lt_succ_self _, _, ?_, (t11_1 + 1), ((l2 ++ ([r1] : List Int))), A2, c2, F, rfl, H⟩
      exact ⟨rfl, rfl, rfl, rfl, (look_slice rfl (by first | rfl | (simp; done) | (simp; omega))), rfl, rfl, trivial⟩
    ·
      replace F := ite_n hp1 F
      have hq1 := dec_f hp1
      refine CW.condF rfl hq1 ?_
      refine CW.exit (jK47 _ _ ⟨_, ?_, ⟨l2, Al2, cl2, F, rfl, H⟩⟩)
      exact ⟨rfl, (look_slice rfl (by first | rfl | (simp; done) | (simp; omega))), trivial⟩
set_option maxRecDepth 20000 in
set_option maxHeartbeats 1000000 in
theorem cut_best_ok {a0 : Bog} {a1 : Int → Int → Option Int} {A_a0_worth : Option Addr} {c_a0_worth : Nat} {f_a1 : Nat} {p_a1 : Array Value} {q_a1 : Array Value} {w : World} {res : (List Int) × Int} (h_a0_worth : Sl2 w A_a0_worth c_a0_worth 1 encN a0.worth) (h_a1 : ∀ (x8 : Int) (x9 : Int) (r : Int), a1 x8 x9 = some r → ∀ w1, Ext w w1 → CallsV Try.prog f_a1 p_a1 q_a1 #[.int .i64 x8, .int .i64 x9] w1 (Rt w1 (.int .i64 r))) (F : cut_best a0 a1 = some res) : Calls Try.prog 73 #[.agg #[.slice A_a0_worth a0.worth.length c_a0_worth], .func (.func f_a1) p_a1 q_a1] w (fun e w' => ∃ (A0 : Option Addr) (c0 : Nat), e = .returned (.tuple #[.slice A0 res.1.length c0, .int .i64 res.2]) ∧ Hp w w' [.own A0 c0 3 1 (List.map encN res.1)]) := by
  refine calls_of_cw (args := [.agg #[.slice A_a0_worth a0.worth.length c_a0_worth], .func (.func f_a1) p_a1 q_a1]) Try.func73 rfl rfl rfl rfl ?_
  have H := Hp.start w
  have R0 := H.ext
  unfold cut_best at F
  refine CW.seq fun K1 hK1 => ?_
  refine CW.region ?_
  refine LW.go rfl rfl (OW.box rfl fun b1 w2 N1 => ?_)
  replace H := H.new N1 N1.blk
  replace R0 := H.ext
  refine LW.pure rfl rfl (RV.assign rfl) ?_
  refine LW.pure rfl rfl (RV.assign rfl) ?_
  refine LW.nil (hK1 _ _ ?_)
  refine CW.seq fun K2 hK2 => ?_
  refine CW.region ?_
  refine LW.pure rfl rfl (RV.assign rfl) ?_
  refine LW.nil (hK2 _ _ ?_)
  refine CW.seq fun K3 hK3 => ?_
  refine CW.region ?_
  refine LW.pure rfl rfl (RV.assign rfl) ?_
  refine LW.nil (hK3 _ _ ?_)
  refine CW.seqJ (fun ρ wl1 => (∃ (t7_1 : Int) (l1 : List Int) (Al1 : Option Addr) (cl1 : Nat), cut_best_k1 t7_1 l1 = some res ∧ ρ = [(4, .slice none 0 0), (5, .int .i64 0), (6, .slice Al1 l1.length cl1), (7, .int .i64 t7_1)] ∧ Hp w wl1 [.own Al1 cl1 3 1 (List.map encN l1)])) ?_ ?_
  ·
    rintro _ wl1 ⟨t7_1, l1, Al1, cl1, F, rfl, H⟩
    have R0 := H.ext
    unfold cut_best_k1 at F
    refine CW.seq fun K4 hK4 => ?_
    refine CW.region ?_
    refine LW.pure rfl rfl (RV.move rfl) ?_
    refine LW.pure rfl rfl (RV.move rfl) ?_
    refine LW.pure rfl rfl (RV.assign rfl) ?_
    refine LW.pure rfl rfl (RV.assign rfl) ?_
    refine LW.nil (hK4 _ _ ?_)
    refine CW.ret ?_
    obtain rfl := Option.some.inj F
    refine ⟨_, (ResOK.two rfl rfl), ?_⟩
    exact ⟨Al1, cl1, (by first | rfl | (simp; done) | (simp; omega)), H⟩
  ·
    intro K5 hK5 jK130
    refine CW.seq fun K6 hK6 => ?_
    obtain ⟨r4, hr4, F⟩ := bnd_some F
    refine CW.region ?_
    refine LW.pure rfl rfl (RV.loadA [.slice A_a0_worth a0.worth.length c_a0_worth] Tk24 rfl (H.blk 0 rfl).cells rfl rfl) ?_
    refine LW.go rfl rfl (OW.call Tc88 rfl (cut_all_ok (a0 := a0) (h_a0_worth.ext R0) hr4) ?_)
    rintro _ w3 ⟨A59_0, c59_0, rfl, E1⟩
    refine ⟨_, rfl, ?_⟩
    replace H : Hp w w3 [.own A59_0 c59_0 87 6 (List.map encArr6 r4), .blk b1 24 [.slice A_a0_worth a0.worth.length c_a0_worth]] := H.append E1
    replace R0 := H.ext
    refine LW.pure rfl rfl (RV.len Ts82 rfl) ?_
    refine LW.pure rfl rfl (RV.move rfl) ?_
    refine LW.nil (hK6 _ _ ?_)
    refine CW.block ?_
    replace H := H.nilOwn 3 1
    replace R0 := H.ext
    refine CW.loop (fun meas ρ wl2 => ∃ (t7_3 : Int) (t15_1 : Int) (l3 : List Int) (Al3 : Option Addr) (cl3 : Nat), cut_best_L1 a0 a1 r4 meas t7_3 t15_1 l3 = some res ∧ ρ = [(1, .func (.func f_a1) p_a1 q_a1), (2, .pointer (some (⟨b1, 0, none⟩))), (4, .slice none 0 0), (5, .int .i64 0), (6, .slice Al3 l3.length cl3), (7, .int .i64 t7_3), (13, .slice A59_0 r4.length c59_0), (14, .int .i64 ((r4.length : Int))), (15, .int .i64 t15_1)] ∧ Hp w wl2 [.own Al3 cl3 3 1 (List.map encN l3), .own A59_0 c59_0 87 6 (List.map encArr6 r4), .blk b1 24 [.slice A_a0_worth a0.worth.length c_a0_worth]]) FU ⟨_, ?_, ((0 : Int)), ((0 : Int)), (([] : List Int)), none, 0, F, rfl, H⟩ ?_
    · exact ⟨rfl, rfl, rfl, rfl, (look_slice rfl (by first | rfl | (simp; done) | (simp; omega))), rfl, (look_slice rfl (by first | rfl | (simp; done) | (simp; omega))), rfl, rfl, trivial⟩
    rintro mk1 _ wl2 ⟨t7_3, t15_1, l3, Al3, cl3, F, rfl, H⟩
    have R0 := H.ext
    replace F := cut_best_L1_s F
    obtain ⟨mk1, rfl, F⟩ := F
    generalize hrec1 : cut_best_L1 a0 a1 r4 mk1 = rec1 at F
    unfold cut_best_B1 at F
    refine CW.seq fun K7 hK7 => ?_
    refine CW.region ?_
    refine LW.pure rfl rfl (RV.lss rfl rfl) ?_
    refine LW.nil (hK7 _ _ ?_)
    refine CW.seq fun K8 hK8 => ?_
    by_cases hp1 : t15_1 < ((r4.length : Int))
    ·
      replace F := ite_y hp1 F
      have hq1 := dec_t hp1
      refine CW.condT rfl hq1 ?_
      refine CW.skip (hK8 _ _ ?_)
      refine CW.seqJ (fun ρ wl3 => (∃ (t7_2 : Int) (l2 : List Int) (Al2 : Option Addr) (cl2 : Nat), cut_best_k2 t15_1 rec1 t7_2 l2 = some res ∧ ρ = [(1, .func (.func f_a1) p_a1 q_a1), (2, .pointer (some (⟨b1, 0, none⟩))), (4, .slice none 0 0), (5, .int .i64 0), (6, .slice Al2 l2.length cl2), (7, .int .i64 t7_2), (13, .slice A59_0 r4.length c59_0), (14, .int .i64 ((r4.length : Int))), (15, .int .i64 t15_1)] ∧ Hp w wl3 [.own Al2 cl2 3 1 (List.map encN l2), .own A59_0 c59_0 87 6 (List.map encArr6 r4), .blk b1 24 [.slice A_a0_worth a0.worth.length c_a0_worth]])) ?_ ?_
      ·
        rintro _ wl3 ⟨t7_2, l2, Al2, cl2, F, rfl, H⟩
        have R0 := H.ext
        unfold cut_best_k2 at F
        obtain ⟨hg1, F⟩ := gd_some F
        refine CW.region ?_
        refine LW.pure rfl rfl (RV.add rfl rfl hg1) ?_
        refine LW.pure rfl rfl (RV.move rfl) ?_
        refine LW.nil ?_
        subst hrec1
        refine ⟨mk1, Nat.lt_succ_self _, _, ?_, t7_2, (t15_1 + 1), l2, Al2, cl2, F, rfl, H⟩
        exact ⟨rfl, rfl, rfl, rfl, (look_slice rfl (by first | rfl | (simp; done) | (simp; omega))), rfl, (look_slice rfl (by first | rfl | (simp; done) | (simp; omega))), rfl, rfl, trivial⟩
      ·
        intro K9 hK9 jK165
        refine CW.block ?_
        refine CW.seq fun K10 hK10 => ?_
        obtain ⟨x1, hbx1, hx1, F⟩ := ix_some F
        refine CW.region ?_
        refine LW.pure rfl rfl (RV.move rfl) ?_
        refine LW.pure rfl rfl (RV.indexAddr Ts82 rfl rfl hbx1 ((H.own 1 rfl).sl.addr_ hx1)) ?_
        refine LW.pure rfl rfl (RV.loadA [.int .i64 x1.at0, .int .i64 x1.at1, .int .i64 x1.at2, .int .i64 x1.at3, .int .i64 x1.at4, .int .i64 x1.at5] Tk87 rfl ((H.own 1 rfl).sl.at_ hx1) rfl rfl) ?_
        refine LW.go rfl rfl (OW.alloc Tz87 fun b2 w4 N2 => ?_)
        replace H := H.made' (k := 1) (t := 87) (enc := encN) (l := ([0, 0, 0, 0, 0, 0] : List Int)) N2 N2.blk (fun _ => rfl) rfl (by first | decide | (simp; done) | (simp; omega))
        replace R0 := H.ext
        refine LW.pure rfl rfl (RV.assign rfl) ?_
        refine LW.go rfl rfl (OW.storeArr (l' := ([x1.at0, x1.at1, x1.at2, x1.at3, x1.at4, x1.at5] : List Int)) (vs := [.int .i64 x1.at0, .int .i64 x1.at1, .int .i64 x1.at2, .int .i64 x1.at3, .int .i64 x1.at4, .int .i64 x1.at5]) Tk87 rfl rfl (H.own 0 rfl) (fun _ => rfl) (by first | rfl | omega | (simp; done) | (simp; omega)) rfl rfl rfl rfl fun w5 M1 O1 => ?_)
        replace H : Hp w w5 [.own (some ⟨b2, 0, none⟩) 6 87 1 (List.map encN (([x1.at0, x1.at1, x1.at2, x1.at3, x1.at4, x1.at5] : List Int))), .own Al3 cl3 3 1 (List.map encN l3), .own A59_0 c59_0 87 6 (List.map encArr6 r4), .blk b1 24 [.slice A_a0_worth a0.worth.length c_a0_worth]] := H.mod 0 rfl M1 O1 (.inl rfl)
        replace R0 := H.ext
        refine LW.nil (hK10 _ _ ?_)
        refine CW.seq fun K11 hK11 => ?_
        obtain ⟨hg2, F⟩ := gd_some F
        obtain ⟨x2, hbx2, hx2, F⟩ := ix_some F
        obtain ⟨x3, hbx3, hx3, F⟩ := ix_some F
        obtain ⟨x4, hbx4, hx4, F⟩ := ix_some F
        obtain ⟨x5, hbx5, hx5, F⟩ := ix_some F
        obtain ⟨x6, hbx6, hx6, F⟩ := ix_some F
        obtain ⟨x7, hbx7, hx7, F⟩ := ix_some F
        obtain ⟨r1, hr1, F⟩ := bnd_some F
        refine CW.region ?_
        have hL1 := list6 hg2 hx2 hx3 hx4 hx5 hx6 hx7
        refine LW.pure rfl rfl (RV.loadA (vs := [.int .i64 x2, .int .i64 x3, .int .i64 x4, .int .i64 x5, .int .i64 x6, .int .i64 x7]) [.int .i64 x2, .int .i64 x3, .int .i64 x4, .int .i64 x5, .int .i64 x6, .int .i64 x7] Tk87 rfl (fun j v hj => (H.own 0 rfl).flat j v (by rw [hL1]; exact hj)) rfl rfl) ?_
        refine LW.pure rfl rfl (RV.loadA [.slice A_a0_worth a0.worth.length c_a0_worth] Tk24 rfl (H.blk 3 rfl).cells rfl rfl) ?_
        refine LW.go rfl rfl (OW.call Tc91 rfl (cut_hollow_list_ok (a0 := (⟨x2, x3, x4, x5, x6, x7⟩ : Arr6)) (a1 := a0) (h_a0_worth.ext R0) hr1) ?_)
        rintro _ w6 ⟨A76_0, c76_0, rfl, E2⟩
        refine ⟨_, rfl, ?_⟩
        replace H : Hp w w6 [.own A76_0 c76_0 3 1 (List.map encN r1), .own (some ⟨b2, 0, none⟩) 6 87 1 (List.map encN (([x1.at0, x1.at1, x1.at2, x1.at3, x1.at4, x1.at5] : List Int))), .own Al3 cl3 3 1 (List.map encN l3), .own A59_0 c59_0 87 6 (List.map encArr6 r4), .blk b1 24 [.slice A_a0_worth a0.worth.length c_a0_worth]] := H.append E2
        replace R0 := H.ext
        refine LW.pure rfl rfl (RV.assign rfl) ?_
        refine LW.nil (hK11 _ _ ?_)
        refine CW.seq fun K12 hK12 => ?_
        obtain ⟨r2, hr2, F⟩ := bnd_some F
        refine CW.region ?_
        refine LW.pure rfl rfl (RV.loadA [.slice A_a0_worth a0.worth.length c_a0_worth] Tk24 rfl (H.blk 4 rfl).cells rfl rfl) ?_
        refine LW.pure rfl rfl (RV.move rfl) ?_
        refine LW.go rfl rfl (OW.call Tc65 rfl (cut_worth_ok (a0 := a0) (a1 := r1) (h_a0_worth.ext R0) (H.own 0 rfl).sl hr2) ?_)
        rintro _ w7 ⟨rfl, E3⟩
        refine ⟨_, rfl, ?_⟩
        replace H := H.grow E3
        replace R0 := H.ext
        refine LW.pure rfl rfl (RV.assign rfl) ?_
        refine LW.nil (hK12 _ _ ?_)
        refine CW.block ?_
        refine CW.seqJ (fun ρ wl4 => (∃ (t26_1 : Bool), cut_best_k3 a1 t7_3 t15_1 l3 rec1 r1 r2 t26_1 = some res ∧ ρ = [(1, .func (.func f_a1) p_a1 q_a1), (2, .pointer (some (⟨b1, 0, none⟩))), (4, .slice none 0 0), (5, .int .i64 0), (6, .slice Al3 l3.length cl3), (7, .int .i64 t7_3), (10, .slice A76_0 r1.length c76_0), (11, .int .i64 r2), (13, .slice A59_0 r4.length c59_0), (14, .int .i64 ((r4.length : Int))), (15, .int .i64 t15_1), (26, .bool t26_1)] ∧ Hp w wl4 [.own Al3 cl3 3 1 (List.map encN l3), .own A76_0 c76_0 3 1 (List.map encN r1), .own A59_0 c59_0 87 6 (List.map encArr6 r4), .blk b1 24 [.slice A_a0_worth a0.worth.length c_a0_worth]])) ?_ ?_
        ·
          rintro _ wl4 ⟨t26_1, F, rfl, H⟩
          have R0 := H.ext
          unfold cut_best_k3 at F
          by_cases hp2 : t26_1 = true
          ·
            replace F := ite_y hp2 F
            have hq2 : t26_1 = true := hp2
            refine CW.condT rfl hq2 ?_
            refine CW.region ?_
            refine LW.pure rfl rfl (RV.move rfl) ?_
            refine LW.pure rfl rfl (RV.move rfl) ?_
            refine LW.pure rfl rfl (RV.assign rfl) ?_
            refine LW.pure rfl rfl (RV.assign rfl) ?_
            replace H := H.pick (L' := [.own A76_0 c76_0 3 1 (List.map encN r1), .own A59_0 c59_0 87 6 (List.map encArr6 r4), .blk b1 24 [.slice A_a0_worth a0.worth.length c_a0_worth]]) [1, 2, 3] (by decide) rfl
            replace R0 := H.ext
            refine LW.nil (jK165 _ _ ⟨_, ?_, ⟨r2, r1, A76_0, c76_0, F, rfl, H⟩⟩)
            exact ⟨rfl, rfl, rfl, rfl, (look_slice rfl (by first | rfl | (simp; done) | (simp; omega))), rfl, (look_slice rfl (by first | rfl | (simp; done) | (simp; omega))), rfl, rfl, trivial⟩
          ·
            replace F := ite_n hp2 F
            have hq2 : t26_1 = false := raw_f hp2
            refine CW.condF rfl hq2 ?_
            refine CW.seq fun K13 hK13 => ?_
            refine CW.region ?_
            refine LW.pure rfl rfl (RV.move rfl) ?_
            refine LW.pure rfl rfl (RV.move rfl) ?_
            refine LW.pure rfl rfl (RV.eqi rfl rfl) ?_
            refine LW.pure rfl rfl (RV.assign rfl) ?_
            refine LW.nil (hK13 _ _ ?_)
            by_cases hp3 : r2 = t7_3
            ·
              replace F := ite_y hp3 F
              have hq3 := dec_t hp3
              refine CW.condT rfl hq3 ?_
              obtain ⟨r3, hr3, F⟩ := bnd_some F
              refine CW.region ?_
              refine LW.pure rfl rfl (RV.move rfl) ?_
              refine LW.pure rfl rfl (RV.move rfl) ?_
              refine LW.pure rfl rfl (RV.move rfl) ?_
              refine LW.go rfl rfl (OW.call Tc84 rfl (cut_joined_ok (a0 := l3) (a1 := r1) (a2 := a1) (H.own 0 rfl).sl (H.own 1 rfl).sl (fun x8 x9 r hF w1 hE => h_a1 x8 x9 r hF w1 (R0.trans hE)) hr3) ?_)
              rintro _ w8 ⟨A80_0, c80_0, rfl, E4⟩
              refine ⟨_, rfl, ?_⟩
              replace H : Hp w w8 [.own A80_0 c80_0 3 1 (List.map encN r3), .own Al3 cl3 3 1 (List.map encN l3), .own A76_0 c76_0 3 1 (List.map encN r1), .own A59_0 c59_0 87 6 (List.map encArr6 r4), .blk b1 24 [.slice A_a0_worth a0.worth.length c_a0_worth]] := H.append E4
              replace R0 := H.ext
              refine LW.pure rfl rfl (RV.assign rfl) ?_
              replace H := H.pick (L' := [.own A80_0 c80_0 3 1 (List.map encN r3), .own A59_0 c59_0 87 6 (List.map encArr6 r4), .blk b1 24 [.slice A_a0_worth a0.worth.length c_a0_worth]]) [0, 3, 4] (by decide) rfl
              replace R0 := H.ext
              refine LW.nil (jK165 _ _ ⟨_, ?_, ⟨t7_3, r3, A80_0, c80_0, F, rfl, H⟩⟩)
              exact ⟨rfl, rfl, rfl, rfl, (look_slice rfl (by first | rfl | (simp; done) | (simp; omega))), rfl, (look_slice rfl (by first | rfl | (simp; done) | (simp; omega))), rfl, rfl, trivial⟩
            ·
              replace F := ite_n hp3 F
              have hq3 := dec_f hp3
              refine CW.condF rfl hq3 ?_
              replace H := H.pick (L' := [.own Al3 cl3 3 1 (List.map encN l3), .own A59_0 c59_0 87 6 (List.map encArr6 r4), .blk b1 24 [.slice A_a0_worth a0.worth.length c_a0_worth]]) [0, 2, 3] (by decide) rfl
              replace R0 := H.ext
              refine CW.skip (jK165 _ _ ⟨_, ?_, ⟨t7_3, l3, Al3, cl3, F, rfl, H⟩⟩)
              exact ⟨rfl, rfl, rfl, rfl, (look_slice rfl (by first | rfl | (simp; done) | (simp; omega))), rfl, (look_slice rfl (by first | rfl | (simp; done) | (simp; omega))), rfl, rfl, trivial⟩
        ·
          intro K14 hK14 jK170
          by_cases hp4 : t15_1 = 0
          ·
            replace F := ite_y hp4 F
            have hq4 := dec_t hp4
            refine CW.region ?_
            refine LW.pure rfl rfl (RV.move rfl) ?_
            refine LW.pure rfl rfl (RV.eqi rfl rfl) ?_
            refine LW.pure rfl rfl (RV.move rfl) ?_
            refine LW.noB rfl rfl rfl rfl (ne_beq (v := true) hq4 rfl) ?_
            refine LW.noB rfl rfl rfl rfl (ne_beq (v := true) hq4 rfl) ?_
            refine LW.noB rfl rfl rfl rfl (ne_beq (v := true) hq4 rfl) ?_
            refine LW.pure rfl rfl (RV.pickTB rfl hq4 rfl) ?_
            refine LW.pure rfl rfl (RV.assign rfl) ?_
            replace H := H.pick (L' := [.own Al3 cl3 3 1 (List.map encN l3), .own A76_0 c76_0 3 1 (List.map encN r1), .own A59_0 c59_0 87 6 (List.map encArr6 r4), .blk b1 24 [.slice A_a0_worth a0.worth.length c_a0_worth]]) [2, 0, 3, 4] (by decide) rfl
            replace R0 := H.ext
            refine LW.nil (jK170 _ _ ⟨_, ?_, ⟨true, F, rfl, H⟩⟩)
            exact ⟨rfl, rfl, rfl, rfl, (look_slice rfl (by first | rfl | (simp; done) | (simp; omega))), rfl, (look_slice rfl (by first | rfl | (simp; done) | (simp; omega))), rfl, (look_slice rfl (by first | rfl | (simp; done) | (simp; omega))), rfl, rfl, rfl, trivial⟩
          ·
            replace F := ite_n hp4 F
            have hq4 := dec_f hp4
            refine CW.region ?_
            refine LW.pure rfl rfl (RV.move rfl) ?_
            refine LW.pure rfl rfl (RV.eqi rfl rfl) ?_
            refine LW.pure rfl rfl (RV.move rfl) ?_
            refine LW.pureYB rfl rfl rfl rfl hq4 (RV.move rfl) ?_
            refine LW.pureYB rfl rfl rfl rfl hq4 (RV.move rfl) ?_
            refine LW.pureYB rfl rfl rfl rfl hq4 (RV.gtr rfl rfl) ?_
            refine LW.pure rfl rfl (RV.pickFB rfl hq4 rfl) ?_
            refine LW.pure rfl rfl (RV.assign rfl) ?_
            replace H := H.pick (L' := [.own Al3 cl3 3 1 (List.map encN l3), .own A76_0 c76_0 3 1 (List.map encN r1), .own A59_0 c59_0 87 6 (List.map encArr6 r4), .blk b1 24 [.slice A_a0_worth a0.worth.length c_a0_worth]]) [2, 0, 3, 4] (by decide) rfl
            replace R0 := H.ext
            refine LW.nil (jK170 _ _ ⟨_, ?_, ⟨(decide (t7_3 < r2)), F, rfl, H⟩⟩)
            exact ⟨rfl, rfl, rfl, rfl, (look_slice rfl (by first | rfl | (simp; done) | (simp; omega))), rfl, (look_slice rfl (by first | rfl | (simp; done) | (simp; omega))), rfl, (look_slice rfl (by first | rfl | (simp; done) | (simp; omega))), rfl, rfl, rfl, trivial⟩
    ·
      replace F := ite_n hp1 F
      have hq1 := dec_f hp1
      refine CW.condF rfl hq1 ?_
      replace H := H.pick (L' := [.own Al3 cl3 3 1 (List.map encN l3)]) [0] (by decide) rfl
      replace R0 := H.ext
      refine CW.exit (jK130 _ _ ⟨_, ?_, ⟨t7_3, l3, Al3, cl3, F, rfl, H⟩⟩)
      exact ⟨rfl, rfl, (look_slice rfl (by first | rfl | (simp; done) | (simp; omega))), rfl, trivial⟩
set_option maxRecDepth 20000 in
set_option maxHeartbeats 1000000 in
theorem cut_smaller_ok {a0 : Int} {a1 : Int} {w : World} {res : Int} (F : cut_smaller a0 a1 = some res) : Calls Try.prog 74 #[.int .i64 a0, .int .i64 a1] w (Rt w (.int .i64 res)) := by
  refine calls_of_cw (args := [.int .i64 a0, .int .i64 a1]) Try.func74 rfl rfl rfl rfl ?_
  have H := Hp.start w
  have R0 := H.ext
  unfold cut_smaller at F
  refine CW.seq fun K1 hK1 => ?_
  refine CW.region ?_
  refine LW.pure rfl rfl (RV.assign rfl) ?_
  refine LW.nil (hK1 _ _ ?_)
  refine CW.seq fun K2 hK2 => ?_
  refine CW.region ?_
  refine LW.pure rfl rfl (RV.move rfl) ?_
  refine LW.pure rfl rfl (RV.move rfl) ?_
  refine LW.pure rfl rfl (RV.min2 rfl rfl) ?_
  refine LW.pure rfl rfl (RV.assign rfl) ?_
  refine LW.nil (hK2 _ _ ?_)
  refine CW.ret ?_
  obtain rfl := Option.some.inj F
  refine ⟨_, (ResOK.one rfl), ?_⟩
  refine ⟨(by first | rfl | simp), R0⟩
set_option maxRecDepth 20000 in
set_option maxHeartbeats 1000000 in
theorem cut_Best_ok {a0 : Bog} {A_a0_worth : Option Addr} {c_a0_worth : Nat} {w : World} {res : (List Int) × Int × Int} (h_a0_worth : Sl2 w A_a0_worth c_a0_worth 1 encN a0.worth) (F : cut_Best a0 = some res) : Calls Try.prog 28 #[.agg #[.slice A_a0_worth a0.worth.length c_a0_worth]] w (fun e w' => ∃ (A0 : Option Addr) (c0 : Nat), e = .returned (.tuple #[.slice A0 res.1.length c0, .int .i64 res.2.1, .int .i64 res.2.2]) ∧ Hp w w' [.own A0 c0 3 1 (List.map encN res.1)]) := by
  refine calls_of_cw (args := [.agg #[.slice A_a0_worth a0.worth.length c_a0_worth]]) Try.func28 rfl rfl rfl rfl ?_
  have H := Hp.start w
  have R0 := H.ext
  unfold cut_Best at F
  refine CW.seq fun K1 hK1 => ?_
  refine CW.region ?_
  refine LW.go rfl rfl (OW.box rfl fun b1 w1 N1 => ?_)
  replace H := H.new N1 N1.blk
  replace R0 := H.ext
  refine LW.pure rfl rfl (RV.assign rfl) ?_
  refine LW.pure rfl rfl (RV.assign rfl) ?_
  refine LW.pure rfl rfl (RV.assign rfl) ?_
  refine LW.nil (hK1 _ _ ?_)
  refine CW.seq fun K2 hK2 => ?_
  refine CW.seq fun K3 hK3 => ?_
  obtain ⟨r1, hr1, F⟩ := bnd_some F
  refine CW.region ?_
  refine LW.pure rfl rfl (RV.loadA [.slice A_a0_worth a0.worth.length c_a0_worth] Tk24 rfl (H.blk 0 rfl).cells rfl rfl) ?_
  refine LW.go rfl rfl (OW.call Tc25 rfl (cut_Validate_ok (a0 := a0) (h_a0_worth.ext R0) hr1) ?_)
  rintro _ w2 ⟨rfl, E1⟩
  refine ⟨_, rfl, ?_⟩
  replace H := H.grow E1
  replace R0 := H.ext
  refine LW.pure rfl rfl (RV.assign rfl) ?_
  refine LW.nil (hK3 _ _ ?_)
  refine CW.seq fun K4 hK4 => ?_
  refine CW.region ?_
  refine LW.pure rfl rfl (RV.move rfl) ?_
  refine LW.pure rfl rfl (RV.nei rfl rfl) ?_
  refine LW.nil (hK4 _ _ ?_)
  by_cases hp1 : r1 = 0
  ·
    replace F := ite_y hp1 F
    have hq1 := dec_t hp1
    refine CW.condF rfl (not_f hq1) ?_
    refine CW.skip (hK2 _ _ ?_)
    refine CW.seq fun K5 hK5 => ?_
    obtain ⟨r2, hr2, F⟩ := bnd_some F
    refine CW.region ?_
    refine LW.pure rfl rfl (RV.loadA [.slice A_a0_worth a0.worth.length c_a0_worth] Tk24 rfl (H.blk 0 rfl).cells rfl rfl) ?_
    refine LW.go rfl rfl (OW.call Tc73 rfl (cut_best_ok (a0 := a0) (a1 := cut_smaller) (h_a0_worth.ext R0) (fun x0 x1 r hF w3 hE => CallsV.of Tc74 (cut_smaller_ok (a0 := x0) (a1 := x1) hF)) hr2) ?_)
    rintro _ w4 ⟨A6_0, c6_0, rfl, E2⟩
    refine ⟨_, rfl, ?_⟩
    replace H : Hp w w4 [.own A6_0 c6_0 3 1 (List.map encN r2.1), .blk b1 24 [.slice A_a0_worth a0.worth.length c_a0_worth]] := H.append E2
    replace R0 := H.ext
    refine LW.pure rfl rfl (RV.move rfl) ?_
    refine LW.pure rfl rfl (RV.extract rfl rfl) ?_
    refine LW.pure rfl rfl (RV.extract rfl rfl) ?_
    refine LW.pure rfl rfl (RV.assign rfl) ?_
    refine LW.pure rfl rfl (RV.assign rfl) ?_
    refine LW.nil (hK5 _ _ ?_)
    refine CW.seq fun K6 hK6 => ?_
    refine CW.region ?_
    refine LW.pure rfl rfl (RV.move rfl) ?_
    refine LW.pure rfl rfl (RV.move rfl) ?_
    refine LW.pure rfl rfl (RV.assign rfl) ?_
    refine LW.pure rfl rfl (RV.assign rfl) ?_
    refine LW.pure rfl rfl (RV.assign rfl) ?_
    refine LW.nil (hK6 _ _ ?_)
    refine CW.ret ?_
    obtain rfl := Option.some.inj F
    refine ⟨_, (ResOK.three rfl rfl rfl), ?_⟩
    replace H := H.pick (L' := [.own A6_0 c6_0 3 1 (List.map encN r2.1)]) [0] (by decide) rfl
    replace R0 := H.ext
    exact ⟨A6_0, c6_0, (by first | rfl | (simp; done) | (simp; omega)), H⟩
  ·
    replace F := ite_n hp1 F
    have hq1 := dec_f hp1
    refine CW.condT rfl (not_t hq1) ?_
    refine CW.seq fun K7 hK7 => ?_
    refine CW.region ?_
    refine LW.pure rfl rfl (RV.move rfl) ?_
    refine LW.pure rfl rfl (RV.assign rfl) ?_
    refine LW.pure rfl rfl (RV.assign rfl) ?_
    refine LW.pure rfl rfl (RV.assign rfl) ?_
    refine LW.nil (hK7 _ _ ?_)
    refine CW.ret ?_
    obtain rfl := Option.some.inj F
    refine ⟨_, (ResOK.three rfl rfl rfl), ?_⟩
    replace H := H.nilOwn 3 1
    replace R0 := H.ext
    replace H := H.pick (L' := [.own none 0 3 1 (List.map encN (([] : List Int)))]) [0] (by decide) rfl
    replace R0 := H.ext
    exact ⟨none, 0, (by first | rfl | (simp; done) | (simp; omega)), H⟩
set_option maxRecDepth 20000 in
set_option maxHeartbeats 1000000 in
theorem cut_Count_ok {a0 : Bog} {A_a0_worth : Option Addr} {c_a0_worth : Nat} {w : World} {res : Int × Int} (h_a0_worth : Sl2 w A_a0_worth c_a0_worth 1 encN a0.worth) (F : cut_Count a0 = some res) : Calls Try.prog 49 #[.agg #[.slice A_a0_worth a0.worth.length c_a0_worth]] w (Rt w (.tuple #[.int .i64 res.1, .int .i64 res.2])) := by
  refine calls_of_cw (args := [.agg #[.slice A_a0_worth a0.worth.length c_a0_worth]]) Try.func49 rfl rfl rfl rfl ?_
  have H := Hp.start w
  have R0 := H.ext
  unfold cut_Count at F
  refine CW.seq fun K1 hK1 => ?_
  refine CW.region ?_
  refine LW.go rfl rfl (OW.box rfl fun b1 w1 N1 => ?_)
  replace H := H.new N1 N1.blk
  replace R0 := H.ext
  refine LW.pure rfl rfl (RV.assign rfl) ?_
  refine LW.pure rfl rfl (RV.assign rfl) ?_
  refine LW.nil (hK1 _ _ ?_)
  refine CW.seq fun K2 hK2 => ?_
  refine CW.seq fun K3 hK3 => ?_
  obtain ⟨r1, hr1, F⟩ := bnd_some F
  refine CW.region ?_
  refine LW.pure rfl rfl (RV.loadA [.slice A_a0_worth a0.worth.length c_a0_worth] Tk24 rfl (H.blk 0 rfl).cells rfl rfl) ?_
  refine LW.go rfl rfl (OW.call Tc25 rfl (cut_Validate_ok (a0 := a0) (h_a0_worth.ext R0) hr1) ?_)
  rintro _ w2 ⟨rfl, E1⟩
  refine ⟨_, rfl, ?_⟩
  replace H := H.grow E1
  replace R0 := H.ext
  refine LW.pure rfl rfl (RV.assign rfl) ?_
  refine LW.nil (hK3 _ _ ?_)
  refine CW.seq fun K4 hK4 => ?_
  refine CW.region ?_
  refine LW.pure rfl rfl (RV.move rfl) ?_
  refine LW.pure rfl rfl (RV.nei rfl rfl) ?_
  refine LW.nil (hK4 _ _ ?_)
  by_cases hp1 : r1 = 0
  ·
    replace F := ite_y hp1 F
    have hq1 := dec_t hp1
    refine CW.condF rfl (not_f hq1) ?_
    refine CW.skip (hK2 _ _ ?_)
    refine CW.seq fun K5 hK5 => ?_
    obtain ⟨r2, hr2, F⟩ := bnd_some F
    refine CW.region ?_
    refine LW.pure rfl rfl (RV.loadA [.slice A_a0_worth a0.worth.length c_a0_worth] Tk24 rfl (H.blk 0 rfl).cells rfl rfl) ?_
    refine LW.go rfl rfl (OW.call Tc88 rfl (cut_all_ok (a0 := a0) (h_a0_worth.ext R0) hr2) ?_)
    rintro _ w3 ⟨A6_0, c6_0, rfl, E2⟩
    refine ⟨_, rfl, ?_⟩
    replace H : Hp w w3 [.own A6_0 c6_0 87 6 (List.map encArr6 r2), .blk b1 24 [.slice A_a0_worth a0.worth.length c_a0_worth]] := H.append E2
    replace R0 := H.ext
    refine LW.pure rfl rfl (RV.len Ts82 rfl) ?_
    refine LW.pure rfl rfl (RV.assign rfl) ?_
    refine LW.pure rfl rfl (RV.assign rfl) ?_
    refine LW.nil (hK5 _ _ ?_)
    refine CW.ret ?_
    obtain rfl := Option.some.inj F
    refine ⟨_, (ResOK.two rfl rfl), ?_⟩
    refine ⟨(by first | rfl | simp), R0⟩
  ·
    replace F := ite_n hp1 F
    have hq1 := dec_f hp1
    refine CW.condT rfl (not_t hq1) ?_
    refine CW.seq fun K6 hK6 => ?_
    refine CW.region ?_
    refine LW.pure rfl rfl (RV.move rfl) ?_
    refine LW.pure rfl rfl (RV.assign rfl) ?_
    refine LW.pure rfl rfl (RV.assign rfl) ?_
    refine LW.nil (hK6 _ _ ?_)
    refine CW.ret ?_
    obtain rfl := Option.some.inj F
    refine ⟨_, (ResOK.two rfl rfl), ?_⟩
    refine ⟨(by first | rfl | simp), R0⟩
end Go.D4
