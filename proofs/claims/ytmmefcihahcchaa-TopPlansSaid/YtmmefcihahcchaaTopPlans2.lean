/- Lemmas and walks that the proof of this claim uses: D7m1, D7m2, D7m3. -/
import Derived.Test.YtmmefcihahcchaaTopPlans1
set_option linter.unusedVariables false
set_option linter.unusedSimpArgs false
namespace Go.D7
open Go.Tb Go.Proofs Go.RowKit
theorem Tc54 : callable Try.prog 54 = true := by kernel_rfl
theorem Tc64 : callable Try.prog 64 = true := by kernel_rfl
theorem Tc70 : callable Try.prog 70 = true := by kernel_rfl
theorem Tc71 : callable Try.prog 71 = true := by kernel_rfl
theorem Tc75 : callable Try.prog 75 = true := by kernel_rfl
theorem Tc86 : callable Try.prog 86 = true := by kernel_rfl
theorem Tc90 : callable Try.prog 90 = true := by kernel_rfl
theorem Tc91 : callable Try.prog 91 = true := by kernel_rfl
theorem Tc98 : callable Try.prog 98 = true := by kernel_rfl
theorem Tf25_0 : tyF Try.prog 25 0 = some 0 := by kernel_rfl
theorem Tf25_1 : tyF Try.prog 25 1 = some 1 := by kernel_rfl
theorem Tf25_2 : tyF Try.prog 25 2 = some 2 := by kernel_rfl
theorem Tk22 : tyK Try.prog 22 = some (false, 1) := by kernel_rfl
theorem Tk23 : tyK Try.prog 23 = some (false, 1) := by kernel_rfl
theorem Tk25 : tyK Try.prog 25 = some (true, 3) := by kernel_rfl
theorem Tk3 : tyK Try.prog 3 = some (false, 1) := by kernel_rfl
theorem mixed : Try.prog.follows .mixedOrders = true := by kernel_rfl
theorem Ts22 : tyS Try.prog 22 = some (3, 1, 8, [.int .i64 0]) := by kernel_rfl
theorem Ts23 : tyS Try.prog 23 = some (22, 1, 24, [.slice none 0 0]) := by kernel_rfl
theorem Ts63 : tyS Try.prog 63 = some (23, 1, 24, [.slice none 0 0]) := by kernel_rfl
set_option maxRecDepth 20000 in
set_option maxHeartbeats 1000000 in
theorem law07_table_ok {a0 : List (List Int)} {A_a0 : Option Addr} {c_a0 : Nat} {w : World} {res : Bool} (h_a0 : Sl2 w A_a0 c_a0 1 encN a0) (F : law07_table a0 = some res) : Calls Try.prog 54 #[.slice A_a0 a0.length c_a0] w (Rt w (.bool res)) := by
  refine calls_of_cw (args := [.slice A_a0 a0.length c_a0]) Try.func54 rfl rfl rfl rfl ?_
  have H := Hp.start w
  have R0 := H.ext
  unfold law07_table at F
  refine CW.seq fun K1 hK1 => ?_
  refine CW.region ?_
  refine LW.pure rfl rfl (RV.assign rfl) ?_
  refine LW.nil (hK1 _ _ ?_)
  refine CW.seqJ (fun ρ wl1 => (law07_table_k1 a0 = some res ∧ ρ = [(0, .slice A_a0 a0.length c_a0), (2, .bool false)] ∧ Hp w wl1 [])) ?_ ?_
  ·
    rintro _ wl1 ⟨F, rfl, H⟩
    have R0 := H.ext
    unfold law07_table_k1 at F
    refine CW.seq fun K2 hK2 => ?_
    refine CW.region ?_
    refine LW.pure rfl rfl (RV.move rfl) ?_
    refine LW.pure rfl rfl (RV.len Ts23 rfl) ?_
    refine LW.pure rfl rfl (RV.gtr rfl rfl) ?_
    refine LW.pure rfl rfl (RV.assign rfl) ?_
    refine LW.nil (hK2 _ _ ?_)
    refine CW.ret ?_
    obtain rfl := Option.some.inj F
    refine ⟨_, (ResOK.one rfl), ?_⟩
    refine ⟨(by first | rfl | simp), R0⟩
  ·
    intro K3 hK3 jK54
    refine CW.seq fun K4 hK4 => ?_
    refine CW.region ?_
    refine LW.pure rfl rfl (RV.assign rfl) ?_
    refine LW.nil (hK4 _ _ ?_)
    refine CW.block ?_
    refine CW.loop (fun meas ρ wl2 => ∃ (t3_1 : Int), law07_table_L1 a0 meas t3_1 = some res ∧ ρ = [(0, .slice A_a0 a0.length c_a0), (2, .bool false), (3, .int .i64 t3_1)] ∧ Hp w wl2 []) FU ⟨_, ?_, ((0 : Int)), F, rfl, H⟩ ?_
    · exact ⟨rfl, rfl, rfl, trivial⟩
    rintro mk1 _ wl2 ⟨t3_1, F, rfl, H⟩
    have R0 := H.ext
    replace F := law07_table_L1_s F
    obtain ⟨mk1, rfl, F⟩ := F
    generalize hrec1 : law07_table_L1 a0 mk1 = rec1 at F
    unfold law07_table_B1 at F
    refine CW.seq fun K5 hK5 => ?_
    refine CW.seq fun K6 hK6 => ?_
    refine CW.region ?_
    refine LW.pure rfl rfl (RV.move rfl) ?_
    refine LW.pure rfl rfl (RV.move rfl) ?_
    refine LW.pure rfl rfl (RV.len Ts23 rfl) ?_
    refine LW.pure rfl rfl (RV.lss rfl rfl) ?_
    refine LW.nil (hK6 _ _ ?_)
    by_cases hp1 : t3_1 < ((a0.length : Int))
    ·
      replace F := ite_y hp1 F
      have hq1 := dec_t hp1
      refine CW.condT rfl hq1 ?_
      refine CW.skip (hK5 _ _ ?_)
      refine CW.seq fun K7 hK7 => ?_
      refine CW.block ?_
      refine CW.seq fun K8 hK8 => ?_
      obtain ⟨x1, hbx1, hx1, F⟩ := ix_some F
      refine CW.region ?_
      refine LW.pure rfl rfl (RV.move rfl) ?_
      refine LW.pure rfl rfl (RV.move rfl) ?_
      obtain ⟨A1, c1, hC1, hS1⟩ := h_a0.at_ hx1
      refine LW.pure rfl rfl (RV.indexAddr Ts23 rfl rfl hbx1 (h_a0.addr hbx1)) ?_
      refine LW.pure rfl rfl (RV.load1 Tk22 rfl (hC1.ext R0) rfl) ?_
      refine LW.pure rfl rfl (RV.len Ts22 rfl) ?_
      refine LW.pure rfl rfl (RV.gtr rfl rfl) ?_
      refine LW.nil (hK8 _ _ ?_)
      by_cases hp2 : (50 : Int) < ((x1.length : Int))
      ·
        replace F := ite_y hp2 F
        have hq2 := dec_t hp2
        refine CW.condT rfl hq2 ?_
        refine CW.seq fun K9 hK9 => ?_
        refine CW.region ?_
        refine LW.pure rfl rfl (RV.assign rfl) ?_
        refine LW.nil (hK9 _ _ ?_)
        refine CW.ret ?_
        obtain rfl := Option.some.inj F
        refine ⟨_, (ResOK.one rfl), ?_⟩
        refine ⟨(by first | rfl | simp), R0⟩
      ·
        replace F := ite_n hp2 F
        have hq2 := dec_f hp2
        refine CW.condF rfl hq2 ?_
        refine CW.skip (hK7 _ _ ?_)
        obtain ⟨hg1, F⟩ := gd_some F
        refine CW.region ?_
        refine LW.pure rfl rfl (RV.move rfl) ?_
        refine LW.pure rfl rfl (RV.add rfl rfl hg1) ?_
        refine LW.pure rfl rfl (RV.assign rfl) ?_
        refine LW.nil ?_
        subst hrec1
        refine ⟨mk1, Nat.lt_succ_self _, _, ?_, (t3_1 + 1), F, rfl, H⟩
        exact ⟨rfl, rfl, rfl, trivial⟩
    ·
      replace F := ite_n hp1 F
      have hq1 := dec_f hp1
      refine CW.condF rfl hq1 ?_
      refine CW.exit (jK54 _ _ ⟨_, ?_, ⟨F, rfl, H⟩⟩)
      exact ⟨rfl, rfl, trivial⟩
set_option maxRecDepth 20000 in
set_option maxHeartbeats 1000000 in
theorem law07_Long_ok {a0 : Trade} {a1 : List (List (List Int))} {A_a0_supply : Option Addr} {c_a0_supply : Nat} {A_a0_demand : Option Addr} {c_a0_demand : Nat} {A_a0_cost : Option Addr} {c_a0_cost : Nat} {A_a1 : Option Addr} {c_a1 : Nat} {w : World} {res : Bool} (h_a0_supply : Sl w A_a0_supply c_a0_supply 1 (a0.supply.map encN)) (h_a0_demand : Sl w A_a0_demand c_a0_demand 1 (a0.demand.map encN)) (h_a0_cost : Sl2 w A_a0_cost c_a0_cost 1 encN a0.cost) (h_a1 : Sl3 w A_a1 c_a1 1 encN a1) (F : law07_Long a0 a1 = some res) : Calls Try.prog 17 #[.agg #[.slice A_a0_supply a0.supply.length c_a0_supply, .slice A_a0_demand a0.demand.length c_a0_demand, .slice A_a0_cost a0.cost.length c_a0_cost], .slice A_a1 a1.length c_a1] w (Rt w (.bool res)) := by
  refine calls_of_cw (args := [.agg #[.slice A_a0_supply a0.supply.length c_a0_supply, .slice A_a0_demand a0.demand.length c_a0_demand, .slice A_a0_cost a0.cost.length c_a0_cost], .slice A_a1 a1.length c_a1]) Try.func17 rfl rfl rfl rfl ?_
  have H := Hp.start w
  have R0 := H.ext
  unfold law07_Long at F
  refine CW.seq fun K1 hK1 => ?_
  refine CW.region ?_
  refine LW.go rfl rfl (OW.box rfl fun b1 w1 N1 => ?_)
  replace H := H.new N1 N1.blk
  replace R0 := H.ext
  refine LW.pure rfl rfl (RV.assign rfl) ?_
  refine LW.nil (hK1 _ _ ?_)
  refine CW.seqJ (fun ρ wl1 => (law07_Long_k1 a0 = some res ∧ ρ = [(2, .pointer (some (⟨b1, 0, none⟩))), (4, .bool false)] ∧ Hp w wl1 [.blk b1 25 [.slice A_a0_supply a0.supply.length c_a0_supply, .slice A_a0_demand a0.demand.length c_a0_demand, .slice A_a0_cost a0.cost.length c_a0_cost]])) ?_ ?_
  ·
    rintro _ wl1 ⟨F, rfl, H⟩
    have R0 := H.ext
    unfold law07_Long_k1 at F
    refine CW.seq fun K2 hK2 => ?_
    by_cases hp1 : (50 : Int) < ((a0.supply.length : Int))
    ·
      replace F := ite_y hp1 F
      have hq1 := dec_t hp1
      refine CW.region ?_
      refine LW.pure rfl rfl (RV.fieldAddr Tf25_0 rfl) ?_
      refine LW.pure rfl rfl (RV.load1 Tk22 rfl ((H.blk 0 rfl).cells.off 0) rfl) ?_
      refine LW.pure rfl rfl (RV.len Ts22 rfl) ?_
      refine LW.pure rfl rfl (RV.gtr rfl rfl) ?_
      refine LW.pure rfl rfl (RV.move rfl) ?_
      refine LW.noB rfl rfl rfl rfl (ne_beq (v := true) hq1 rfl) ?_
      refine LW.noB rfl rfl rfl rfl (ne_beq (v := true) hq1 rfl) ?_
      refine LW.noB rfl rfl rfl rfl (ne_beq (v := true) hq1 rfl) ?_
      refine LW.noB rfl rfl rfl rfl (ne_beq (v := true) hq1 rfl) ?_
      refine LW.pure rfl rfl (RV.pickTB rfl hq1 rfl) ?_
      refine LW.pure rfl rfl (RV.move rfl) ?_
      refine LW.noB rfl rfl rfl rfl (ne_beq (v := true) rfl rfl) ?_
      refine LW.noB rfl rfl rfl rfl (ne_beq (v := true) rfl rfl) ?_
      refine LW.noB rfl rfl rfl rfl (ne_beq (v := true) rfl rfl) ?_
      refine LW.pure rfl rfl (RV.pickTB rfl rfl rfl) ?_
      refine LW.pure rfl rfl (RV.assign rfl) ?_
      refine LW.nil (hK2 _ _ ?_)
      refine CW.ret ?_
      obtain rfl := Option.some.inj F
      refine ⟨_, (ResOK.one rfl), ?_⟩
      refine ⟨(by first | rfl | simp), R0⟩
    ·
      replace F := ite_n hp1 F
      have hq1 := dec_f hp1
      by_cases hp2 : (50 : Int) < ((a0.demand.length : Int))
      ·
        replace F := ite_y hp2 F
        have hq2 := dec_t hp2
        refine CW.region ?_
        refine LW.pure rfl rfl (RV.fieldAddr Tf25_0 rfl) ?_
        refine LW.pure rfl rfl (RV.load1 Tk22 rfl ((H.blk 0 rfl).cells.off 0) rfl) ?_
        refine LW.pure rfl rfl (RV.len Ts22 rfl) ?_
        refine LW.pure rfl rfl (RV.gtr rfl rfl) ?_
        refine LW.pure rfl rfl (RV.move rfl) ?_
        refine LW.pureYB rfl rfl rfl rfl hq1 (RV.fieldAddr Tf25_1 rfl) ?_
        refine LW.pureYB rfl rfl rfl rfl hq1 (RV.load1 Tk22 rfl ((H.blk 0 rfl).cells.off 1) rfl) ?_
        refine LW.pureYB rfl rfl rfl rfl hq1 (RV.len Ts22 rfl) ?_
        refine LW.pureYB rfl rfl rfl rfl hq1 (RV.gtr rfl rfl) ?_
        refine LW.pure rfl rfl (RV.pickFB rfl hq1 rfl) ?_
        refine LW.pure rfl rfl (RV.move rfl) ?_
        refine LW.noB rfl rfl rfl rfl (ne_beq (v := true) hq2 rfl) ?_
        refine LW.noB rfl rfl rfl rfl (ne_beq (v := true) hq2 rfl) ?_
        refine LW.noB rfl rfl rfl rfl (ne_beq (v := true) hq2 rfl) ?_
        refine LW.pure rfl rfl (RV.pickTB rfl hq2 rfl) ?_
        refine LW.pure rfl rfl (RV.assign rfl) ?_
        refine LW.nil (hK2 _ _ ?_)
        refine CW.ret ?_
        obtain rfl := Option.some.inj F
        refine ⟨_, (ResOK.one rfl), ?_⟩
        refine ⟨(by first | rfl | simp), R0⟩
      ·
        replace F := ite_n hp2 F
        have hq2 := dec_f hp2
        obtain ⟨r1, hr1, F⟩ := bnd_some F
        refine CW.region ?_
        refine LW.pure rfl rfl (RV.fieldAddr Tf25_0 rfl) ?_
        refine LW.pure rfl rfl (RV.load1 Tk22 rfl ((H.blk 0 rfl).cells.off 0) rfl) ?_
        refine LW.pure rfl rfl (RV.len Ts22 rfl) ?_
        refine LW.pure rfl rfl (RV.gtr rfl rfl) ?_
        refine LW.pure rfl rfl (RV.move rfl) ?_
        refine LW.pureYB rfl rfl rfl rfl hq1 (RV.fieldAddr Tf25_1 rfl) ?_
        refine LW.pureYB rfl rfl rfl rfl hq1 (RV.load1 Tk22 rfl ((H.blk 0 rfl).cells.off 1) rfl) ?_
        refine LW.pureYB rfl rfl rfl rfl hq1 (RV.len Ts22 rfl) ?_
        refine LW.pureYB rfl rfl rfl rfl hq1 (RV.gtr rfl rfl) ?_
        refine LW.pure rfl rfl (RV.pickFB rfl hq1 rfl) ?_
        refine LW.pure rfl rfl (RV.move rfl) ?_
        refine LW.pureYB rfl rfl rfl rfl hq2 (RV.fieldAddr Tf25_2 rfl) ?_
        refine LW.pureYB rfl rfl rfl rfl hq2 (RV.load1 Tk23 rfl ((H.blk 0 rfl).cells.off 2) rfl) ?_
        refine LW.yesB rfl rfl rfl rfl hq2 (OW.call Tc54 rfl (law07_table_ok (a0 := a0.cost) (h_a0_cost.ext R0) hr1) ?_)
        rintro _ w2 ⟨rfl, E1⟩
        refine ⟨_, rfl, ?_⟩
        replace H := H.grow E1
        replace R0 := H.ext
        refine LW.pure rfl rfl (RV.pickFB rfl hq2 rfl) ?_
        refine LW.pure rfl rfl (RV.assign rfl) ?_
        refine LW.nil (hK2 _ _ ?_)
        refine CW.ret ?_
        obtain rfl := Option.some.inj F
        refine ⟨_, (ResOK.one rfl), ?_⟩
        refine ⟨(by first | rfl | simp), R0⟩
  ·
    intro K3 hK3 jK54
    refine CW.seq fun K4 hK4 => ?_
    refine CW.region ?_
    refine LW.pure rfl rfl (RV.assign rfl) ?_
    refine LW.nil (hK4 _ _ ?_)
    refine CW.block ?_
    refine CW.loop (fun meas ρ wl2 => ∃ (t5_1 : Int), law07_Long_L1 a0 a1 meas t5_1 = some res ∧ ρ = [(1, .slice A_a1 a1.length c_a1), (2, .pointer (some (⟨b1, 0, none⟩))), (4, .bool false), (5, .int .i64 t5_1)] ∧ Hp w wl2 [.blk b1 25 [.slice A_a0_supply a0.supply.length c_a0_supply, .slice A_a0_demand a0.demand.length c_a0_demand, .slice A_a0_cost a0.cost.length c_a0_cost]]) FU ⟨_, ?_, ((0 : Int)), F, rfl, H⟩ ?_
    · exact ⟨rfl, rfl, rfl, rfl, trivial⟩
    rintro mk1 _ wl2 ⟨t5_1, F, rfl, H⟩
    have R0 := H.ext
    replace F := law07_Long_L1_s F
    obtain ⟨mk1, rfl, F⟩ := F
    generalize hrec1 : law07_Long_L1 a0 a1 mk1 = rec1 at F
    unfold law07_Long_B1 at F
    refine CW.seq fun K5 hK5 => ?_
    refine CW.seq fun K6 hK6 => ?_
    refine CW.region ?_
    refine LW.pure rfl rfl (RV.move rfl) ?_
    refine LW.pure rfl rfl (RV.move rfl) ?_
    refine LW.pure rfl rfl (RV.len Ts63 rfl) ?_
    refine LW.pure rfl rfl (RV.lss rfl rfl) ?_
    refine LW.nil (hK6 _ _ ?_)
    by_cases hp3 : t5_1 < ((a1.length : Int))
    ·
      replace F := ite_y hp3 F
      have hq3 := dec_t hp3
      refine CW.condT rfl hq3 ?_
      refine CW.skip (hK5 _ _ ?_)
      refine CW.seq fun K7 hK7 => ?_
      refine CW.block ?_
      refine CW.seq fun K8 hK8 => ?_
      obtain ⟨x1, hbx1, hx1, F⟩ := ix_some F
      obtain ⟨r2, hr2, F⟩ := bnd_some F
      refine CW.region ?_
      refine LW.pure rfl rfl (RV.move rfl) ?_
      refine LW.pure rfl rfl (RV.move rfl) ?_
      obtain ⟨A1, c1, hC1, hS1⟩ := h_a1.at_ hx1
      refine LW.pure rfl rfl (RV.indexAddr Ts63 rfl rfl hbx1 (h_a1.addr hbx1)) ?_
      refine LW.pure rfl rfl (RV.load1 Tk23 rfl (hC1.ext R0) rfl) ?_
      refine LW.go rfl rfl (OW.call Tc54 rfl (law07_table_ok (a0 := x1) (hS1.ext R0) hr2) ?_)
      rintro _ w3 ⟨rfl, E2⟩
      refine ⟨_, rfl, ?_⟩
      replace H := H.grow E2
      replace R0 := H.ext
      refine LW.nil (hK8 _ _ ?_)
      by_cases hp4 : r2 = true
      ·
        replace F := ite_y hp4 F
        have hq4 : r2 = true := hp4
        refine CW.condT rfl hq4 ?_
        refine CW.seq fun K9 hK9 => ?_
        refine CW.region ?_
        refine LW.pure rfl rfl (RV.assign rfl) ?_
        refine LW.nil (hK9 _ _ ?_)
        refine CW.ret ?_
        obtain rfl := Option.some.inj F
        refine ⟨_, (ResOK.one rfl), ?_⟩
        refine ⟨(by first | rfl | simp), R0⟩
      ·
        replace F := ite_n hp4 F
        have hq4 : r2 = false := raw_f hp4
        refine CW.condF rfl hq4 ?_
        refine CW.skip (hK7 _ _ ?_)
        obtain ⟨hg1, F⟩ := gd_some F
        refine CW.region ?_
        refine LW.pure rfl rfl (RV.move rfl) ?_
        refine LW.pure rfl rfl (RV.add rfl rfl hg1) ?_
        refine LW.pure rfl rfl (RV.assign rfl) ?_
        refine LW.nil ?_
        subst hrec1
        refine ⟨mk1, Nat.lt_succ_self _, _, ?_, (t5_1 + 1), F, rfl, H⟩
        exact ⟨rfl, rfl, rfl, rfl, trivial⟩
    ·
      replace F := ite_n hp3 F
      have hq3 := dec_f hp3
      refine CW.condF rfl hq3 ?_
      refine CW.exit (jK54 _ _ ⟨_, ?_, ⟨F, rfl, H⟩⟩)
      exact ⟨rfl, rfl, trivial⟩
set_option maxRecDepth 20000 in
set_option maxHeartbeats 1000000 in
theorem bulk_within_ok {a0 : Int} {a1 : Int} {a2 : Int} {w : World} {res : Bool} (F : bulk_within a0 a1 a2 = some res) : Calls Try.prog 64 #[.int .i64 a0, .int .i64 a1, .int .i64 a2] w (Rt w (.bool res)) := by
  refine calls_of_cw (args := [.int .i64 a0, .int .i64 a1, .int .i64 a2]) Try.func64 rfl rfl rfl rfl ?_
  have H := Hp.start w
  have R0 := H.ext
  unfold bulk_within at F
  refine CW.seq fun K1 hK1 => ?_
  refine CW.region ?_
  refine LW.pure rfl rfl (RV.assign rfl) ?_
  refine LW.nil (hK1 _ _ ?_)
  refine CW.seq fun K2 hK2 => ?_
  by_cases hp1 : a1 ≤ a0
  ·
    replace F := ite_y hp1 F
    have hq1 := dec_t hp1
    refine CW.region ?_
    refine LW.pure rfl rfl (RV.move rfl) ?_
    refine LW.pure rfl rfl (RV.move rfl) ?_
    refine LW.pure rfl rfl (RV.geq rfl rfl) ?_
    refine LW.pure rfl rfl (RV.move rfl) ?_
    refine LW.pureYB rfl rfl rfl rfl hq1 (RV.move rfl) ?_
    refine LW.pureYB rfl rfl rfl rfl hq1 (RV.move rfl) ?_
    refine LW.pureYB rfl rfl rfl rfl hq1 (RV.leq rfl rfl) ?_
    refine LW.pure rfl rfl (RV.pickTB rfl hq1 rfl) ?_
    refine LW.pure rfl rfl (RV.assign rfl) ?_
    refine LW.nil (hK2 _ _ ?_)
    refine CW.ret ?_
    obtain rfl := Option.some.inj F
    refine ⟨_, (ResOK.one rfl), ?_⟩
    refine ⟨(by first | rfl | simp), R0⟩
  ·
    replace F := ite_n hp1 F
    have hq1 := dec_f hp1
    refine CW.region ?_
    refine LW.pure rfl rfl (RV.move rfl) ?_
    refine LW.pure rfl rfl (RV.move rfl) ?_
    refine LW.pure rfl rfl (RV.geq rfl rfl) ?_
    refine LW.pure rfl rfl (RV.move rfl) ?_
    refine LW.noB rfl rfl rfl rfl (ne_beq (v := false) hq1 rfl) ?_
    refine LW.noB rfl rfl rfl rfl (ne_beq (v := false) hq1 rfl) ?_
    refine LW.noB rfl rfl rfl rfl (ne_beq (v := false) hq1 rfl) ?_
    refine LW.pure rfl rfl (RV.pickFB rfl hq1 rfl) ?_
    refine LW.pure rfl rfl (RV.assign rfl) ?_
    refine LW.nil (hK2 _ _ ?_)
    refine CW.ret ?_
    obtain rfl := Option.some.inj F
    refine ⟨_, (ResOK.one rfl), ?_⟩
    refine ⟨(by first | rfl | simp), R0⟩
set_option maxRecDepth 20000 in
set_option maxHeartbeats 1000000 in
theorem slices_IndexFunc_int_ok {a0 : List Int} {a1 : Int → Option Bool} {A_a0 : Option Addr} {c_a0 : Nat} {f_a1 : Nat} {p_a1 : Array Value} {q_a1 : Array Value} {w : World} {res : Int} (h_a0 : Sl w A_a0 c_a0 1 (a0.map encN)) (h_a1 : ∀ (x2 : Int) (r : Bool), a1 x2 = some r → ∀ w1, Ext w w1 → CallsV Try.prog f_a1 p_a1 q_a1 #[.int .i64 x2] w1 (Rt w1 (.bool r))) (F : slices_IndexFunc_int a0 a1 = some res) : Calls Try.prog 98 #[.slice A_a0 a0.length c_a0, .func (.func f_a1) p_a1 q_a1] w (Rt w (.int .i64 res)) := by
  refine calls_of_cw (args := [.slice A_a0 a0.length c_a0, .func (.func f_a1) p_a1 q_a1]) Try.func98 rfl rfl rfl rfl ?_
  have H := Hp.start w
  have R0 := H.ext
  unfold slices_IndexFunc_int at F
  refine CW.seq fun K1 hK1 => ?_
  refine CW.region ?_
  refine LW.pure rfl rfl (RV.assign rfl) ?_
  refine LW.nil (hK1 _ _ ?_)
  refine CW.seqJ (fun ρ wl1 => (slices_IndexFunc_int_k1 = some res ∧ ρ = [(4, .int .i64 0)] ∧ Hp w wl1 [])) ?_ ?_
  ·
    rintro _ wl1 ⟨F, rfl, H⟩
    have R0 := H.ext
    unfold slices_IndexFunc_int_k1 at F
    refine CW.seq fun K2 hK2 => ?_
    refine CW.region ?_
    refine LW.pure rfl rfl (RV.assign rfl) ?_
    refine LW.nil (hK2 _ _ ?_)
    refine CW.ret ?_
    obtain rfl := Option.some.inj F
    refine ⟨_, (ResOK.one rfl), ?_⟩
    refine ⟨(by first | rfl | simp), R0⟩
  ·
    intro K3 hK3 jK63
    refine CW.seq fun K4 hK4 => ?_
    refine CW.region ?_
    refine LW.pure rfl rfl (RV.move rfl) ?_
    refine LW.pure rfl rfl (RV.len Ts22 rfl) ?_
    refine LW.pure rfl rfl (RV.move rfl) ?_
    refine LW.nil (hK4 _ _ ?_)
    refine CW.block ?_
    refine CW.loop (fun meas ρ wl2 => ∃ (t8_1 : Int), slices_IndexFunc_int_L1 a0 a1 meas t8_1 = some res ∧ ρ = [(0, .slice A_a0 a0.length c_a0), (1, .func (.func f_a1) p_a1 q_a1), (4, .int .i64 0), (7, .int .i64 ((a0.length : Int))), (8, .int .i64 t8_1)] ∧ Hp w wl2 []) FU ⟨_, ?_, ((0 : Int)), F, rfl, H⟩ ?_
    · exact ⟨rfl, rfl, rfl, rfl, rfl, trivial⟩
    rintro mk1 _ wl2 ⟨t8_1, F, rfl, H⟩
    have R0 := H.ext
    replace F := slices_IndexFunc_int_L1_s F
    obtain ⟨mk1, rfl, F⟩ := F
    generalize hrec1 : slices_IndexFunc_int_L1 a0 a1 mk1 = rec1 at F
    unfold slices_IndexFunc_int_B1 at F
    refine CW.seq fun K5 hK5 => ?_
    refine CW.region ?_
    refine LW.pure rfl rfl (RV.lss rfl rfl) ?_
    refine LW.nil (hK5 _ _ ?_)
    refine CW.seq fun K6 hK6 => ?_
    by_cases hp1 : t8_1 < ((a0.length : Int))
    ·
      replace F := ite_y hp1 F
      have hq1 := dec_t hp1
      refine CW.condT rfl hq1 ?_
      refine CW.skip (hK6 _ _ ?_)
      refine CW.seq fun K7 hK7 => ?_
      refine CW.block ?_
      refine CW.seq fun K8 hK8 => ?_
      refine CW.region ?_
      refine LW.pure rfl rfl (RV.move rfl) ?_
      refine LW.pure rfl rfl (RV.assign rfl) ?_
      refine LW.nil (hK8 _ _ ?_)
      refine CW.seq fun K9 hK9 => ?_
      obtain ⟨x1, hbx1, hx1, F⟩ := ix_some F
      obtain ⟨r1, hr1, F⟩ := bnd_some F
      refine CW.region ?_
      refine LW.pure rfl rfl (RV.move rfl) ?_
      refine LW.pure rfl rfl (RV.move rfl) ?_
      refine LW.pure rfl rfl (RV.move rfl) ?_
      refine LW.pure rfl rfl (RV.indexAddr Ts22 rfl rfl hbx1 (h_a0.addr_ hx1)) ?_
      refine LW.pure rfl rfl (RV.load1 Tk3 rfl ((h_a0.at_ hx1).ext R0) rfl) ?_
      refine LW.go rfl rfl (OW.callV2 rfl rfl rfl (h_a1 _ _ hr1 _ R0) ?_)
      rintro _ w2 ⟨rfl, E1⟩
      refine ⟨_, rfl, ?_⟩
      replace H := H.grow E1
      replace R0 := H.ext
      refine LW.nil (hK9 _ _ ?_)
      by_cases hp2 : r1 = true
      ·
        replace F := ite_y hp2 F
        have hq2 : r1 = true := hp2
        refine CW.condT rfl hq2 ?_
        refine CW.seq fun K10 hK10 => ?_
        refine CW.region ?_
        refine LW.pure rfl rfl (RV.move rfl) ?_
        refine LW.pure rfl rfl (RV.assign rfl) ?_
        refine LW.nil (hK10 _ _ ?_)
        refine CW.ret ?_
        obtain rfl := Option.some.inj F
        refine ⟨_, (ResOK.one rfl), ?_⟩
        refine ⟨(by first | rfl | simp), R0⟩
      ·
        replace F := ite_n hp2 F
        have hq2 : r1 = false := raw_f hp2
        refine CW.condF rfl hq2 ?_
        refine CW.skip (hK7 _ _ ?_)
        obtain ⟨hg1, F⟩ := gd_some F
        refine CW.region ?_
        refine LW.pure rfl rfl (RV.add rfl rfl hg1) ?_
        refine LW.pure rfl rfl (RV.move rfl) ?_
        refine LW.nil ?_
        subst hrec1
        refine ⟨mk1, Nat.lt_succ_self _, _, ?_, (t8_1 + 1), F, rfl, H⟩
        exact ⟨rfl, rfl, rfl, rfl, rfl, trivial⟩
    ·
      replace F := ite_n hp1 F
      have hq1 := dec_f hp1
      refine CW.condF rfl hq1 ?_
      refine CW.exit (jK63 _ _ ⟨_, ?_, ⟨F, rfl, H⟩⟩)
      exact ⟨rfl, trivial⟩
set_option maxRecDepth 20000 in
set_option maxHeartbeats 1000000 in
theorem slices_ContainsFunc_int_ok {a0 : List Int} {a1 : Int → Option Bool} {A_a0 : Option Addr} {c_a0 : Nat} {f_a1 : Nat} {p_a1 : Array Value} {q_a1 : Array Value} {w : World} {res : Bool} (h_a0 : Sl w A_a0 c_a0 1 (a0.map encN)) (h_a1 : ∀ (x0 : Int) (r : Bool), a1 x0 = some r → ∀ w1, Ext w w1 → CallsV Try.prog f_a1 p_a1 q_a1 #[.int .i64 x0] w1 (Rt w1 (.bool r))) (F : slices_ContainsFunc_int a0 a1 = some res) : Calls Try.prog 86 #[.slice A_a0 a0.length c_a0, .func (.func f_a1) p_a1 q_a1] w (Rt w (.bool res)) := by
  refine calls_of_cw (args := [.slice A_a0 a0.length c_a0, .func (.func f_a1) p_a1 q_a1]) Try.func86 rfl rfl rfl rfl ?_
  have H := Hp.start w
  have R0 := H.ext
  unfold slices_ContainsFunc_int at F
  refine CW.seq fun K1 hK1 => ?_
  refine CW.region ?_
  refine LW.pure rfl rfl (RV.assign rfl) ?_
  refine LW.nil (hK1 _ _ ?_)
  refine CW.seq fun K2 hK2 => ?_
  obtain ⟨r1, hr1, F⟩ := bnd_some F
  refine CW.region ?_
  refine LW.pure rfl rfl (RV.move rfl) ?_
  refine LW.pure rfl rfl (RV.move rfl) ?_
  refine LW.go rfl rfl (OW.call Tc98 rfl (slices_IndexFunc_int_ok (a0 := a0) (a1 := a1) (h_a0.ext R0) (fun x0 r hF w1 hE => h_a1 x0 r hF w1 (R0.trans hE)) hr1) ?_)
  rintro _ w2 ⟨rfl, E1⟩
  refine ⟨_, rfl, ?_⟩
  replace H := H.grow E1
  replace R0 := H.ext
  refine LW.pure rfl rfl (RV.geq rfl rfl) ?_
  refine LW.pure rfl rfl (RV.assign rfl) ?_
  refine LW.nil (hK2 _ _ ?_)
  refine CW.ret ?_
  obtain rfl := Option.some.inj F
  refine ⟨_, (ResOK.one rfl), ?_⟩
  refine ⟨(by first | rfl | simp), R0⟩
set_option maxRecDepth 20000 in
set_option maxHeartbeats 1000000 in
theorem bulk_amounts_1_ok {a0 : Int} {w : World} {res : Bool} (F : bulk_amounts_1 a0 = some res) : Calls Try.prog 91 #[.int .i64 a0] w (Rt w (.bool res)) := by
  refine calls_of_cw (args := [.int .i64 a0]) Try.func91 rfl rfl rfl rfl ?_
  have H := Hp.start w
  have R0 := H.ext
  unfold bulk_amounts_1 at F
  refine CW.seq fun K1 hK1 => ?_
  refine CW.region ?_
  refine LW.pure rfl rfl (RV.assign rfl) ?_
  refine LW.nil (hK1 _ _ ?_)
  refine CW.seq fun K2 hK2 => ?_
  obtain ⟨r1, hr1, F⟩ := bnd_some F
  refine CW.region ?_
  refine LW.pure rfl rfl (RV.move rfl) ?_
  refine LW.go rfl rfl (OW.call Tc64 rfl (bulk_within_ok (a0 := a0) (a1 := (0 : Int)) (a2 := (30 : Int)) hr1) ?_)
  rintro _ w1 ⟨rfl, E1⟩
  refine ⟨_, rfl, ?_⟩
  replace H := H.grow E1
  replace R0 := H.ext
  refine LW.pure rfl rfl (RV.not rfl) ?_
  refine LW.pure rfl rfl (RV.assign rfl) ?_
  refine LW.nil (hK2 _ _ ?_)
  refine CW.ret ?_
  obtain rfl := Option.some.inj F
  refine ⟨_, (ResOK.one rfl), ?_⟩
  refine ⟨(by first | rfl | simp), R0⟩
set_option maxRecDepth 20000 in
set_option maxHeartbeats 1000000 in
theorem bulk_amounts_ok {a0 : List Int} {A_a0 : Option Addr} {c_a0 : Nat} {w : World} {res : Bool} (h_a0 : Sl w A_a0 c_a0 1 (a0.map encN)) (F : bulk_amounts a0 = some res) : Calls Try.prog 75 #[.slice A_a0 a0.length c_a0] w (Rt w (.bool res)) := by
  refine calls_of_cw (args := [.slice A_a0 a0.length c_a0]) Try.func75 rfl rfl rfl rfl ?_
  have H := Hp.start w
  have R0 := H.ext
  unfold bulk_amounts at F
  refine CW.seq fun K1 hK1 => ?_
  refine CW.region ?_
  refine LW.pure rfl rfl (RV.assign rfl) ?_
  refine LW.nil (hK1 _ _ ?_)
  refine CW.seq fun K2 hK2 => ?_
  obtain ⟨r1, hr1, F⟩ := bnd_some F
  by_cases hp1 : r1 = true
  ·
    replace F := ite_y hp1 F
    have hq1 : r1 = true := hp1
    obtain ⟨r2, hr2, F⟩ := bnd_some F
    refine CW.region ?_
    refine LW.pure rfl rfl (RV.move rfl) ?_
    refine LW.pure rfl rfl (RV.len Ts22 rfl) ?_
    refine LW.go rfl rfl (OW.call Tc64 rfl (bulk_within_ok (a0 := (a0.length : Int)) (a1 := (1 : Int)) (a2 := (4 : Int)) hr1) ?_)
    rintro _ w1 ⟨rfl, E1⟩
    refine ⟨_, rfl, ?_⟩
    replace H := H.grow E1
    replace R0 := H.ext
    refine LW.pure rfl rfl (RV.move rfl) ?_
    refine LW.pureYB rfl rfl rfl rfl hq1 (RV.move rfl) ?_
    refine LW.yesB rfl rfl rfl rfl hq1 (OW.call Tc86 rfl (slices_ContainsFunc_int_ok (a0 := a0) (a1 := bulk_amounts_1) (h_a0.ext R0) (fun x0 r hF w2 hE => CallsV.of Tc91 (bulk_amounts_1_ok (a0 := x0) hF)) hr2) ?_)
    rintro _ w3 ⟨rfl, E2⟩
    refine ⟨_, rfl, ?_⟩
    replace H := H.grow E2
    replace R0 := H.ext
    refine LW.pureYB rfl rfl rfl rfl hq1 (RV.not rfl) ?_
    refine LW.pure rfl rfl (RV.pickTB rfl hq1 rfl) ?_
    refine LW.pure rfl rfl (RV.assign rfl) ?_
    refine LW.nil (hK2 _ _ ?_)
    refine CW.ret ?_
    obtain rfl := Option.some.inj F
    refine ⟨_, (ResOK.one rfl), ?_⟩
    refine ⟨(by first | rfl | simp), R0⟩
  ·
    replace F := ite_n hp1 F
    have hq1 : r1 = false := raw_f hp1
    refine CW.region ?_
    refine LW.pure rfl rfl (RV.move rfl) ?_
    refine LW.pure rfl rfl (RV.len Ts22 rfl) ?_
    refine LW.go rfl rfl (OW.call Tc64 rfl (bulk_within_ok (a0 := (a0.length : Int)) (a1 := (1 : Int)) (a2 := (4 : Int)) hr1) ?_)
    rintro _ w4 ⟨rfl, E3⟩
    refine ⟨_, rfl, ?_⟩
    replace H := H.grow E3
    replace R0 := H.ext
    refine LW.pure rfl rfl (RV.move rfl) ?_
    refine LW.noB rfl rfl rfl rfl (ne_beq (v := false) hq1 rfl) ?_
    refine LW.noB rfl rfl rfl rfl (ne_beq (v := false) hq1 rfl) ?_
    refine LW.noB rfl rfl rfl rfl (ne_beq (v := false) hq1 rfl) ?_
    refine LW.pure rfl rfl (RV.pickFB rfl hq1 rfl) ?_
    refine LW.pure rfl rfl (RV.assign rfl) ?_
    refine LW.nil (hK2 _ _ ?_)
    refine CW.ret ?_
    obtain rfl := Option.some.inj F
    refine ⟨_, (ResOK.one rfl), ?_⟩
    refine ⟨(by first | rfl | simp), R0⟩
set_option maxRecDepth 20000 in
set_option maxHeartbeats 1000000 in
theorem bulk_total_ok {a0 : List Int} {A_a0 : Option Addr} {c_a0 : Nat} {w : World} {res : Int} (h_a0 : Sl w A_a0 c_a0 1 (a0.map encN)) (F : bulk_total a0 = some res) : Calls Try.prog 71 #[.slice A_a0 a0.length c_a0] w (Rt w (.int .i64 res)) := by
  refine calls_of_cw (args := [.slice A_a0 a0.length c_a0]) Try.func71 rfl rfl rfl rfl ?_
  have H := Hp.start w
  have R0 := H.ext
  unfold bulk_total at F
  refine CW.seq fun K1 hK1 => ?_
  refine CW.region ?_
  refine LW.pure rfl rfl (RV.assign rfl) ?_
  refine LW.nil (hK1 _ _ ?_)
  refine CW.seq fun K2 hK2 => ?_
  refine CW.region ?_
  refine LW.pure rfl rfl (RV.assign rfl) ?_
  refine LW.nil (hK2 _ _ ?_)
  refine CW.seqJ (fun ρ wl1 => (∃ (t3_1 : Int), bulk_total_k1 t3_1 = some res ∧ ρ = [(2, .int .i64 0), (3, .int .i64 t3_1)] ∧ Hp w wl1 [])) ?_ ?_
  ·
    rintro _ wl1 ⟨t3_1, F, rfl, H⟩
    have R0 := H.ext
    unfold bulk_total_k1 at F
    refine CW.seq fun K3 hK3 => ?_
    refine CW.region ?_
    refine LW.pure rfl rfl (RV.move rfl) ?_
    refine LW.pure rfl rfl (RV.assign rfl) ?_
    refine LW.nil (hK3 _ _ ?_)
    refine CW.ret ?_
    obtain rfl := Option.some.inj F
    refine ⟨_, (ResOK.one rfl), ?_⟩
    refine ⟨(by first | rfl | simp), R0⟩
  ·
    intro K4 hK4 jK47
    refine CW.seq fun K5 hK5 => ?_
    refine CW.region ?_
    refine LW.pure rfl rfl (RV.move rfl) ?_
    refine LW.pure rfl rfl (RV.len Ts22 rfl) ?_
    refine LW.pure rfl rfl (RV.move rfl) ?_
    refine LW.nil (hK5 _ _ ?_)
    refine CW.block ?_
    refine CW.loop (fun meas ρ wl2 => ∃ (t3_2 : Int) (t8_1 : Int), bulk_total_L1 a0 meas t3_2 t8_1 = some res ∧ ρ = [(2, .int .i64 0), (3, .int .i64 t3_2), (6, .slice A_a0 a0.length c_a0), (7, .int .i64 ((a0.length : Int))), (8, .int .i64 t8_1)] ∧ Hp w wl2 []) FU ⟨_, ?_, ((0 : Int)), ((0 : Int)), F, rfl, H⟩ ?_
    · exact ⟨rfl, rfl, rfl, rfl, rfl, trivial⟩
    rintro mk1 _ wl2 ⟨t3_2, t8_1, F, rfl, H⟩
    have R0 := H.ext
    replace F := bulk_total_L1_s F
    obtain ⟨mk1, rfl, F⟩ := F
    generalize hrec1 : bulk_total_L1 a0 mk1 = rec1 at F
    unfold bulk_total_B1 at F
    refine CW.seq fun K6 hK6 => ?_
    refine CW.region ?_
    refine LW.pure rfl rfl (RV.lss rfl rfl) ?_
    refine LW.nil (hK6 _ _ ?_)
    refine CW.seq fun K7 hK7 => ?_
    by_cases hp1 : t8_1 < ((a0.length : Int))
    ·
      replace F := ite_y hp1 F
      have hq1 := dec_t hp1
      refine CW.condT rfl hq1 ?_
      refine CW.skip (hK7 _ _ ?_)
      refine CW.seq fun K8 hK8 => ?_
      refine CW.block ?_
      refine CW.seq fun K9 hK9 => ?_
      obtain ⟨x1, hbx1, hx1, F⟩ := ix_some F
      refine CW.region ?_
      refine LW.pure rfl rfl (RV.indexAddr Ts22 rfl rfl hbx1 (h_a0.addr_ hx1)) ?_
      refine LW.pure rfl rfl (RV.load1 Tk3 rfl ((h_a0.at_ hx1).ext R0) rfl) ?_
      refine LW.pure rfl rfl (RV.assign rfl) ?_
      refine LW.nil (hK9 _ _ ?_)
      obtain ⟨hg1, F⟩ := gd_some F
      refine CW.region ?_
      refine LW.pure rfl rfl (RV.move rfl) ?_
      refine LW.pure rfl rfl (RV.move rfl) ?_
      refine LW.pure rfl rfl (RV.add rfl rfl hg1) ?_
      refine LW.pure rfl rfl (RV.assign rfl) ?_
      refine LW.nil (hK8 _ _ ?_)
      obtain ⟨hg2, F⟩ := gd_some F
      refine CW.region ?_
      refine LW.pure rfl rfl (RV.add rfl rfl hg2) ?_
      refine LW.pure rfl rfl (RV.move rfl) ?_
      refine LW.nil ?_
      subst hrec1
      refine ⟨mk1, Nat.lt_succ_self _, _, ?_, (t3_2 + x1), (t8_1 + 1), F, rfl, H⟩
      exact ⟨rfl, rfl, rfl, rfl, rfl, trivial⟩
    ·
      replace F := ite_n hp1 F
      have hq1 := dec_f hp1
      refine CW.condF rfl hq1 ?_
      refine CW.exit (jK47 _ _ ⟨_, ?_, ⟨t3_2, F, rfl, H⟩⟩)
      exact ⟨rfl, rfl, trivial⟩
set_option maxRecDepth 20000 in
set_option maxHeartbeats 1000000 in
theorem bulk_table_1_ok {cap0 : Int} {a0 : Int} {b_cap0 : Nat} {w : World} {res : Bool} (hc_cap0 : Cells w ⟨b_cap0, 0, none⟩ [.int .i64 cap0]) (F : bulk_table_1 cap0 a0 = some res) : Calls Try.prog 90 #[.int .i64 a0, .pointer (some (⟨b_cap0, 0, none⟩))] w (Rt w (.bool res)) := by
  refine calls_of_cw (args := [.int .i64 a0, .pointer (some (⟨b_cap0, 0, none⟩))]) Try.func90 rfl rfl rfl rfl ?_
  have H := Hp.start w
  have R0 := H.ext
  unfold bulk_table_1 at F
  refine CW.seq fun K1 hK1 => ?_
  refine CW.region ?_
  refine LW.pure rfl rfl (RV.assign rfl) ?_
  refine LW.nil (hK1 _ _ ?_)
  refine CW.seq fun K2 hK2 => ?_
  obtain ⟨r1, hr1, F⟩ := bnd_some F
  refine CW.region ?_
  refine LW.pure rfl rfl (RV.move rfl) ?_
  refine LW.pure rfl rfl (RV.load1 Tk3 rfl (hc_cap0.ext R0) rfl) ?_
  refine LW.go rfl rfl (OW.call Tc64 rfl (bulk_within_ok (a0 := a0) (a1 := (0 : Int)) (a2 := cap0) hr1) ?_)
  rintro _ w1 ⟨rfl, E1⟩
  refine ⟨_, rfl, ?_⟩
  replace H := H.grow E1
  replace R0 := H.ext
  refine LW.pure rfl rfl (RV.not rfl) ?_
  refine LW.pure rfl rfl (RV.assign rfl) ?_
  refine LW.nil (hK2 _ _ ?_)
  refine CW.ret ?_
  obtain rfl := Option.some.inj F
  refine ⟨_, (ResOK.one rfl), ?_⟩
  refine ⟨(by first | rfl | simp), R0⟩
set_option maxRecDepth 20000 in
set_option maxHeartbeats 1000000 in
theorem bulk_table_ok {a0 : Trade} {a1 : List (List Int)} {a2 : Int} {A_a0_supply : Option Addr} {c_a0_supply : Nat} {A_a0_demand : Option Addr} {c_a0_demand : Nat} {A_a0_cost : Option Addr} {c_a0_cost : Nat} {A_a1 : Option Addr} {c_a1 : Nat} {w : World} {res : Bool} (h_a0_supply : Sl w A_a0_supply c_a0_supply 1 (a0.supply.map encN)) (h_a0_demand : Sl w A_a0_demand c_a0_demand 1 (a0.demand.map encN)) (h_a0_cost : Sl2 w A_a0_cost c_a0_cost 1 encN a0.cost) (h_a1 : Sl2 w A_a1 c_a1 1 encN a1) (F : bulk_table a0 a1 a2 = some res) : Calls Try.prog 70 #[.agg #[.slice A_a0_supply a0.supply.length c_a0_supply, .slice A_a0_demand a0.demand.length c_a0_demand, .slice A_a0_cost a0.cost.length c_a0_cost], .slice A_a1 a1.length c_a1, .int .i64 a2] w (Rt w (.bool res)) := by
  refine calls_of_cw (args := [.agg #[.slice A_a0_supply a0.supply.length c_a0_supply, .slice A_a0_demand a0.demand.length c_a0_demand, .slice A_a0_cost a0.cost.length c_a0_cost], .slice A_a1 a1.length c_a1, .int .i64 a2]) Try.func70 rfl rfl rfl rfl ?_
  have H := Hp.start w
  have R0 := H.ext
  unfold bulk_table at F
  refine CW.seq fun K1 hK1 => ?_
  refine CW.region ?_
  refine LW.go rfl rfl (OW.box rfl fun b1 w1 N1 => ?_)
  replace H := H.new N1 N1.blk
  replace R0 := H.ext
  refine LW.go rfl rfl (OW.box rfl fun b2 w2 N2 => ?_)
  replace H := H.new N2 N2.blk
  replace R0 := H.ext
  refine LW.pure rfl rfl (RV.assign rfl) ?_
  refine LW.nil (hK1 _ _ ?_)
  refine CW.seq fun K2 hK2 => ?_
  refine CW.seq fun K3 hK3 => ?_
  refine CW.region ?_
  refine LW.pure rfl rfl (RV.move rfl) ?_
  refine LW.pure rfl rfl (RV.len Ts23 rfl) ?_
  refine LW.pure rfl rfl (RV.fieldAddr Tf25_0 rfl) ?_
  refine LW.pure rfl rfl (RV.load1 Tk22 rfl ((H.blk 1 rfl).cells.off 0) rfl) ?_
  refine LW.pure rfl rfl (RV.len Ts22 rfl) ?_
  refine LW.pure rfl rfl (RV.nei rfl rfl) ?_
  refine LW.nil (hK3 _ _ ?_)
  by_cases hp1 : ((a1.length : Int)) = ((a0.supply.length : Int))
  ·
    replace F := ite_y hp1 F
    have hq1 := dec_t hp1
    refine CW.condF rfl (not_f hq1) ?_
    refine CW.skip (hK2 _ _ ?_)
    refine CW.seqJ (fun ρ wl1 => (bulk_table_k1 = some res ∧ ρ = [(6, .bool false)] ∧ Hp w wl1 [])) ?_ ?_
    ·
      rintro _ wl1 ⟨F, rfl, H⟩
      have R0 := H.ext
      unfold bulk_table_k1 at F
      refine CW.seq fun K4 hK4 => ?_
      refine CW.region ?_
      refine LW.pure rfl rfl (RV.assign rfl) ?_
      refine LW.nil (hK4 _ _ ?_)
      refine CW.ret ?_
      obtain rfl := Option.some.inj F
      refine ⟨_, (ResOK.one rfl), ?_⟩
      refine ⟨(by first | rfl | simp), R0⟩
    ·
      intro K5 hK5 jK68
      refine CW.seq fun K6 hK6 => ?_
      refine CW.region ?_
      refine LW.pure rfl rfl (RV.move rfl) ?_
      refine LW.pure rfl rfl (RV.len Ts23 rfl) ?_
      refine LW.pure rfl rfl (RV.move rfl) ?_
      refine LW.nil (hK6 _ _ ?_)
      refine CW.block ?_
      replace H := H.pick (L' := [.blk b1 25 [.slice A_a0_supply a0.supply.length c_a0_supply, .slice A_a0_demand a0.demand.length c_a0_demand, .slice A_a0_cost a0.cost.length c_a0_cost], .blk b2 3 [.int .i64 a2]]) [1, 0] (by decide) rfl
      replace R0 := H.ext
      refine CW.loop (fun meas ρ wl2 => ∃ (t17_1 : Int), bulk_table_L1 a0 a1 a2 meas t17_1 = some res ∧ ρ = [(3, .pointer (some (⟨b1, 0, none⟩))), (5, .pointer (some (⟨b2, 0, none⟩))), (6, .bool false), (15, .slice A_a1 a1.length c_a1), (16, .int .i64 ((a1.length : Int))), (17, .int .i64 t17_1)] ∧ Hp w wl2 [.blk b1 25 [.slice A_a0_supply a0.supply.length c_a0_supply, .slice A_a0_demand a0.demand.length c_a0_demand, .slice A_a0_cost a0.cost.length c_a0_cost], .blk b2 3 [.int .i64 a2]]) FU ⟨_, ?_, ((0 : Int)), F, rfl, H⟩ ?_
      · exact ⟨rfl, rfl, rfl, rfl, rfl, rfl, trivial⟩
      rintro mk1 _ wl2 ⟨t17_1, F, rfl, H⟩
      have R0 := H.ext
      replace F := bulk_table_L1_s F
      obtain ⟨mk1, rfl, F⟩ := F
      generalize hrec1 : bulk_table_L1 a0 a1 a2 mk1 = rec1 at F
      unfold bulk_table_B1 at F
      refine CW.seq fun K7 hK7 => ?_
      refine CW.region ?_
      refine LW.pure rfl rfl (RV.lss rfl rfl) ?_
      refine LW.nil (hK7 _ _ ?_)
      refine CW.seq fun K8 hK8 => ?_
      by_cases hp2 : t17_1 < ((a1.length : Int))
      ·
        replace F := ite_y hp2 F
        have hq2 := dec_t hp2
        refine CW.condT rfl hq2 ?_
        refine CW.skip (hK8 _ _ ?_)
        refine CW.seq fun K9 hK9 => ?_
        refine CW.block ?_
        refine CW.seq fun K10 hK10 => ?_
        obtain ⟨x1, hbx1, hx1, F⟩ := ix_some F
        refine CW.region ?_
        obtain ⟨A1, c1, hC1, hS1⟩ := h_a1.at_ hx1
        refine LW.pure rfl rfl (RV.indexAddr Ts23 rfl rfl hbx1 (h_a1.addr hbx1)) ?_
        refine LW.pure rfl rfl (RV.load1 Tk22 rfl (hC1.ext R0) rfl) ?_
        refine LW.pure rfl rfl (RV.assign rfl) ?_
        refine LW.nil (hK10 _ _ ?_)
        refine CW.seqJ (fun ρ wl3 => (∃ (t31_1 : Bool), bulk_table_k2 t17_1 rec1 t31_1 = some res ∧ ρ = [(3, .pointer (some (⟨b1, 0, none⟩))), (5, .pointer (some (⟨b2, 0, none⟩))), (6, .bool false), (15, .slice A_a1 a1.length c_a1), (16, .int .i64 ((a1.length : Int))), (17, .int .i64 t17_1), (31, .bool t31_1)] ∧ Hp w wl3 [.blk b1 25 [.slice A_a0_supply a0.supply.length c_a0_supply, .slice A_a0_demand a0.demand.length c_a0_demand, .slice A_a0_cost a0.cost.length c_a0_cost], .blk b2 3 [.int .i64 a2]])) ?_ ?_
        ·
          rintro _ wl3 ⟨t31_1, F, rfl, H⟩
          have R0 := H.ext
          unfold bulk_table_k2 at F
          by_cases hp3 : t31_1 = true
          ·
            replace F := ite_y hp3 F
            have hq3 : t31_1 = true := hp3
            refine CW.condT rfl hq3 ?_
            refine CW.seq fun K11 hK11 => ?_
            refine CW.region ?_
            refine LW.pure rfl rfl (RV.assign rfl) ?_
            refine LW.nil (hK11 _ _ ?_)
            refine CW.ret ?_
            obtain rfl := Option.some.inj F
            refine ⟨_, (ResOK.one rfl), ?_⟩
            refine ⟨(by first | rfl | simp), R0⟩
          ·
            replace F := ite_n hp3 F
            have hq3 : t31_1 = false := raw_f hp3
            refine CW.condF rfl hq3 ?_
            refine CW.skip (hK9 _ _ ?_)
            obtain ⟨hg1, F⟩ := gd_some F
            refine CW.region ?_
            refine LW.pure rfl rfl (RV.add rfl rfl hg1) ?_
            refine LW.pure rfl rfl (RV.move rfl) ?_
            refine LW.nil ?_
            subst hrec1
            refine ⟨mk1, Nat.lt_succ_self _, _, ?_, (t17_1 + 1), F, rfl, H⟩
            exact ⟨rfl, rfl, rfl, rfl, rfl, rfl, trivial⟩
        ·
          intro K12 hK12 jK87
          by_cases hp4 : ((x1.length : Int)) = ((a0.demand.length : Int))
          ·
            replace F := ite_y hp4 F
            have hq4 := dec_t hp4
            obtain ⟨r1, hr1, F⟩ := bnd_some F
            refine CW.region ?_
            refine LW.pure rfl rfl (RV.move rfl) ?_
            refine LW.pure rfl rfl (RV.len Ts22 rfl) ?_
            refine LW.pure rfl rfl (RV.fieldAddr Tf25_1 rfl) ?_
            refine LW.pure rfl rfl (RV.load1 Tk22 rfl ((H.blk 0 rfl).cells.off 1) rfl) ?_
            refine LW.pure rfl rfl (RV.len Ts22 rfl) ?_
            refine LW.pure rfl rfl (RV.nei rfl rfl) ?_
            refine LW.pure rfl rfl (RV.move rfl) ?_
            refine LW.pureYB rfl rfl rfl rfl (not_f hq4) (RV.move rfl) ?_
            refine LW.pureYB rfl rfl rfl rfl (not_f hq4) (RV.makeFunc (fs := []) (cs := [.pointer (some (⟨b2, 0, none⟩))]) rfl rfl) ?_
            refine LW.yesB rfl rfl rfl rfl (not_f hq4) (OW.call Tc86 rfl (slices_ContainsFunc_int_ok (a0 := x1) (a1 := (fun x2 => bulk_table_1 a2 x2)) (hS1.ext R0) (fun x2 r hF w3 hE => CallsV.cap Tc90 (by simp) (bulk_table_1_ok (cap0 := a2) (a0 := x2) ((H.blk 1 rfl).cells.ext hE) hF)) hr1) ?_)
            rintro _ w4 ⟨rfl, E1⟩
            refine ⟨_, rfl, ?_⟩
            replace H := H.grow E1
            replace R0 := H.ext
            refine LW.pure rfl rfl (RV.pickFB rfl (not_f hq4) rfl) ?_
            refine LW.nil (jK87 _ _ ⟨_, ?_, ⟨r1, F, rfl, H⟩⟩)
            exact ⟨rfl, rfl, rfl, rfl, rfl, rfl, rfl, trivial⟩
          ·
            replace F := ite_n hp4 F
            have hq4 := dec_f hp4
            refine CW.region ?_
            refine LW.pure rfl rfl (RV.move rfl) ?_
            refine LW.pure rfl rfl (RV.len Ts22 rfl) ?_
            refine LW.pure rfl rfl (RV.fieldAddr Tf25_1 rfl) ?_
            refine LW.pure rfl rfl (RV.load1 Tk22 rfl ((H.blk 0 rfl).cells.off 1) rfl) ?_
            refine LW.pure rfl rfl (RV.len Ts22 rfl) ?_
            refine LW.pure rfl rfl (RV.nei rfl rfl) ?_
            refine LW.pure rfl rfl (RV.move rfl) ?_
            refine LW.noB rfl rfl rfl rfl (ne_beq (v := true) (not_t hq4) rfl) ?_
            refine LW.noB rfl rfl rfl rfl (ne_beq (v := true) (not_t hq4) rfl) ?_
            refine LW.noB rfl rfl rfl rfl (ne_beq (v := true) (not_t hq4) rfl) ?_
            refine LW.pure rfl rfl (RV.pickTB rfl (not_t hq4) rfl) ?_
            refine LW.nil (jK87 _ _ ⟨_, ?_, ⟨true, F, rfl, H⟩⟩)
            exact ⟨rfl, rfl, rfl, rfl, rfl, rfl, rfl, trivial⟩
      ·
        replace F := ite_n hp2 F
        have hq2 := dec_f hp2
        refine CW.condF rfl hq2 ?_
        replace H := H.pick (L' := []) [] (by decide) rfl
        replace R0 := H.ext
        refine CW.exit (jK68 _ _ ⟨_, ?_, ⟨F, rfl, H⟩⟩)
        exact ⟨rfl, trivial⟩
  ·
    replace F := ite_n hp1 F
    have hq1 := dec_f hp1
    refine CW.condT rfl (not_t hq1) ?_
    refine CW.seq fun K13 hK13 => ?_
    refine CW.region ?_
    refine LW.pure rfl rfl (RV.assign rfl) ?_
    refine LW.nil (hK13 _ _ ?_)
    refine CW.ret ?_
    obtain rfl := Option.some.inj F
    refine ⟨_, (ResOK.one rfl), ?_⟩
    refine ⟨(by first | rfl | simp), R0⟩
set_option maxRecDepth 20000 in
set_option maxHeartbeats 1000000 in
theorem bulk_Validate_ok {a0 : Trade} {A_a0_supply : Option Addr} {c_a0_supply : Nat} {A_a0_demand : Option Addr} {c_a0_demand : Nat} {A_a0_cost : Option Addr} {c_a0_cost : Nat} {w : World} {res : Int} (h_a0_supply : Sl w A_a0_supply c_a0_supply 1 (a0.supply.map encN)) (h_a0_demand : Sl w A_a0_demand c_a0_demand 1 (a0.demand.map encN)) (h_a0_cost : Sl2 w A_a0_cost c_a0_cost 1 encN a0.cost) (F : bulk_Validate a0 = some res) : Calls Try.prog 38 #[.agg #[.slice A_a0_supply a0.supply.length c_a0_supply, .slice A_a0_demand a0.demand.length c_a0_demand, .slice A_a0_cost a0.cost.length c_a0_cost]] w (Rt w (.int .i64 res)) := by
  refine calls_of_cw (args := [.agg #[.slice A_a0_supply a0.supply.length c_a0_supply, .slice A_a0_demand a0.demand.length c_a0_demand, .slice A_a0_cost a0.cost.length c_a0_cost]]) Try.func38 rfl rfl rfl rfl ?_
  have H := Hp.start w
  have R0 := H.ext
  unfold bulk_Validate at F
  refine CW.seq fun K1 hK1 => ?_
  refine CW.region ?_
  refine LW.go rfl rfl (OW.box rfl fun b1 w1 N1 => ?_)
  replace H := H.new N1 N1.blk
  replace R0 := H.ext
  refine LW.pure rfl rfl (RV.assign rfl) ?_
  refine LW.nil (hK1 _ _ ?_)
  refine CW.seq fun K2 hK2 => ?_
  refine CW.seqJ (fun ρ wl1 => (∃ (t28_1 : Bool), bulk_Validate_k1 t28_1 = some res ∧ ρ = [(2, .int .i64 0), (28, .bool t28_1)] ∧ Hp w wl1 [])) ?_ ?_
  ·
    rintro _ wl1 ⟨t28_1, F, rfl, H⟩
    have R0 := H.ext
    unfold bulk_Validate_k1 at F
    by_cases hp1 : t28_1 = true
    ·
      replace F := ite_y hp1 F
      have hq1 : t28_1 = true := hp1
      refine CW.condT rfl hq1 ?_
      refine CW.seq fun K3 hK3 => ?_
      refine CW.region ?_
      refine LW.pure rfl rfl (RV.assign rfl) ?_
      refine LW.nil (hK3 _ _ ?_)
      refine CW.ret ?_
      obtain rfl := Option.some.inj F
      refine ⟨_, (ResOK.one rfl), ?_⟩
      refine ⟨(by first | rfl | simp), R0⟩
    ·
      replace F := ite_n hp1 F
      have hq1 : t28_1 = false := raw_f hp1
      refine CW.condF rfl hq1 ?_
      refine CW.skip (hK2 _ _ ?_)
      refine CW.seq fun K4 hK4 => ?_
      refine CW.region ?_
      refine LW.pure rfl rfl (RV.assign rfl) ?_
      refine LW.nil (hK4 _ _ ?_)
      refine CW.ret ?_
      obtain rfl := Option.some.inj F
      refine ⟨_, (ResOK.one rfl), ?_⟩
      refine ⟨(by first | rfl | simp), R0⟩
  ·
    intro K5 hK5 jK10
    obtain ⟨r1, hr1, F⟩ := bnd_some F
    by_cases hp2 : r1 = true
    ·
      replace F := ite_y hp2 F
      have hq2 : r1 = true := hp2
      obtain ⟨r2, hr2, F⟩ := bnd_some F
      by_cases hp3 : r2 = true
      ·
        replace F := ite_y hp3 F
        have hq3 : r2 = true := hp3
        obtain ⟨r3, hr3, F⟩ := bnd_some F
        obtain ⟨r4, hr4, F⟩ := bnd_some F
        by_cases hp4 : r3 = r4
        ·
          replace F := ite_y hp4 F
          have hq4 := dec_t hp4
          obtain ⟨r5, hr5, F⟩ := bnd_some F
          refine CW.draw [] (fun _ => True) (.cons 0 1 (.cons 1 1 (.cons 2 0 (.cons 3 1 (.cons 4 1 (.cons 5 1 (.cons 6 1 (.cons 7 0 (.cons 8 1 (.cons 9 1 (.cons 10 1 (.cons 11 1 (.cons 12 1 (.cons 14 1 (.cons 15 1 (.cons 13 0 (.cons 16 0 (.cons 17 1 (.cons 18 1 (.cons 19 1 (.cons 20 1 (.cons 21 1 (.cons 22 1 (.cons 23 0 (.cons 24 1 (.cons 25 1 .nil)))))))))))))))))))))))))) mixed (by kernel_rfl) fun w2 E1 => ?_
          replace H := H.grow E1
          replace R0 := H.ext
          refine DW.fix rfl rfl rfl (fun _ EQ => RV.fieldAddr Tf25_0 rfl) ?_
          refine DW.fix rfl rfl rfl (fun _ EQ => RV.load1 Tk22 rfl (((H.grow EQ).blk 0 rfl).cells.off 0) rfl) ?_
          refine DW.sole rfl rfl rfl (OW.call Tc75 rfl (bulk_amounts_ok (a0 := a0.supply) (h_a0_supply.ext R0) hr1) ?_)
          rintro _ w3 ⟨rfl, E2⟩
          refine ⟨_, rfl, fun _ => E2, ModX.ext E2, ?_⟩
          replace H := H.grow E2
          replace R0 := H.ext
          refine DW.fix rfl rfl rfl (fun _ EQ => RV.not rfl) ?_
          refine DW.fix rfl rfl rfl (fun _ EQ => RV.move rfl) ?_
          refine DW.fixYB rfl rfl rfl rfl rfl (not_f hq2) (fun _ EQ => RV.fieldAddr Tf25_1 rfl) ?_
          refine DW.fixYB rfl rfl rfl rfl rfl (not_f hq2) (fun _ EQ => RV.load1 Tk22 rfl (((H.grow EQ).blk 0 rfl).cells.off 1) rfl) ?_
          refine DW.soleYB rfl rfl rfl rfl rfl (not_f hq2) (OW.call Tc75 rfl (bulk_amounts_ok (a0 := a0.demand) (h_a0_demand.ext R0) hr2) ?_)
          rintro _ w4 ⟨rfl, E3⟩
          refine ⟨_, rfl, fun _ => E3, ModX.ext E3, ?_⟩
          replace H := H.grow E3
          replace R0 := H.ext
          refine DW.fixYB rfl rfl rfl rfl rfl (not_f hq2) (fun _ EQ => RV.not rfl) ?_
          refine DW.fix rfl rfl rfl (fun _ EQ => RV.pickFB rfl (not_f hq2) rfl) ?_
          refine DW.fix rfl rfl rfl (fun _ EQ => RV.move rfl) ?_
          refine DW.fixYB rfl rfl rfl rfl rfl (not_f hq3) (fun _ EQ => RV.fieldAddr Tf25_0 rfl) ?_
          refine DW.fixYB rfl rfl rfl rfl rfl (not_f hq3) (fun _ EQ => RV.load1 Tk22 rfl (((H.grow EQ).blk 0 rfl).cells.off 0) rfl) ?_
          refine DW.fixYB rfl rfl rfl rfl rfl (not_f hq3) (fun _ EQ => RV.fieldAddr Tf25_1 rfl) ?_
          refine DW.fixYB rfl rfl rfl rfl rfl (not_f hq3) (fun _ EQ => RV.load1 Tk22 rfl (((H.grow EQ).blk 0 rfl).cells.off 1) rfl) ?_
          refine DW.soleYB rfl rfl rfl rfl rfl (not_f hq3) (OW.call Tc71 rfl (bulk_total_ok (a0 := a0.supply) (h_a0_supply.ext R0) hr3) ?_)
          rintro _ w5 ⟨rfl, E4⟩
          refine ⟨_, rfl, fun _ => E4, ModX.ext E4, ?_⟩
          replace H := H.grow E4
          replace R0 := H.ext
          refine DW.soleYB rfl rfl rfl rfl rfl (not_f hq3) (OW.call Tc71 rfl (bulk_total_ok (a0 := a0.demand) (h_a0_demand.ext R0) hr4) ?_)
          rintro _ w6 ⟨rfl, E5⟩
          refine ⟨_, rfl, fun _ => E5, ModX.ext E5, ?_⟩
          replace H := H.grow E5
          replace R0 := H.ext
          refine DW.fixYB rfl rfl rfl rfl rfl (not_f hq3) (fun _ EQ => RV.nei rfl rfl) ?_
          refine DW.fix rfl rfl rfl (fun _ EQ => RV.pickFB rfl (not_f hq3) rfl) ?_
          refine DW.fix rfl rfl rfl (fun _ EQ => RV.move rfl) ?_
          refine DW.fixYB rfl rfl rfl rfl rfl (not_f hq4) (fun _ EQ => RV.loadA [.slice A_a0_supply a0.supply.length c_a0_supply, .slice A_a0_demand a0.demand.length c_a0_demand, .slice A_a0_cost a0.cost.length c_a0_cost] Tk25 rfl ((H.grow EQ).blk 0 rfl).cells rfl rfl) ?_
          refine DW.fixYB rfl rfl rfl rfl rfl (not_f hq4) (fun _ EQ => RV.fieldAddr Tf25_2 rfl) ?_
          refine DW.fixYB rfl rfl rfl rfl rfl (not_f hq4) (fun _ EQ => RV.load1 Tk23 rfl (((H.grow EQ).blk 0 rfl).cells.off 2) rfl) ?_
          refine DW.soleYB rfl rfl rfl rfl rfl (not_f hq4) (OW.call Tc70 rfl (bulk_table_ok (a0 := a0) (a1 := a0.cost) (a2 := (99 : Int)) (h_a0_supply.ext R0) (h_a0_demand.ext R0) (h_a0_cost.ext R0) (h_a0_cost.ext R0) hr5) ?_)
          rintro _ w7 ⟨rfl, E6⟩
          refine ⟨_, rfl, fun _ => E6, ModX.ext E6, ?_⟩
          replace H := H.grow E6
          replace R0 := H.ext
          refine DW.fixYB rfl rfl rfl rfl rfl (not_f hq4) (fun _ EQ => RV.not rfl) ?_
          refine DW.fix rfl rfl rfl (fun _ EQ => RV.pickFB rfl (not_f hq4) rfl) ?_
          replace H := H.pick (L' := []) [] (by decide) rfl
          replace R0 := H.ext
          refine DW.nil (jK10 _ _ ⟨_, ?_, ⟨(!r5), F, rfl, H⟩⟩)
          exact ⟨rfl, rfl, trivial⟩
        ·
          replace F := ite_n hp4 F
          have hq4 := dec_f hp4
          refine CW.draw [] (fun _ => True) (.cons 0 1 (.cons 1 1 (.cons 2 0 (.cons 3 1 (.cons 4 1 (.cons 5 1 (.cons 6 1 (.cons 7 0 (.cons 8 1 (.cons 9 1 (.cons 10 1 (.cons 11 1 (.cons 12 1 (.cons 14 1 (.cons 15 1 (.cons 13 0 (.cons 16 0 (.cons 17 1 (.cons 18 1 (.cons 19 1 (.cons 20 1 (.cons 21 1 (.cons 22 1 (.cons 23 0 (.cons 24 1 (.cons 25 1 .nil)))))))))))))))))))))))))) mixed (by kernel_rfl) fun w8 E7 => ?_
          replace H := H.grow E7
          replace R0 := H.ext
          refine DW.fix rfl rfl rfl (fun _ EQ => RV.fieldAddr Tf25_0 rfl) ?_
          refine DW.fix rfl rfl rfl (fun _ EQ => RV.load1 Tk22 rfl (((H.grow EQ).blk 0 rfl).cells.off 0) rfl) ?_
          refine DW.sole rfl rfl rfl (OW.call Tc75 rfl (bulk_amounts_ok (a0 := a0.supply) (h_a0_supply.ext R0) hr1) ?_)
          rintro _ w9 ⟨rfl, E8⟩
          refine ⟨_, rfl, fun _ => E8, ModX.ext E8, ?_⟩
          replace H := H.grow E8
          replace R0 := H.ext
          refine DW.fix rfl rfl rfl (fun _ EQ => RV.not rfl) ?_
          refine DW.fix rfl rfl rfl (fun _ EQ => RV.move rfl) ?_
          refine DW.fixYB rfl rfl rfl rfl rfl (not_f hq2) (fun _ EQ => RV.fieldAddr Tf25_1 rfl) ?_
          refine DW.fixYB rfl rfl rfl rfl rfl (not_f hq2) (fun _ EQ => RV.load1 Tk22 rfl (((H.grow EQ).blk 0 rfl).cells.off 1) rfl) ?_
          refine DW.soleYB rfl rfl rfl rfl rfl (not_f hq2) (OW.call Tc75 rfl (bulk_amounts_ok (a0 := a0.demand) (h_a0_demand.ext R0) hr2) ?_)
          rintro _ w10 ⟨rfl, E9⟩
          refine ⟨_, rfl, fun _ => E9, ModX.ext E9, ?_⟩
          replace H := H.grow E9
          replace R0 := H.ext
          refine DW.fixYB rfl rfl rfl rfl rfl (not_f hq2) (fun _ EQ => RV.not rfl) ?_
          refine DW.fix rfl rfl rfl (fun _ EQ => RV.pickFB rfl (not_f hq2) rfl) ?_
          refine DW.fix rfl rfl rfl (fun _ EQ => RV.move rfl) ?_
          refine DW.fixYB rfl rfl rfl rfl rfl (not_f hq3) (fun _ EQ => RV.fieldAddr Tf25_0 rfl) ?_
          refine DW.fixYB rfl rfl rfl rfl rfl (not_f hq3) (fun _ EQ => RV.load1 Tk22 rfl (((H.grow EQ).blk 0 rfl).cells.off 0) rfl) ?_
          refine DW.fixYB rfl rfl rfl rfl rfl (not_f hq3) (fun _ EQ => RV.fieldAddr Tf25_1 rfl) ?_
          refine DW.fixYB rfl rfl rfl rfl rfl (not_f hq3) (fun _ EQ => RV.load1 Tk22 rfl (((H.grow EQ).blk 0 rfl).cells.off 1) rfl) ?_
          refine DW.soleYB rfl rfl rfl rfl rfl (not_f hq3) (OW.call Tc71 rfl (bulk_total_ok (a0 := a0.supply) (h_a0_supply.ext R0) hr3) ?_)
          rintro _ w11 ⟨rfl, E10⟩
          refine ⟨_, rfl, fun _ => E10, ModX.ext E10, ?_⟩
          replace H := H.grow E10
          replace R0 := H.ext
          refine DW.soleYB rfl rfl rfl rfl rfl (not_f hq3) (OW.call Tc71 rfl (bulk_total_ok (a0 := a0.demand) (h_a0_demand.ext R0) hr4) ?_)
          rintro _ w12 ⟨rfl, E11⟩
          refine ⟨_, rfl, fun _ => E11, ModX.ext E11, ?_⟩
          replace H := H.grow E11
          replace R0 := H.ext
          refine DW.fixYB rfl rfl rfl rfl rfl (not_f hq3) (fun _ EQ => RV.nei rfl rfl) ?_
          refine DW.fix rfl rfl rfl (fun _ EQ => RV.pickFB rfl (not_f hq3) rfl) ?_
          refine DW.fix rfl rfl rfl (fun _ EQ => RV.move rfl) ?_
          refine DW.fixNB rfl rfl rfl rfl rfl (ne_beq (v := true) (not_t hq4) rfl) ?_
          refine DW.fixNB rfl rfl rfl rfl rfl (ne_beq (v := true) (not_t hq4) rfl) ?_
          refine DW.fixNB rfl rfl rfl rfl rfl (ne_beq (v := true) (not_t hq4) rfl) ?_
          refine DW.soleNB rfl rfl rfl rfl rfl (ne_beq (v := true) (not_t hq4) rfl) ?_
          refine DW.fixNB rfl rfl rfl rfl rfl (ne_beq (v := true) (not_t hq4) rfl) ?_
          refine DW.fix rfl rfl rfl (fun _ EQ => RV.pickTB rfl (not_t hq4) rfl) ?_
          replace H := H.pick (L' := []) [] (by decide) rfl
          replace R0 := H.ext
          refine DW.nil (jK10 _ _ ⟨_, ?_, ⟨true, F, rfl, H⟩⟩)
          exact ⟨rfl, rfl, trivial⟩
      ·
        replace F := ite_n hp3 F
        have hq3 : r2 = false := raw_f hp3
        refine CW.draw [] (fun _ => True) (.cons 0 1 (.cons 1 1 (.cons 2 0 (.cons 3 1 (.cons 4 1 (.cons 5 1 (.cons 6 1 (.cons 7 0 (.cons 8 1 (.cons 9 1 (.cons 10 1 (.cons 11 1 (.cons 12 1 (.cons 14 1 (.cons 15 1 (.cons 13 0 (.cons 16 0 (.cons 17 1 (.cons 18 1 (.cons 19 1 (.cons 20 1 (.cons 21 1 (.cons 22 1 (.cons 23 0 (.cons 24 1 (.cons 25 1 .nil)))))))))))))))))))))))))) mixed (by kernel_rfl) fun w13 E12 => ?_
        replace H := H.grow E12
        replace R0 := H.ext
        refine DW.fix rfl rfl rfl (fun _ EQ => RV.fieldAddr Tf25_0 rfl) ?_
        refine DW.fix rfl rfl rfl (fun _ EQ => RV.load1 Tk22 rfl (((H.grow EQ).blk 0 rfl).cells.off 0) rfl) ?_
        refine DW.sole rfl rfl rfl (OW.call Tc75 rfl (bulk_amounts_ok (a0 := a0.supply) (h_a0_supply.ext R0) hr1) ?_)
        rintro _ w14 ⟨rfl, E13⟩
        refine ⟨_, rfl, fun _ => E13, ModX.ext E13, ?_⟩
        replace H := H.grow E13
        replace R0 := H.ext
        refine DW.fix rfl rfl rfl (fun _ EQ => RV.not rfl) ?_
        refine DW.fix rfl rfl rfl (fun _ EQ => RV.move rfl) ?_
        refine DW.fixYB rfl rfl rfl rfl rfl (not_f hq2) (fun _ EQ => RV.fieldAddr Tf25_1 rfl) ?_
        refine DW.fixYB rfl rfl rfl rfl rfl (not_f hq2) (fun _ EQ => RV.load1 Tk22 rfl (((H.grow EQ).blk 0 rfl).cells.off 1) rfl) ?_
        refine DW.soleYB rfl rfl rfl rfl rfl (not_f hq2) (OW.call Tc75 rfl (bulk_amounts_ok (a0 := a0.demand) (h_a0_demand.ext R0) hr2) ?_)
        rintro _ w15 ⟨rfl, E14⟩
        refine ⟨_, rfl, fun _ => E14, ModX.ext E14, ?_⟩
        replace H := H.grow E14
        replace R0 := H.ext
        refine DW.fixYB rfl rfl rfl rfl rfl (not_f hq2) (fun _ EQ => RV.not rfl) ?_
        refine DW.fix rfl rfl rfl (fun _ EQ => RV.pickFB rfl (not_f hq2) rfl) ?_
        refine DW.fix rfl rfl rfl (fun _ EQ => RV.move rfl) ?_
        refine DW.fixNB rfl rfl rfl rfl rfl (ne_beq (v := true) (not_t hq3) rfl) ?_
        refine DW.fixNB rfl rfl rfl rfl rfl (ne_beq (v := true) (not_t hq3) rfl) ?_
        refine DW.fixNB rfl rfl rfl rfl rfl (ne_beq (v := true) (not_t hq3) rfl) ?_
        refine DW.fixNB rfl rfl rfl rfl rfl (ne_beq (v := true) (not_t hq3) rfl) ?_
        refine DW.soleNB rfl rfl rfl rfl rfl (ne_beq (v := true) (not_t hq3) rfl) ?_
        refine DW.soleNB rfl rfl rfl rfl rfl (ne_beq (v := true) (not_t hq3) rfl) ?_
        refine DW.fixNB rfl rfl rfl rfl rfl (ne_beq (v := true) (not_t hq3) rfl) ?_
        refine DW.fix rfl rfl rfl (fun _ EQ => RV.pickTB rfl (not_t hq3) rfl) ?_
        refine DW.fix rfl rfl rfl (fun _ EQ => RV.move rfl) ?_
        refine DW.fixNB rfl rfl rfl rfl rfl (ne_beq (v := true) rfl rfl) ?_
        refine DW.fixNB rfl rfl rfl rfl rfl (ne_beq (v := true) rfl rfl) ?_
        refine DW.fixNB rfl rfl rfl rfl rfl (ne_beq (v := true) rfl rfl) ?_
        refine DW.soleNB rfl rfl rfl rfl rfl (ne_beq (v := true) rfl rfl) ?_
        refine DW.fixNB rfl rfl rfl rfl rfl (ne_beq (v := true) rfl rfl) ?_
        refine DW.fix rfl rfl rfl (fun _ EQ => RV.pickTB rfl rfl rfl) ?_
        replace H := H.pick (L' := []) [] (by decide) rfl
        replace R0 := H.ext
        refine DW.nil (jK10 _ _ ⟨_, ?_, ⟨true, F, rfl, H⟩⟩)
        exact ⟨rfl, rfl, trivial⟩
    ·
      replace F := ite_n hp2 F
      have hq2 : r1 = false := raw_f hp2
      refine CW.draw [] (fun _ => True) (.cons 0 1 (.cons 1 1 (.cons 2 0 (.cons 3 1 (.cons 4 1 (.cons 5 1 (.cons 6 1 (.cons 7 0 (.cons 8 1 (.cons 9 1 (.cons 10 1 (.cons 11 1 (.cons 12 1 (.cons 14 1 (.cons 15 1 (.cons 13 0 (.cons 16 0 (.cons 17 1 (.cons 18 1 (.cons 19 1 (.cons 20 1 (.cons 21 1 (.cons 22 1 (.cons 23 0 (.cons 24 1 (.cons 25 1 .nil)))))))))))))))))))))))))) mixed (by kernel_rfl) fun w16 E15 => ?_
      replace H := H.grow E15
      replace R0 := H.ext
      refine DW.fix rfl rfl rfl (fun _ EQ => RV.fieldAddr Tf25_0 rfl) ?_
      refine DW.fix rfl rfl rfl (fun _ EQ => RV.load1 Tk22 rfl (((H.grow EQ).blk 0 rfl).cells.off 0) rfl) ?_
      refine DW.sole rfl rfl rfl (OW.call Tc75 rfl (bulk_amounts_ok (a0 := a0.supply) (h_a0_supply.ext R0) hr1) ?_)
      rintro _ w17 ⟨rfl, E16⟩
      refine ⟨_, rfl, fun _ => E16, ModX.ext E16, ?_⟩
      replace H := H.grow E16
      replace R0 := H.ext
      refine DW.fix rfl rfl rfl (fun _ EQ => RV.not rfl) ?_
      refine DW.fix rfl rfl rfl (fun _ EQ => RV.move rfl) ?_
      refine DW.fixNB rfl rfl rfl rfl rfl (ne_beq (v := true) (not_t hq2) rfl) ?_
      refine DW.fixNB rfl rfl rfl rfl rfl (ne_beq (v := true) (not_t hq2) rfl) ?_
      refine DW.soleNB rfl rfl rfl rfl rfl (ne_beq (v := true) (not_t hq2) rfl) ?_
      refine DW.fixNB rfl rfl rfl rfl rfl (ne_beq (v := true) (not_t hq2) rfl) ?_
      refine DW.fix rfl rfl rfl (fun _ EQ => RV.pickTB rfl (not_t hq2) rfl) ?_
      refine DW.fix rfl rfl rfl (fun _ EQ => RV.move rfl) ?_
      refine DW.fixNB rfl rfl rfl rfl rfl (ne_beq (v := true) rfl rfl) ?_
      refine DW.fixNB rfl rfl rfl rfl rfl (ne_beq (v := true) rfl rfl) ?_
      refine DW.fixNB rfl rfl rfl rfl rfl (ne_beq (v := true) rfl rfl) ?_
      refine DW.fixNB rfl rfl rfl rfl rfl (ne_beq (v := true) rfl rfl) ?_
      refine DW.soleNB rfl rfl rfl rfl rfl (ne_beq (v := true) rfl rfl) ?_
      refine DW.soleNB rfl rfl rfl rfl rfl (ne_beq (v := true) rfl rfl) ?_
      refine DW.fixNB rfl rfl rfl rfl rfl (ne_beq (v := true) rfl rfl) ?_
      refine DW.fix rfl rfl rfl (fun _ EQ => RV.pickTB rfl rfl rfl) ?_
      refine DW.fix rfl rfl rfl (fun _ EQ => RV.move rfl) ?_
      refine DW.fixNB rfl rfl rfl rfl rfl (ne_beq (v := true) rfl rfl) ?_
      refine DW.fixNB rfl rfl rfl rfl rfl (ne_beq (v := true) rfl rfl) ?_
      refine DW.fixNB rfl rfl rfl rfl rfl (ne_beq (v := true) rfl rfl) ?_
      refine DW.soleNB rfl rfl rfl rfl rfl (ne_beq (v := true) rfl rfl) ?_
      refine DW.fixNB rfl rfl rfl rfl rfl (ne_beq (v := true) rfl rfl) ?_
      refine DW.fix rfl rfl rfl (fun _ EQ => RV.pickTB rfl rfl rfl) ?_
      replace H := H.pick (L' := []) [] (by decide) rfl
      replace R0 := H.ext
      refine DW.nil (jK10 _ _ ⟨_, ?_, ⟨true, F, rfl, H⟩⟩)
      exact ⟨rfl, rfl, trivial⟩
end Go.D7

set_option linter.unusedVariables false
set_option linter.unusedSimpArgs false
namespace Go.D7
open Go.Tb Go.Proofs Go.RowKit
theorem Tc38 : callable Try.prog 38 = true := by kernel_rfl
theorem Tc68 : callable Try.prog 68 = true := by kernel_rfl
theorem Tc83 : callable Try.prog 83 = true := by kernel_rfl
theorem Tc89 : callable Try.prog 89 = true := by kernel_rfl
theorem Ts82 : tyS Try.prog 82 = some (96, 1, 16, [.nilIface]) := by kernel_rfl
set_option maxRecDepth 20000 in
set_option maxHeartbeats 1000000 in
theorem bulk_empty_ok {a0 : Trade} {A_a0_supply : Option Addr} {c_a0_supply : Nat} {A_a0_demand : Option Addr} {c_a0_demand : Nat} {A_a0_cost : Option Addr} {c_a0_cost : Nat} {w : World} {res : (List (List Int))} (h_a0_supply : Sl w A_a0_supply c_a0_supply 1 (a0.supply.map encN)) (h_a0_demand : Sl w A_a0_demand c_a0_demand 1 (a0.demand.map encN)) (h_a0_cost : Sl2 w A_a0_cost c_a0_cost 1 encN a0.cost) (F : bulk_empty a0 = some res) : Calls Try.prog 89 #[.agg #[.slice A_a0_supply a0.supply.length c_a0_supply, .slice A_a0_demand a0.demand.length c_a0_demand, .slice A_a0_cost a0.cost.length c_a0_cost]] w (fun e w' => ∃ (A0 : Option Addr) (c0 : Nat) (hs0 : List (Option Addr × Nat)), e = .returned (.slice A0 res.length c0) ∧ Hp w w' [.tab A0 c0 22 hs0 3 1 (encM encN res)]) := by
  refine calls_of_cw (args := [.agg #[.slice A_a0_supply a0.supply.length c_a0_supply, .slice A_a0_demand a0.demand.length c_a0_demand, .slice A_a0_cost a0.cost.length c_a0_cost]]) Try.func89 rfl rfl rfl rfl ?_
  have H := Hp.start w
  have R0 := H.ext
  unfold bulk_empty at F
  refine CW.seq fun K1 hK1 => ?_
  refine CW.region ?_
  refine LW.go rfl rfl (OW.box rfl fun b1 w1 N1 => ?_)
  replace H := H.new N1 N1.blk
  replace R0 := H.ext
  refine LW.pure rfl rfl (RV.assign rfl) ?_
  refine LW.nil (hK1 _ _ ?_)
  refine CW.seq fun K2 hK2 => ?_
  obtain ⟨hg1, F⟩ := gd_some F
  refine CW.region ?_
  refine LW.pure rfl rfl (RV.fieldAddr Tf25_0 rfl) ?_
  refine LW.pure rfl rfl (RV.load1 Tk22 rfl ((H.blk 0 rfl).cells.off 0) rfl) ?_
  refine LW.pure rfl rfl (RV.len Ts22 rfl) ?_
  refine LW.go rfl rfl (OW.makeR (enc := (fun (_ : Unit) => [Value.slice none 0 0])) (() : Unit) Ts23 rfl rfl rfl rfl rfl hg1 (by decide) fun b2 w2 N2 => ?_)
  replace H := H.made' (k := 1) (t := 22) (enc := (fun (_ : Unit) => [Value.slice none 0 0])) (l := (List.replicate (Int.toNat ((a0.supply.length : Int))) (() : Unit))) N2 N2.blk (fun _ => rfl) rfl (by first | decide | omega | (simp; done) | (simp; omega))
  replace R0 := H.ext
  replace H : Hp w w2 [.tab (some ⟨b2, 0, none⟩) (((List.replicate (Int.toNat ((a0.supply.length : Int))) (() : Unit))).length) 22 (List.replicate (Int.toNat ((a0.supply.length : Int))) (none, 0)) 3 1 (encM encN ((List.replicate (Int.toNat ((a0.supply.length : Int))) ([] : List Int)))), .blk b1 25 [.slice A_a0_supply a0.supply.length c_a0_supply, .slice A_a0_demand a0.demand.length c_a0_demand, .slice A_a0_cost a0.cost.length c_a0_cost]] := H.asTab encN 0 3 1 rfl
  replace R0 := H.ext
  refine LW.pure rfl rfl (RV.assign rfl) ?_
  refine LW.nil (hK2 _ _ ?_)
  refine CW.seqJ (fun ρ wl1 => (∃ (m1 : List (List Int)) (hsm1 : List (Option Addr × Nat)), bulk_empty_k1 m1 = some res ∧ ρ = [(2, .slice none 0 0), (3, .slice (some ⟨b2, 0, none⟩) m1.length (((List.replicate (Int.toNat ((a0.supply.length : Int))) (() : Unit))).length))] ∧ Hp w wl1 [.tab (some ⟨b2, 0, none⟩) (((List.replicate (Int.toNat ((a0.supply.length : Int))) (() : Unit))).length) 22 hsm1 3 1 (encM encN m1)])) ?_ ?_
  ·
    rintro _ wl1 ⟨m1, hsm1, F, rfl, H⟩
    have R0 := H.ext
    unfold bulk_empty_k1 at F
    refine CW.seq fun K3 hK3 => ?_
    refine CW.region ?_
    refine LW.pure rfl rfl (RV.move rfl) ?_
    refine LW.pure rfl rfl (RV.assign rfl) ?_
    refine LW.nil (hK3 _ _ ?_)
    refine CW.ret ?_
    obtain rfl := Option.some.inj F
    refine ⟨_, (ResOK.one rfl), ?_⟩
    exact ⟨(some ⟨b2, 0, none⟩), (((List.replicate (Int.toNat ((a0.supply.length : Int))) (() : Unit))).length), hsm1, (by first | rfl | (simp; done) | (simp; omega)), H⟩
  ·
    intro K4 hK4 jK47
    refine CW.seq fun K5 hK5 => ?_
    refine CW.region ?_
    refine LW.pure rfl rfl (RV.move rfl) ?_
    refine LW.pure rfl rfl (RV.len Ts23 rfl) ?_
    refine LW.pure rfl rfl (RV.move rfl) ?_
    refine LW.nil (hK5 _ _ ?_)
    refine CW.block ?_
    refine CW.loop (fun meas ρ wl2 => ∃ (t11_1 : Int) (m2 : List (List Int)) (hsm2 : List (Option Addr × Nat)), bulk_empty_L1 a0 meas t11_1 m2 = some res ∧ ρ = [(1, .pointer (some (⟨b1, 0, none⟩))), (2, .slice none 0 0), (3, .slice (some ⟨b2, 0, none⟩) m2.length (((List.replicate (Int.toNat ((a0.supply.length : Int))) (() : Unit))).length)), (10, .int .i64 (((List.replicate (Int.toNat ((a0.supply.length : Int))) (() : Unit)).length : Int))), (11, .int .i64 t11_1)] ∧ Hp w wl2 [.tab (some ⟨b2, 0, none⟩) (((List.replicate (Int.toNat ((a0.supply.length : Int))) (() : Unit))).length) 22 hsm2 3 1 (encM encN m2), .blk b1 25 [.slice A_a0_supply a0.supply.length c_a0_supply, .slice A_a0_demand a0.demand.length c_a0_demand, .slice A_a0_cost a0.cost.length c_a0_cost]]) FU ⟨_, ?_, ((0 : Int)), ((List.replicate (Int.toNat ((a0.supply.length : Int))) ([] : List Int))), (List.replicate (Int.toNat ((a0.supply.length : Int))) (none, 0)), F, rfl, H⟩ ?_
    · exact ⟨rfl, rfl, (look_slice rfl (by first | rfl | (simp; done) | (simp; omega))), rfl, rfl, trivial⟩
    rintro mk1 _ wl2 ⟨t11_1, m2, hsm2, F, rfl, H⟩
    have R0 := H.ext
    replace F := bulk_empty_L1_s F
    obtain ⟨mk1, rfl, F⟩ := F
    generalize hrec1 : bulk_empty_L1 a0 mk1 = rec1 at F
    unfold bulk_empty_B1 at F
    refine CW.seq fun K6 hK6 => ?_
    refine CW.region ?_
    refine LW.pure rfl rfl (RV.lss rfl rfl) ?_
    refine LW.nil (hK6 _ _ ?_)
    refine CW.seq fun K7 hK7 => ?_
    by_cases hp1 : t11_1 < (((List.replicate (Int.toNat ((a0.supply.length : Int))) (() : Unit)).length : Int))
    ·
      replace F := ite_y hp1 F
      have hq1 := dec_t hp1
      refine CW.condT rfl hq1 ?_
      refine CW.skip (hK7 _ _ ?_)
      refine CW.seq fun K8 hK8 => ?_
      refine CW.block ?_
      refine CW.seq fun K9 hK9 => ?_
      refine CW.region ?_
      refine LW.pure rfl rfl (RV.move rfl) ?_
      refine LW.pure rfl rfl (RV.assign rfl) ?_
      refine LW.nil (hK9 _ _ ?_)
      obtain ⟨hg2, F⟩ := gd_some F
      obtain ⟨x1, hbx1, hx1, F⟩ := ix_some F
      refine CW.region ?_
      refine LW.pure rfl rfl (RV.move rfl) ?_
      refine LW.pure rfl rfl (RV.move rfl) ?_
      refine LW.pure rfl rfl (RV.fieldAddr Tf25_1 rfl) ?_
      refine LW.pure rfl rfl (RV.load1 Tk22 rfl ((H.blk 1 rfl).cells.off 1) rfl) ?_
      refine LW.pure rfl rfl (RV.len Ts22 rfl) ?_
      refine LW.go rfl rfl (OW.makeR (enc := encN) (0 : Int) Ts22 rfl rfl rfl rfl rfl hg2 (by decide) fun b3 w3 N3 => ?_)
      replace H := H.made' (k := 1) (t := 3) (enc := encN) (l := (List.replicate (Int.toNat ((a0.demand.length : Int))) (0 : Int))) N3 N3.blk (fun _ => rfl) rfl (by first | decide | omega | (simp; done) | (simp; omega))
      replace R0 := H.ext
      obtain ⟨B1, e1, hh1⟩ := (H.tab 1 rfl).hd hx1
      refine LW.pure rfl rfl (RV.indexAddr Ts23 rfl rfl hbx1 ⟨_, rfl⟩) ?_
      have hn1 : (((List.replicate (Int.toNat ((a0.demand.length : Int))) (0 : Int))).length) = ((List.replicate (Int.toNat ((a0.demand.length : Int))) (0 : Int))).length := by first | rfl | (simp; done) | (simp; omega)
      refine LW.go rfl rfl (OW.storeO (enc := encH) (vs := [.slice (some ⟨b3, 0, none⟩) (((List.replicate (Int.toNat ((a0.demand.length : Int))) (0 : Int))).length) (((List.replicate (Int.toNat ((a0.demand.length : Int))) (0 : Int))).length)]) 0 ((some ⟨b3, 0, none⟩, ((List.replicate (Int.toNat ((a0.demand.length : Int))) (0 : Int))).length), List.map encN ((List.replicate (Int.toNat ((a0.demand.length : Int))) (0 : Int)))) Tk22 rfl rfl (H.tab 1 rfl).outer (fun _ => rfl) rfl ((H.tab 1 rfl).zipAt hx1 hh1) rfl rfl (by decide) rfl (by rw [hn1]; simp [encH, over]) fun w4 M1 O1 => ?_)
      replace H : Hp w w4 [.tab (some ⟨b2, 0, none⟩) (((List.replicate (Int.toNat ((a0.supply.length : Int))) (() : Unit))).length) 22 ((hsm2.set (Int.toNat t11_1) (some ⟨b3, 0, none⟩, ((List.replicate (Int.toNat ((a0.demand.length : Int))) (0 : Int))).length))) 3 1 (encM encN ((m2.set (Int.toNat t11_1) ((List.replicate (Int.toNat ((a0.demand.length : Int))) (0 : Int)))))), .blk b1 25 [.slice A_a0_supply a0.supply.length c_a0_supply, .slice A_a0_demand a0.demand.length c_a0_demand, .slice A_a0_cost a0.cost.length c_a0_cost]] := H.tabSet 1 0 (by decide) rfl rfl (lt_of_at hx1) M1 O1
      replace R0 := H.ext
      refine LW.nil (hK8 _ _ ?_)
      obtain ⟨hg3, F⟩ := gd_some F
      refine CW.region ?_
      refine LW.pure rfl rfl (RV.add rfl rfl hg3) ?_
      refine LW.pure rfl rfl (RV.move rfl) ?_
      refine LW.nil ?_
      subst hrec1
      refine ⟨mk1, Nat.lt_succ_self _, _, ?_, (t11_1 + 1), ((m2.set (Int.toNat t11_1) ((List.replicate (Int.toNat ((a0.demand.length : Int))) (0 : Int))))), ((hsm2.set (Int.toNat t11_1) (some ⟨b3, 0, none⟩, ((List.replicate (Int.toNat ((a0.demand.length : Int))) (0 : Int))).length))), F, rfl, H⟩
      exact ⟨rfl, rfl, (look_slice rfl (by first | rfl | (simp; done) | (simp; omega))), rfl, rfl, trivial⟩
    ·
      replace F := ite_n hp1 F
      have hq1 := dec_f hp1
      refine CW.condF rfl hq1 ?_
      replace H := H.pick (L' := [.tab (some ⟨b2, 0, none⟩) (((List.replicate (Int.toNat ((a0.supply.length : Int))) (() : Unit))).length) 22 hsm2 3 1 (encM encN m2)]) [0] (by decide) rfl
      replace R0 := H.ext
      refine CW.exit (jK47 _ _ ⟨_, ?_, ⟨m2, hsm2, F, rfl, H⟩⟩)
      exact ⟨rfl, (look_slice rfl (by first | rfl | (simp; done) | (simp; omega))), trivial⟩
set_option maxRecDepth 20000 in
set_option maxHeartbeats 1000000 in
theorem slices_Clone_int_ok {a0 : List Int} {A_a0 : Option Addr} {c_a0 : Nat} {w : World} {res : List Int} (h_a0 : Sl w A_a0 c_a0 1 (a0.map encN)) (F : slices_Clone_int a0 = some res) : Calls Try.prog 83 #[.slice A_a0 a0.length c_a0] w (fun e w' => ∃ (A0 : Option Addr) (c0 : Nat), e = .returned (.slice A0 res.length c0) ∧ Hp w w' [.own A0 c0 3 1 (List.map encN res)]) := by
  cases A_a0 with
  | none =>
    obtain rfl := Sl.none_nil h_a0
    refine calls_of_cw (args := [.slice none (([] : List Int).length) c_a0]) Try.func83 rfl rfl rfl rfl ?_
    have H := Hp.start w
    have R0 := H.ext
    unfold slices_Clone_int at F
    obtain ⟨_, F⟩ := gd_some F
    refine CW.seq fun K1 hK1 => ?_
    refine CW.region ?_
    refine LW.pure rfl rfl (RV.assign rfl) ?_
    refine LW.nil (hK1 _ _ ?_)
    refine CW.seq fun K2 hK2 => ?_
    refine CW.seq fun K3 hK3 => ?_
    refine CW.region ?_
    refine LW.pure rfl rfl (RV.move rfl) ?_
    refine LW.pure rfl rfl (RV.eqnil Ts22 rfl rfl) ?_
    refine LW.nil (hK3 _ _ ?_)
    refine CW.condT rfl rfl ?_
    refine CW.seq fun K4 hK4 => ?_
    refine CW.region ?_
    refine LW.pure rfl rfl (RV.assign rfl) ?_
    refine LW.nil (hK4 _ _ ?_)
    refine CW.ret ?_
    obtain rfl := Option.some.inj F
    refine ⟨_, (ResOK.one rfl), ?_⟩
    replace H := H.nilOwn 3 1
    replace R0 := H.ext
    exact ⟨none, 0, (by first | rfl | (simp; done) | (simp; omega)), H⟩
  | some ad =>
    refine calls_of_cw (args := [.slice ((some ad)) a0.length c_a0]) Try.func83 rfl rfl rfl rfl ?_
    have H := Hp.start w
    have R0 := H.ext
    unfold slices_Clone_int at F
    refine CW.seq fun K1 hK1 => ?_
    refine CW.region ?_
    refine LW.pure rfl rfl (RV.assign rfl) ?_
    refine LW.nil (hK1 _ _ ?_)
    refine CW.seq fun K2 hK2 => ?_
    refine CW.seq fun K3 hK3 => ?_
    refine CW.region ?_
    refine LW.pure rfl rfl (RV.move rfl) ?_
    refine LW.pure rfl rfl (RV.eqnil Ts22 rfl rfl) ?_
    refine LW.nil (hK3 _ _ ?_)
    refine CW.condF rfl rfl ?_
    refine CW.skip (hK2 _ _ ?_)
    refine CW.seq fun K4 hK4 => ?_
    obtain ⟨hg1, F⟩ := gd_some F
    refine CW.region ?_
    refine LW.go rfl rfl (OW.buildSlice (e := 3) (vs := []) (cs := []) rfl (fun _ => by kernel_rfl) fun b2 w3 N2 => ?_)
    replace H := H.made' (k := 1) (t := 3) (enc := encN) (l := ([] : List Int)) N2 N2.blk (fun _ => rfl) rfl (by first | decide | omega | (simp; done) | (simp; omega))
    replace R0 := H.ext
    refine LW.pure rfl rfl (RV.move rfl) ?_
    refine LW.go rfl rfl (OW.appendG (enc := encN) (l := ([] : List Int)) (xs := a0) Ts22 (look_slice rfl (by first | rfl | (simp; done) | (simp; omega))) rfl (H.own 0 rfl) (h_a0.ext R0) (fun _ => rfl) rfl rfl hg1 (by decide) fun A2 c2 w4 O2 M2 D2 => ?_)
    replace H : Hp w w4 [.own A2 c2 3 1 (List.map encN ((([] : List Int) ++ a0)))] := H.mod 0 rfl M2 O2 D2
    replace R0 := H.ext
    refine LW.pure rfl rfl (RV.assign rfl) ?_
    refine LW.nil (hK4 _ _ ?_)
    refine CW.ret ?_
    obtain rfl := Option.some.inj F
    refine ⟨_, (ResOK.one rfl), ?_⟩
    exact ⟨A2, c2, (by first | rfl | (simp; done) | (simp; omega)), H⟩
set_option maxRecDepth 20000 in
set_option maxHeartbeats 1000000 in
theorem bulk_corner_ok {a0 : Trade} {A_a0_supply : Option Addr} {c_a0_supply : Nat} {A_a0_demand : Option Addr} {c_a0_demand : Nat} {A_a0_cost : Option Addr} {c_a0_cost : Nat} {w : World} {res : (List (List Int))} (h_a0_supply : Sl w A_a0_supply c_a0_supply 1 (a0.supply.map encN)) (h_a0_demand : Sl w A_a0_demand c_a0_demand 1 (a0.demand.map encN)) (h_a0_cost : Sl2 w A_a0_cost c_a0_cost 1 encN a0.cost) (F : bulk_corner a0 = some res) : Calls Try.prog 68 #[.agg #[.slice A_a0_supply a0.supply.length c_a0_supply, .slice A_a0_demand a0.demand.length c_a0_demand, .slice A_a0_cost a0.cost.length c_a0_cost]] w (fun e w' => ∃ (A0 : Option Addr) (c0 : Nat) (hs0 : List (Option Addr × Nat)), e = .returned (.slice A0 res.length c0) ∧ Hp w w' [.tab A0 c0 22 hs0 3 1 (encM encN res)]) := by
  refine calls_of_cw (args := [.agg #[.slice A_a0_supply a0.supply.length c_a0_supply, .slice A_a0_demand a0.demand.length c_a0_demand, .slice A_a0_cost a0.cost.length c_a0_cost]]) Try.func68 rfl rfl rfl rfl ?_
  have H := Hp.start w
  have R0 := H.ext
  unfold bulk_corner at F
  refine CW.seq fun K1 hK1 => ?_
  refine CW.region ?_
  refine LW.go rfl rfl (OW.box rfl fun b1 w1 N1 => ?_)
  replace H := H.new N1 N1.blk
  replace R0 := H.ext
  refine LW.pure rfl rfl (RV.assign rfl) ?_
  refine LW.nil (hK1 _ _ ?_)
  refine CW.seq fun K2 hK2 => ?_
  obtain ⟨r1, hr1, F⟩ := bnd_some F
  refine CW.region ?_
  refine LW.pure rfl rfl (RV.loadA [.slice A_a0_supply a0.supply.length c_a0_supply, .slice A_a0_demand a0.demand.length c_a0_demand, .slice A_a0_cost a0.cost.length c_a0_cost] Tk25 rfl (H.blk 0 rfl).cells rfl rfl) ?_
  refine LW.go rfl rfl (OW.call Tc89 rfl (bulk_empty_ok (a0 := a0) (h_a0_supply.ext R0) (h_a0_demand.ext R0) (h_a0_cost.ext R0) hr1) ?_)
  rintro _ w2 ⟨A5_0, c5_0, hs5_0, rfl, E1⟩
  refine ⟨_, rfl, ?_⟩
  replace H : Hp w w2 [.tab A5_0 c5_0 22 hs5_0 3 1 (encM encN r1), .blk b1 25 [.slice A_a0_supply a0.supply.length c_a0_supply, .slice A_a0_demand a0.demand.length c_a0_demand, .slice A_a0_cost a0.cost.length c_a0_cost]] := H.append E1
  replace R0 := H.ext
  refine LW.pure rfl rfl (RV.assign rfl) ?_
  refine LW.nil (hK2 _ _ ?_)
  refine CW.seq fun K3 hK3 => ?_
  obtain ⟨r2, hr2, F⟩ := bnd_some F
  obtain ⟨r3, hr3, F⟩ := bnd_some F
  refine CW.draw [] (fun _ => True) (.cons 0 1 (.cons 1 1 (.cons 3 1 (.cons 4 1 (.cons 2 0 (.cons 5 0 (.cons 6 1 (.cons 7 1 .nil)))))))) mixed (by kernel_rfl) fun w3 E2 => ?_
  replace H := H.grow E2
  replace R0 := H.ext
  refine DW.fix rfl rfl rfl (fun _ EQ => RV.fieldAddr Tf25_0 rfl) ?_
  refine DW.fix rfl rfl rfl (fun _ EQ => RV.load1 Tk22 rfl (((H.grow EQ).blk 1 rfl).cells.off 0) rfl) ?_
  refine DW.fix rfl rfl rfl (fun _ EQ => RV.fieldAddr Tf25_1 rfl) ?_
  refine DW.fix rfl rfl rfl (fun _ EQ => RV.load1 Tk22 rfl (((H.grow EQ).blk 1 rfl).cells.off 1) rfl) ?_
  refine DW.sole rfl rfl rfl (OW.call Tc83 rfl (slices_Clone_int_ok (a0 := a0.supply) (h_a0_supply.ext R0) hr2) ?_)
  rintro _ w4 ⟨A8_0, c8_0, rfl, E3⟩
  refine ⟨_, rfl, fun _ => E3.ext, ModX.ext E3.ext, ?_⟩
  replace H : Hp w w4 [.own A8_0 c8_0 3 1 (List.map encN r2), .tab A5_0 c5_0 22 hs5_0 3 1 (encM encN r1), .blk b1 25 [.slice A_a0_supply a0.supply.length c_a0_supply, .slice A_a0_demand a0.demand.length c_a0_demand, .slice A_a0_cost a0.cost.length c_a0_cost]] := H.append E3
  replace R0 := H.ext
  refine DW.sole rfl rfl rfl (OW.call Tc83 rfl (slices_Clone_int_ok (a0 := a0.demand) (h_a0_demand.ext R0) hr3) ?_)
  rintro _ w5 ⟨A9_0, c9_0, rfl, E4⟩
  refine ⟨_, rfl, fun _ => E4.ext, ModX.ext E4.ext, ?_⟩
  replace H : Hp w w5 [.own A9_0 c9_0 3 1 (List.map encN r3), .own A8_0 c8_0 3 1 (List.map encN r2), .tab A5_0 c5_0 22 hs5_0 3 1 (encM encN r1), .blk b1 25 [.slice A_a0_supply a0.supply.length c_a0_supply, .slice A_a0_demand a0.demand.length c_a0_demand, .slice A_a0_cost a0.cost.length c_a0_cost]] := H.append E4
  replace R0 := H.ext
  refine DW.fix rfl rfl rfl (fun _ EQ => RV.assign rfl) ?_
  refine DW.fix rfl rfl rfl (fun _ EQ => RV.assign rfl) ?_
  refine DW.nil (hK3 _ _ ?_)
  refine CW.seqJ (fun ρ wl1 => (∃ (m1 : List (List Int)), bulk_corner_k1 m1 = some res ∧ ρ = [(2, .slice none 0 0), (3, .slice A5_0 m1.length c5_0)] ∧ Hp w wl1 [.tab A5_0 c5_0 22 hs5_0 3 1 (encM encN m1)])) ?_ ?_
  ·
    rintro _ wl1 ⟨m1, F, rfl, H⟩
    have R0 := H.ext
    unfold bulk_corner_k1 at F
    refine CW.seq fun K4 hK4 => ?_
    refine CW.region ?_
    refine LW.pure rfl rfl (RV.move rfl) ?_
    refine LW.pure rfl rfl (RV.assign rfl) ?_
    refine LW.nil (hK4 _ _ ?_)
    refine CW.ret ?_
    obtain rfl := Option.some.inj F
    refine ⟨_, (ResOK.one rfl), ?_⟩
    exact ⟨A5_0, c5_0, hs5_0, (by first | rfl | (simp; done) | (simp; omega)), H⟩
  ·
    intro K5 hK5 jK76
    refine CW.seq fun K6 hK6 => ?_
    refine CW.region ?_
    refine LW.pure rfl rfl (RV.assign rfl) ?_
    refine LW.pure rfl rfl (RV.assign rfl) ?_
    refine LW.nil (hK6 _ _ ?_)
    refine CW.block ?_
    replace H := H.pick (L' := [.tab A5_0 c5_0 22 hs5_0 3 1 (encM encN r1), .own A8_0 c8_0 3 1 (List.map encN r2), .own A9_0 c9_0 3 1 (List.map encN r3)]) [2, 1, 0] (by decide) rfl
    replace R0 := H.ext
    refine CW.loop (fun meas ρ wl2 => ∃ (t6_1 : Int) (t7_1 : Int) (m2 : List (List Int)) (l1 : List Int) (l2 : List Int), bulk_corner_L1 meas t6_1 t7_1 m2 l1 l2 = some res ∧ ρ = [(2, .slice none 0 0), (3, .slice A5_0 m2.length c5_0), (4, .slice A8_0 l1.length c8_0), (5, .slice A9_0 l2.length c9_0), (6, .int .i64 t6_1), (7, .int .i64 t7_1)] ∧ Hp w wl2 [.tab A5_0 c5_0 22 hs5_0 3 1 (encM encN m2), .own A8_0 c8_0 3 1 (List.map encN l1), .own A9_0 c9_0 3 1 (List.map encN l2)]) FU ⟨_, ?_, ((0 : Int)), ((0 : Int)), r1, r2, r3, F, rfl, H⟩ ?_
    · exact ⟨rfl, (look_slice rfl (by first | rfl | (simp; done) | (simp; omega))), (look_slice rfl (by first | rfl | (simp; done) | (simp; omega))), (look_slice rfl (by first | rfl | (simp; done) | (simp; omega))), rfl, rfl, trivial⟩
    rintro mk1 _ wl2 ⟨t6_1, t7_1, m2, l1, l2, F, rfl, H⟩
    have R0 := H.ext
    replace F := bulk_corner_L1_s F
    obtain ⟨mk1, rfl, F⟩ := F
    generalize hrec1 : bulk_corner_L1 mk1 = rec1 at F
    unfold bulk_corner_B1 at F
    refine CW.seq fun K7 hK7 => ?_
    refine CW.seqJ (fun ρ wl3 => (∃ (t26_1 : Bool), bulk_corner_k2 t6_1 t7_1 m2 l1 l2 rec1 t26_1 = some res ∧ ρ = [(2, .slice none 0 0), (3, .slice A5_0 m2.length c5_0), (4, .slice A8_0 l1.length c8_0), (5, .slice A9_0 l2.length c9_0), (6, .int .i64 t6_1), (7, .int .i64 t7_1), (26, .bool t26_1)] ∧ Hp w wl3 [.tab A5_0 c5_0 22 hs5_0 3 1 (encM encN m2), .own A8_0 c8_0 3 1 (List.map encN l1), .own A9_0 c9_0 3 1 (List.map encN l2)])) ?_ ?_
    ·
      rintro _ wl3 ⟨t26_1, F, rfl, H⟩
      have R0 := H.ext
      unfold bulk_corner_k2 at F
      by_cases hp1 : t26_1 = true
      ·
        replace F := ite_y hp1 F
        have hq1 : t26_1 = true := hp1
        refine CW.condT rfl hq1 ?_
        refine CW.skip (hK7 _ _ ?_)
        refine CW.block ?_
        refine CW.seq fun K8 hK8 => ?_
        obtain ⟨x1, hbx1, hx1, F⟩ := ix_some F
        obtain ⟨x2, hbx2, hx2, F⟩ := ix_some F
        refine CW.draw [] (fun _ => True) (.cons 0 1 (.cons 1 1 (.cons 2 1 (.cons 3 1 (.cons 4 1 (.cons 5 1 (.cons 6 1 (.cons 7 1 (.cons 8 1 (.cons 9 1 .nil)))))))))) mixed (by kernel_rfl) fun w6 E5 => ?_
        replace H := H.grow E5
        replace R0 := H.ext
        refine DW.fix rfl rfl rfl (fun _ EQ => RV.move rfl) ?_
        refine DW.fix rfl rfl rfl (fun _ EQ => RV.move rfl) ?_
        refine DW.fix rfl rfl rfl (fun _ EQ => RV.indexAddr Ts22 rfl rfl hbx1 ((H.own 1 rfl).sl.addr_ hx1)) ?_
        refine DW.fix rfl rfl rfl (fun _ EQ => RV.load1 Tk3 rfl (((H.grow EQ).own 1 rfl).sl.at_ hx1) rfl) ?_
        refine DW.fix rfl rfl rfl (fun _ EQ => RV.move rfl) ?_
        refine DW.fix rfl rfl rfl (fun _ EQ => RV.move rfl) ?_
        refine DW.fix rfl rfl rfl (fun _ EQ => RV.indexAddr Ts22 rfl rfl hbx2 ((H.own 2 rfl).sl.addr_ hx2)) ?_
        refine DW.fix rfl rfl rfl (fun _ EQ => RV.load1 Tk3 rfl (((H.grow EQ).own 2 rfl).sl.at_ hx2) rfl) ?_
        refine DW.fix rfl rfl rfl (fun _ EQ => RV.min2 rfl rfl) ?_
        refine DW.fix rfl rfl rfl (fun _ EQ => RV.assign rfl) ?_
        refine DW.nil (hK8 _ _ ?_)
        refine CW.seq fun K9 hK9 => ?_
        obtain ⟨x3, hbx3, hx3, F⟩ := ix_some F
        obtain ⟨x4, hbx4, hx4, F⟩ := ix_some F
        refine CW.region ?_
        refine LW.pure rfl rfl (RV.move rfl) ?_
        refine LW.pure rfl rfl (RV.move rfl) ?_
        obtain ⟨B1, e1, hh1⟩ := (H.tab 0 rfl).hd hx3
        refine LW.pure rfl rfl (RV.indexAddr Ts23 rfl rfl hbx3 ((H.tab 0 rfl).addr_ hx3)) ?_
        refine LW.pure rfl rfl (RV.load1 Tk22 rfl ((H.tab 0 rfl).cell hx3 hh1) rfl) ?_
        refine LW.pure rfl rfl (RV.move rfl) ?_
        refine LW.pure rfl rfl (RV.move rfl) ?_
        refine LW.pure rfl rfl (RV.indexAddr Ts22 rfl rfl hbx4 (((H.tab 0 rfl).rowO hx3 hh1).sl.addr_ hx4)) ?_
        refine LW.go rfl rfl (OW.storeO (enc := encN) (vs := [.int .i64 (min x1 x2)]) 0 (min x1 x2) Tk3 rfl rfl ((H.tab 0 rfl).rowO hx3 hh1) (fun _ => rfl) rfl hx4 rfl rfl (by decide) rfl rfl fun w7 M1 O1 => ?_)
        replace H : Hp w w7 [.tab A5_0 c5_0 22 hs5_0 3 1 (encM encN ((m2.set (Int.toNat t6_1) (x3.set (Int.toNat t7_1) (min x1 x2))))), .own A8_0 c8_0 3 1 (List.map encN l1), .own A9_0 c9_0 3 1 (List.map encN l2)] := H.tabRow 0 rfl hh1 hx3 (by simp) M1 O1
        replace R0 := H.ext
        have hrw1 : ((m2.set (Int.toNat t6_1) (x3.set (Int.toNat t7_1) (min x1 x2))))[Int.toNat t6_1]? = some (x3.set (Int.toNat t7_1) (min x1 x2)) := List.getElem?_set_self (lt_of_at hx3)
        refine LW.nil (hK9 _ _ ?_)
        refine CW.seq fun K10 hK10 => ?_
        obtain ⟨x5, hbx5, hx5, F⟩ := ix_some F
        obtain ⟨hg1, F⟩ := gd_some F
        obtain ⟨x6, hbx6, hx6, F⟩ := ix_some F
        refine CW.region ?_
        refine LW.pure rfl rfl (RV.move rfl) ?_
        refine LW.pure rfl rfl (RV.move rfl) ?_
        refine LW.pure rfl rfl (RV.indexAddr Ts22 rfl rfl hbx5 ((H.own 1 rfl).sl.addr_ hx5)) ?_
        refine LW.pure rfl rfl (RV.load1 Tk3 rfl ((H.own 1 rfl).sl.at_ hx5) rfl) ?_
        refine LW.pure rfl rfl (RV.move rfl) ?_
        refine LW.pure rfl rfl (RV.sub rfl rfl hg1) ?_
        refine LW.pure rfl rfl (RV.indexAddr Ts22 rfl rfl hbx6 ((H.own 1 rfl).sl.addr_ hx6)) ?_
        refine LW.go rfl rfl (OW.storeO (enc := encN) (vs := [.int .i64 (x5 - (min x1 x2))]) 0 (x5 - (min x1 x2)) Tk3 rfl rfl (H.own 1 rfl) (fun _ => rfl) rfl hx6 rfl rfl (by decide) rfl rfl fun w8 M2 O2 => ?_)
        replace H : Hp w w8 [.tab A5_0 c5_0 22 hs5_0 3 1 (encM encN ((m2.set (Int.toNat t6_1) (x3.set (Int.toNat t7_1) (min x1 x2))))), .own A8_0 c8_0 3 1 (List.map encN ((l1.set (Int.toNat t6_1) (x5 - (min x1 x2))))), .own A9_0 c9_0 3 1 (List.map encN l2)] := H.mod 1 rfl M2 O2 (.inl rfl)
        replace R0 := H.ext
        refine LW.nil (hK10 _ _ ?_)
        refine CW.seq fun K11 hK11 => ?_
        obtain ⟨x7, hbx7, hx7, F⟩ := ix_some F
        obtain ⟨hg2, F⟩ := gd_some F
        obtain ⟨x8, hbx8, hx8, F⟩ := ix_some F
        refine CW.region ?_
        refine LW.pure rfl rfl (RV.move rfl) ?_
        refine LW.pure rfl rfl (RV.move rfl) ?_
        refine LW.pure rfl rfl (RV.indexAddr Ts22 rfl rfl hbx7 ((H.own 2 rfl).sl.addr_ hx7)) ?_
        refine LW.pure rfl rfl (RV.load1 Tk3 rfl ((H.own 2 rfl).sl.at_ hx7) rfl) ?_
        refine LW.pure rfl rfl (RV.move rfl) ?_
        refine LW.pure rfl rfl (RV.sub rfl rfl hg2) ?_
        refine LW.pure rfl rfl (RV.indexAddr Ts22 rfl rfl hbx8 ((H.own 2 rfl).sl.addr_ hx8)) ?_
        refine LW.go rfl rfl (OW.storeO (enc := encN) (vs := [.int .i64 (x7 - (min x1 x2))]) 0 (x7 - (min x1 x2)) Tk3 rfl rfl (H.own 2 rfl) (fun _ => rfl) rfl hx8 rfl rfl (by decide) rfl rfl fun w9 M3 O3 => ?_)
        replace H : Hp w w9 [.tab A5_0 c5_0 22 hs5_0 3 1 (encM encN ((m2.set (Int.toNat t6_1) (x3.set (Int.toNat t7_1) (min x1 x2))))), .own A8_0 c8_0 3 1 (List.map encN ((l1.set (Int.toNat t6_1) (x5 - (min x1 x2))))), .own A9_0 c9_0 3 1 (List.map encN ((l2.set (Int.toNat t7_1) (x7 - (min x1 x2)))))] := H.mod 2 rfl M3 O3 (.inl rfl)
        replace R0 := H.ext
        refine LW.nil (hK11 _ _ ?_)
        refine CW.seq fun K12 hK12 => ?_
        obtain ⟨x9, hbx9, hx9, F⟩ := ix_some F
        refine CW.region ?_
        refine LW.pure rfl rfl (RV.move rfl) ?_
        refine LW.pure rfl rfl (RV.move rfl) ?_
        refine LW.pure rfl rfl (RV.indexAddr Ts22 rfl rfl (by first | exact hbx9 | (simp at hbx9 ⊢; omega)) ((H.own 1 rfl).sl.addr_ hx9)) ?_
        refine LW.pure rfl rfl (RV.load1 Tk3 rfl ((H.own 1 rfl).sl.at_ hx9) rfl) ?_
        refine LW.pure rfl rfl (RV.eqi rfl rfl) ?_
        refine LW.nil (hK12 _ _ ?_)
        by_cases hp2 : x9 = 0
        ·
          replace F := ite_y hp2 F
          have hq2 := dec_t hp2
          refine CW.condT rfl hq2 ?_
          obtain ⟨hg3, F⟩ := gd_some F
          refine CW.region ?_
          refine LW.pure rfl rfl (RV.move rfl) ?_
          refine LW.pure rfl rfl (RV.add rfl rfl hg3) ?_
          refine LW.pure rfl rfl (RV.assign rfl) ?_
          refine LW.nil ?_
          subst hrec1
          refine ⟨mk1, Nat.lt_succ_self _, _, ?_, (t6_1 + 1), t7_1, ((m2.set (Int.toNat t6_1) (x3.set (Int.toNat t7_1) (min x1 x2)))), ((l1.set (Int.toNat t6_1) (x5 - (min x1 x2)))), ((l2.set (Int.toNat t7_1) (x7 - (min x1 x2)))), F, rfl, H⟩
          exact ⟨rfl, (look_slice rfl (by first | rfl | (simp; done) | (simp; omega))), (look_slice rfl (by first | rfl | (simp; done) | (simp; omega))), (look_slice rfl (by first | rfl | (simp; done) | (simp; omega))), rfl, rfl, trivial⟩
        ·
          replace F := ite_n hp2 F
          have hq2 := dec_f hp2
          refine CW.condF rfl hq2 ?_
          obtain ⟨hg4, F⟩ := gd_some F
          refine CW.region ?_
          refine LW.pure rfl rfl (RV.move rfl) ?_
          refine LW.pure rfl rfl (RV.add rfl rfl hg4) ?_
          refine LW.pure rfl rfl (RV.assign rfl) ?_
          refine LW.nil ?_
          subst hrec1
          refine ⟨mk1, Nat.lt_succ_self _, _, ?_, t6_1, (t7_1 + 1), ((m2.set (Int.toNat t6_1) (x3.set (Int.toNat t7_1) (min x1 x2)))), ((l1.set (Int.toNat t6_1) (x5 - (min x1 x2)))), ((l2.set (Int.toNat t7_1) (x7 - (min x1 x2)))), F, rfl, H⟩
          exact ⟨rfl, (look_slice rfl (by first | rfl | (simp; done) | (simp; omega))), (look_slice rfl (by first | rfl | (simp; done) | (simp; omega))), (look_slice rfl (by first | rfl | (simp; done) | (simp; omega))), rfl, rfl, trivial⟩
      ·
        replace F := ite_n hp1 F
        have hq1 : t26_1 = false := raw_f hp1
        refine CW.condF rfl hq1 ?_
        replace H := H.pick (L' := [.tab A5_0 c5_0 22 hs5_0 3 1 (encM encN m2)]) [0] (by decide) rfl
        replace R0 := H.ext
        refine CW.exit (jK76 _ _ ⟨_, ?_, ⟨m2, F, rfl, H⟩⟩)
        exact ⟨rfl, (look_slice rfl (by first | rfl | (simp; done) | (simp; omega))), trivial⟩
    ·
      intro K13 hK13 jK98
      by_cases hp3 : t6_1 < ((l1.length : Int))
      ·
        replace F := ite_y hp3 F
        have hq3 := dec_t hp3
        refine CW.region ?_
        refine LW.pure rfl rfl (RV.move rfl) ?_
        refine LW.pure rfl rfl (RV.move rfl) ?_
        refine LW.pure rfl rfl (RV.len Ts22 rfl) ?_
        refine LW.pure rfl rfl (RV.lss rfl rfl) ?_
        refine LW.pure rfl rfl (RV.move rfl) ?_
        refine LW.pureYB rfl rfl rfl rfl hq3 (RV.move rfl) ?_
        refine LW.pureYB rfl rfl rfl rfl hq3 (RV.move rfl) ?_
        refine LW.pureYB rfl rfl rfl rfl hq3 (RV.len Ts22 rfl) ?_
        refine LW.pureYB rfl rfl rfl rfl hq3 (RV.lss rfl rfl) ?_
        refine LW.pure rfl rfl (RV.pickTB rfl hq3 rfl) ?_
        refine LW.nil (jK98 _ _ ⟨_, ?_, ⟨(decide (t7_1 < ((l2.length : Int)))), F, rfl, H⟩⟩)
        exact ⟨rfl, (look_slice rfl (by first | rfl | (simp; done) | (simp; omega))), (look_slice rfl (by first | rfl | (simp; done) | (simp; omega))), (look_slice rfl (by first | rfl | (simp; done) | (simp; omega))), rfl, rfl, rfl, trivial⟩
      ·
        replace F := ite_n hp3 F
        have hq3 := dec_f hp3
        refine CW.region ?_
        refine LW.pure rfl rfl (RV.move rfl) ?_
        refine LW.pure rfl rfl (RV.move rfl) ?_
        refine LW.pure rfl rfl (RV.len Ts22 rfl) ?_
        refine LW.pure rfl rfl (RV.lss rfl rfl) ?_
        refine LW.pure rfl rfl (RV.move rfl) ?_
        refine LW.noB rfl rfl rfl rfl (ne_beq (v := false) hq3 rfl) ?_
        refine LW.noB rfl rfl rfl rfl (ne_beq (v := false) hq3 rfl) ?_
        refine LW.noB rfl rfl rfl rfl (ne_beq (v := false) hq3 rfl) ?_
        refine LW.noB rfl rfl rfl rfl (ne_beq (v := false) hq3 rfl) ?_
        refine LW.pure rfl rfl (RV.pickFB rfl hq3 rfl) ?_
        refine LW.nil (jK98 _ _ ⟨_, ?_, ⟨false, F, rfl, H⟩⟩)
        exact ⟨rfl, (look_slice rfl (by first | rfl | (simp; done) | (simp; omega))), (look_slice rfl (by first | rfl | (simp; done) | (simp; omega))), (look_slice rfl (by first | rfl | (simp; done) | (simp; omega))), rfl, rfl, rfl, trivial⟩
set_option maxRecDepth 20000 in
set_option maxHeartbeats 1000000 in
theorem bulk_steps_ok {a0 : Trade} {a1 : List (List Int)} {A_a0_supply : Option Addr} {c_a0_supply : Nat} {A_a0_demand : Option Addr} {c_a0_demand : Nat} {A_a0_cost : Option Addr} {c_a0_cost : Nat} {A_a1 : Option Addr} {c_a1 : Nat} {w : World} {res : (List Step)} (h_a0_supply : Sl w A_a0_supply c_a0_supply 1 (a0.supply.map encN)) (h_a0_demand : Sl w A_a0_demand c_a0_demand 1 (a0.demand.map encN)) (h_a0_cost : Sl2 w A_a0_cost c_a0_cost 1 encN a0.cost) (h_a1 : Sl2 w A_a1 c_a1 1 encN a1) (F : bulk_steps a0 a1 = some res) : Calls Try.prog 92 #[.agg #[.slice A_a0_supply a0.supply.length c_a0_supply, .slice A_a0_demand a0.demand.length c_a0_demand, .slice A_a0_cost a0.cost.length c_a0_cost], .slice A_a1 a1.length c_a1] w (fun e w' => ∃ (A1 : Option Addr) (c1 : Nat), e = .returned (.slice A1 res.length c1) ∧ Hp w w' [.own A1 c1 96 1 (List.map encStep res)]) := by
  refine calls_of_cw (args := [.agg #[.slice A_a0_supply a0.supply.length c_a0_supply, .slice A_a0_demand a0.demand.length c_a0_demand, .slice A_a0_cost a0.cost.length c_a0_cost], .slice A_a1 a1.length c_a1]) Try.func92 rfl rfl rfl rfl ?_
  have H := Hp.start w
  have R0 := H.ext
  unfold bulk_steps at F
  refine CW.seq fun K1 hK1 => ?_
  refine CW.region ?_
  refine LW.go rfl rfl (OW.box rfl fun b1 w1 N1 => ?_)
  replace H := H.new N1 N1.blk
  replace R0 := H.ext
  refine LW.pure rfl rfl (RV.assign rfl) ?_
  refine LW.nil (hK1 _ _ ?_)
  refine CW.seq fun K2 hK2 => ?_
  refine CW.region ?_
  refine LW.pure rfl rfl (RV.assign rfl) ?_
  refine LW.nil (hK2 _ _ ?_)
  refine CW.seqJ (fun ρ wl1 => (∃ (l1 : List Step) (Al1 : Option Addr) (cl1 : Nat), bulk_steps_k1 l1 = some res ∧ ρ = [(4, .slice none 0 0), (5, .slice Al1 l1.length cl1)] ∧ Hp w wl1 [.own Al1 cl1 96 1 (List.map encStep l1)])) ?_ ?_
  ·
    rintro _ wl1 ⟨l1, Al1, cl1, F, rfl, H⟩
    have R0 := H.ext
    unfold bulk_steps_k1 at F
    refine CW.seq fun K3 hK3 => ?_
    refine CW.region ?_
    refine LW.pure rfl rfl (RV.move rfl) ?_
    refine LW.pure rfl rfl (RV.assign rfl) ?_
    refine LW.nil (hK3 _ _ ?_)
    refine CW.ret ?_
    obtain rfl := Option.some.inj F
    refine ⟨_, (ResOK.one rfl), ?_⟩
    exact ⟨Al1, cl1, (by first | rfl | (simp; done) | (simp; omega)), H⟩
  ·
    intro K4 hK4 jK560
    refine CW.seq fun K5 hK5 => ?_
    refine CW.region ?_
    refine LW.pure rfl rfl (RV.move rfl) ?_
    refine LW.pure rfl rfl (RV.len Ts23 rfl) ?_
    refine LW.pure rfl rfl (RV.move rfl) ?_
    refine LW.nil (hK5 _ _ ?_)
    refine CW.block ?_
    replace H := H.nilOwn 96 1
    replace R0 := H.ext
    replace H := H.pick (L' := [.own none 0 96 1 (List.map encStep (([] : List Step)))]) [0] (by decide) rfl
    replace R0 := H.ext
    refine CW.loop (fun meas ρ wl2 => ∃ (t12_1 : Int) (l5 : List Step) (Al5 : Option Addr) (cl5 : Nat), bulk_steps_L2 a1 meas t12_1 l5 = some res ∧ ρ = [(4, .slice none 0 0), (5, .slice Al5 l5.length cl5), (10, .slice A_a1 a1.length c_a1), (11, .int .i64 ((a1.length : Int))), (12, .int .i64 t12_1)] ∧ Hp w wl2 [.own Al5 cl5 96 1 (List.map encStep l5)]) FU ⟨_, ?_, ((0 : Int)), (([] : List Step)), none, 0, F, rfl, H⟩ ?_
    · exact ⟨rfl, (look_slice rfl (by first | rfl | (simp; done) | (simp; omega))), rfl, rfl, rfl, trivial⟩
    rintro mk1 _ wl2 ⟨t12_1, l5, Al5, cl5, F, rfl, H⟩
    have R0 := H.ext
    replace F := bulk_steps_L2_s F
    obtain ⟨mk1, rfl, F⟩ := F
    generalize hrec1 : bulk_steps_L2 a1 mk1 = rec1 at F
    unfold bulk_steps_B2 at F
    refine CW.seq fun K6 hK6 => ?_
    refine CW.region ?_
    refine LW.pure rfl rfl (RV.lss rfl rfl) ?_
    refine LW.nil (hK6 _ _ ?_)
    refine CW.seq fun K7 hK7 => ?_
    by_cases hp1 : t12_1 < ((a1.length : Int))
    ·
      replace F := ite_y hp1 F
      have hq1 := dec_t hp1
      refine CW.condT rfl hq1 ?_
      refine CW.skip (hK7 _ _ ?_)
      refine CW.seqJ (fun ρ wl3 => (∃ (l2 : List Step) (Al2 : Option Addr) (cl2 : Nat), bulk_steps_k2 t12_1 rec1 l2 = some res ∧ ρ = [(4, .slice none 0 0), (5, .slice Al2 l2.length cl2), (10, .slice A_a1 a1.length c_a1), (11, .int .i64 ((a1.length : Int))), (12, .int .i64 t12_1)] ∧ Hp w wl3 [.own Al2 cl2 96 1 (List.map encStep l2)])) ?_ ?_
      ·
        rintro _ wl3 ⟨l2, Al2, cl2, F, rfl, H⟩
        have R0 := H.ext
        unfold bulk_steps_k2 at F
        obtain ⟨hg1, F⟩ := gd_some F
        refine CW.region ?_
        refine LW.pure rfl rfl (RV.add rfl rfl hg1) ?_
        refine LW.pure rfl rfl (RV.move rfl) ?_
        refine LW.nil ?_
        subst hrec1
        refine ⟨mk1, Nat.lt_succ_self _, _, ?_, (t12_1 + 1), l2, Al2, cl2, F, rfl, H⟩
        exact ⟨rfl, (look_slice rfl (by first | rfl | (simp; done) | (simp; omega))), rfl, rfl, rfl, trivial⟩
      ·
        intro K8 hK8 jK715
        refine CW.block ?_
        refine CW.seq fun K9 hK9 => ?_
        obtain ⟨x1, hbx1, hx1, F⟩ := ix_some F
        refine CW.region ?_
        refine LW.pure rfl rfl (RV.move rfl) ?_
        obtain ⟨A2, c2, hC1, hS1⟩ := h_a1.at_ hx1
        refine LW.pure rfl rfl (RV.indexAddr Ts23 rfl rfl hbx1 (h_a1.addr hbx1)) ?_
        refine LW.pure rfl rfl (RV.load1 Tk22 rfl (hC1.ext R0) rfl) ?_
        refine LW.pure rfl rfl (RV.assign rfl) ?_
        refine LW.pure rfl rfl (RV.assign rfl) ?_
        refine LW.nil (hK9 _ _ ?_)
        refine CW.seq fun K10 hK10 => ?_
        refine CW.region ?_
        refine LW.pure rfl rfl (RV.move rfl) ?_
        refine LW.pure rfl rfl (RV.len Ts22 rfl) ?_
        refine LW.pure rfl rfl (RV.move rfl) ?_
        refine LW.nil (hK10 _ _ ?_)
        refine CW.block ?_
        refine CW.loop (fun meas ρ wl4 => ∃ (t19_1 : Int) (l4 : List Step) (Al4 : Option Addr) (cl4 : Nat), bulk_steps_L1 t12_1 rec1 x1 meas t19_1 l4 = some res ∧ ρ = [(4, .slice none 0 0), (5, .slice Al4 l4.length cl4), (6, .int .i64 t12_1), (10, .slice A_a1 a1.length c_a1), (11, .int .i64 ((a1.length : Int))), (12, .int .i64 t12_1), (17, .slice A2 x1.length c2), (18, .int .i64 ((x1.length : Int))), (19, .int .i64 t19_1)] ∧ Hp w wl4 [.own Al4 cl4 96 1 (List.map encStep l4)]) FU ⟨_, ?_, ((0 : Int)), l5, Al5, cl5, F, rfl, H⟩ ?_
        · exact ⟨rfl, (look_slice rfl (by first | rfl | (simp; done) | (simp; omega))), rfl, rfl, rfl, rfl, rfl, rfl, rfl, trivial⟩
        rintro mk2 _ wl4 ⟨t19_1, l4, Al4, cl4, F, rfl, H⟩
        have R0 := H.ext
        replace F := bulk_steps_L1_s F
        obtain ⟨mk2, rfl, F⟩ := F
        generalize hrec2 : bulk_steps_L1 t12_1 rec1 x1 mk2 = rec2 at F
        unfold bulk_steps_B1 at F
        refine CW.seq fun K11 hK11 => ?_
        refine CW.region ?_
        refine LW.pure rfl rfl (RV.lss rfl rfl) ?_
        refine LW.nil (hK11 _ _ ?_)
        refine CW.seq fun K12 hK12 => ?_
        by_cases hp2 : t19_1 < ((x1.length : Int))
        ·
          replace F := ite_y hp2 F
          have hq2 := dec_t hp2
          refine CW.condT rfl hq2 ?_
          refine CW.skip (hK12 _ _ ?_)
          refine CW.seqJ (fun ρ wl5 => (∃ (l3 : List Step) (Al3 : Option Addr) (cl3 : Nat), bulk_steps_k3 t19_1 rec2 l3 = some res ∧ ρ = [(4, .slice none 0 0), (5, .slice Al3 l3.length cl3), (6, .int .i64 t12_1), (10, .slice A_a1 a1.length c_a1), (11, .int .i64 ((a1.length : Int))), (12, .int .i64 t12_1), (17, .slice A2 x1.length c2), (18, .int .i64 ((x1.length : Int))), (19, .int .i64 t19_1)] ∧ Hp w wl5 [.own Al3 cl3 96 1 (List.map encStep l3)])) ?_ ?_
          ·
            rintro _ wl5 ⟨l3, Al3, cl3, F, rfl, H⟩
            have R0 := H.ext
            unfold bulk_steps_k3 at F
            obtain ⟨hg2, F⟩ := gd_some F
            refine CW.region ?_
            refine LW.pure rfl rfl (RV.add rfl rfl hg2) ?_
            refine LW.pure rfl rfl (RV.move rfl) ?_
            refine LW.nil ?_
            subst hrec2
            refine ⟨mk2, Nat.lt_succ_self _, _, ?_, (t19_1 + 1), l3, Al3, cl3, F, rfl, H⟩
            exact ⟨rfl, (look_slice rfl (by first | rfl | (simp; done) | (simp; omega))), rfl, rfl, rfl, rfl, rfl, rfl, rfl, trivial⟩
          ·
            intro K13 hK13 jK741
            refine CW.block ?_
            refine CW.seq fun K14 hK14 => ?_
            obtain ⟨x2, hbx2, hx2, F⟩ := ix_some F
            refine CW.region ?_
            refine LW.pure rfl rfl (RV.move rfl) ?_
            refine LW.pure rfl rfl (RV.indexAddr Ts22 rfl rfl hbx2 (hS1.addr_ hx2)) ?_
            refine LW.pure rfl rfl (RV.load1 Tk3 rfl ((hS1.at_ hx2).ext R0) rfl) ?_
            refine LW.pure rfl rfl (RV.assign rfl) ?_
            refine LW.pure rfl rfl (RV.assign rfl) ?_
            refine LW.nil (hK14 _ _ ?_)
            refine CW.seq fun K15 hK15 => ?_
            obtain ⟨hg3, F⟩ := gd_some F
            refine CW.region ?_
            refine LW.pure rfl rfl (RV.move rfl) ?_
            refine LW.pure rfl rfl (RV.move rfl) ?_
            refine LW.pure rfl rfl (RV.move rfl) ?_
            refine LW.pure rfl rfl (RV.build (vs := [.int .i64 t12_1, .int .i64 t19_1]) (cs := [.int .i64 t12_1, .int .i64 t19_1]) rfl (fun _ => by kernel_rfl)) ?_
            refine LW.pure rfl rfl (RV.mkIface Try.underlying104 rfl rfl) ?_
            refine LW.go rfl rfl (OW.buildSlice (e := 96) (vs := [.iface 104 (.agg #[.int .i64 t12_1, .int .i64 t19_1])]) (cs := [.iface 104 (.agg #[.int .i64 t12_1, .int .i64 t19_1])]) rfl (fun _ => by generalize ((Step.i_more ((⟨t12_1, t19_1⟩ : More)))) = q0; cases q0 <;> kernel_rfl) fun b2 w2 N2 => ?_)
            replace H := H.made' (k := 1) (t := 96) (enc := encStep) (l := ([(Step.i_more ((⟨t12_1, t19_1⟩ : More)))] : List Step)) N2 N2.blk (fun _ => rfl) rfl (by first | decide | omega | (simp; done) | (simp; omega))
            replace R0 := H.ext
            refine LW.go rfl rfl (OW.appendG (enc := encStep) (l := l4) (xs := ([(Step.i_more ((⟨t12_1, t19_1⟩ : More)))] : List Step)) Ts82 rfl (look_slice rfl (by first | rfl | (simp; done) | (simp; omega))) (H.own 1 rfl) (H.own 0 rfl).sl (fun u => by cases u <;> rfl) rfl rfl hg3 (by decide) fun A3 c3 w3 O1 M1 D1 => ?_)
            replace H : Hp w w3 [.own (some ⟨b2, 0, none⟩) ((([(Step.i_more ((⟨t12_1, t19_1⟩ : More)))] : List Step)).length) 96 1 (List.map encStep (([(Step.i_more ((⟨t12_1, t19_1⟩ : More)))] : List Step))), .own A3 c3 96 1 (List.map encStep ((l4 ++ ([(Step.i_more ((⟨t12_1, t19_1⟩ : More)))] : List Step))))] := H.mod 1 rfl M1 O1 D1
            replace R0 := H.ext
            refine LW.pure rfl rfl (RV.assign rfl) ?_
            refine LW.nil (hK15 _ _ ?_)
            refine CW.seq fun K16 hK16 => ?_
            refine CW.region ?_
            refine LW.pure rfl rfl (RV.move rfl) ?_
            refine LW.pure rfl rfl (RV.gtr rfl rfl) ?_
            refine LW.nil (hK16 _ _ ?_)
            by_cases hp3 : (0 : Int) < x2
            ·
              replace F := ite_y hp3 F
              have hq3 := dec_t hp3
              refine CW.condT rfl hq3 ?_
              obtain ⟨hg4, F⟩ := gd_some F
              refine CW.region ?_
              refine LW.pure rfl rfl (RV.move rfl) ?_
              refine LW.pure rfl rfl (RV.move rfl) ?_
              refine LW.pure rfl rfl (RV.move rfl) ?_
              refine LW.pure rfl rfl (RV.build (vs := [.int .i64 t12_1, .int .i64 t19_1]) (cs := [.int .i64 t12_1, .int .i64 t19_1]) rfl (fun _ => by kernel_rfl)) ?_
              refine LW.pure rfl rfl (RV.mkIface Try.underlying102 rfl rfl) ?_
              refine LW.go rfl rfl (OW.buildSlice (e := 96) (vs := [.iface 102 (.agg #[.int .i64 t12_1, .int .i64 t19_1])]) (cs := [.iface 102 (.agg #[.int .i64 t12_1, .int .i64 t19_1])]) rfl (fun _ => by generalize ((Step.i_less ((⟨t12_1, t19_1⟩ : Less)))) = q0; cases q0 <;> kernel_rfl) fun b3 w4 N3 => ?_)
              replace H := H.made' (k := 1) (t := 96) (enc := encStep) (l := ([(Step.i_less ((⟨t12_1, t19_1⟩ : Less)))] : List Step)) N3 N3.blk (fun _ => rfl) rfl (by first | decide | omega | (simp; done) | (simp; omega))
              replace R0 := H.ext
              refine LW.go rfl rfl (OW.appendG (enc := encStep) (l := (l4 ++ ([(Step.i_more ((⟨t12_1, t19_1⟩ : More)))] : List Step))) (xs := ([(Step.i_less ((⟨t12_1, t19_1⟩ : Less)))] : List Step)) Ts82 rfl (look_slice rfl (by first | rfl | (simp; done) | (simp; omega))) (H.own 2 rfl) (H.own 0 rfl).sl (fun u => by cases u <;> rfl) rfl rfl hg4 (by decide) fun A4 c4 w5 O2 M2 D2 => ?_)
              replace H : Hp w w5 [.own (some ⟨b3, 0, none⟩) ((([(Step.i_less ((⟨t12_1, t19_1⟩ : Less)))] : List Step)).length) 96 1 (List.map encStep (([(Step.i_less ((⟨t12_1, t19_1⟩ : Less)))] : List Step))), .own (some ⟨b2, 0, none⟩) ((([(Step.i_more ((⟨t12_1, t19_1⟩ : More)))] : List Step)).length) 96 1 (List.map encStep (([(Step.i_more ((⟨t12_1, t19_1⟩ : More)))] : List Step))), .own A4 c4 96 1 (List.map encStep (((l4 ++ ([(Step.i_more ((⟨t12_1, t19_1⟩ : More)))] : List Step)) ++ ([(Step.i_less ((⟨t12_1, t19_1⟩ : Less)))] : List Step))))] := H.mod 2 rfl M2 O2 D2
              replace R0 := H.ext
              refine LW.pure rfl rfl (RV.assign rfl) ?_
              replace H := H.pick (L' := [.own A4 c4 96 1 (List.map encStep (((l4 ++ ([(Step.i_more ((⟨t12_1, t19_1⟩ : More)))] : List Step)) ++ ([(Step.i_less ((⟨t12_1, t19_1⟩ : Less)))] : List Step))))]) [2] (by decide) rfl
              replace R0 := H.ext
              refine LW.nil (jK741 _ _ ⟨_, ?_, ⟨(((l4 ++ ([(Step.i_more ((⟨t12_1, t19_1⟩ : More)))] : List Step)) ++ ([(Step.i_less ((⟨t12_1, t19_1⟩ : Less)))] : List Step))), A4, c4, F, rfl, H⟩⟩)
              exact ⟨rfl, (look_slice rfl (by first | rfl | (simp; done) | (simp; omega))), rfl, rfl, rfl, rfl, rfl, rfl, rfl, trivial⟩
            ·
              replace F := ite_n hp3 F
              have hq3 := dec_f hp3
              refine CW.condF rfl hq3 ?_
              replace H := H.pick (L' := [.own A3 c3 96 1 (List.map encStep ((l4 ++ ([(Step.i_more ((⟨t12_1, t19_1⟩ : More)))] : List Step))))]) [1] (by decide) rfl
              replace R0 := H.ext
              refine CW.skip (jK741 _ _ ⟨_, ?_, ⟨((l4 ++ ([(Step.i_more ((⟨t12_1, t19_1⟩ : More)))] : List Step))), A3, c3, F, rfl, H⟩⟩)
              exact ⟨rfl, (look_slice rfl (by first | rfl | (simp; done) | (simp; omega))), rfl, rfl, rfl, rfl, rfl, rfl, rfl, trivial⟩
        ·
          replace F := ite_n hp2 F
          have hq2 := dec_f hp2
          refine CW.condF rfl hq2 ?_
          refine CW.exit (jK715 _ _ ⟨_, ?_, ⟨l4, Al4, cl4, F, rfl, H⟩⟩)
          exact ⟨rfl, (look_slice rfl (by first | rfl | (simp; done) | (simp; omega))), rfl, rfl, rfl, trivial⟩
    ·
      replace F := ite_n hp1 F
      have hq1 := dec_f hp1
      refine CW.condF rfl hq1 ?_
      refine CW.exit (jK560 _ _ ⟨_, ?_, ⟨l5, Al5, cl5, F, rfl, H⟩⟩)
      exact ⟨rfl, (look_slice rfl (by first | rfl | (simp; done) | (simp; omega))), trivial⟩
end Go.D7

set_option linter.unusedVariables false
set_option linter.unusedSimpArgs false
namespace Go.D7
open Go.Tb Go.Proofs Go.RowKit
theorem Tc116 : callable Try.prog 116 = true := by kernel_rfl
theorem Tc117 : callable Try.prog 117 = true := by kernel_rfl
theorem Tc92 : callable Try.prog 92 = true := by kernel_rfl
theorem Tc93 : callable Try.prog 93 = true := by kernel_rfl
theorem Tc94 : callable Try.prog 94 = true := by kernel_rfl
theorem Tf102_0 : tyF Try.prog 102 0 = some 0 := by kernel_rfl
theorem Tf102_1 : tyF Try.prog 102 1 = some 1 := by kernel_rfl
theorem Tf104_0 : tyF Try.prog 104 0 = some 0 := by kernel_rfl
theorem Tf104_1 : tyF Try.prog 104 1 = some 1 := by kernel_rfl
theorem Tk102 : tyK Try.prog 102 = some (true, 2) := by kernel_rfl
theorem Tk104 : tyK Try.prog 104 = some (true, 2) := by kernel_rfl
theorem Tk96 : tyK Try.prog 96 = some (false, 1) := by kernel_rfl
theorem Tz102 : tyZ Try.prog 102 = some (.agg #[.int .i64 0, .int .i64 0]) := by kernel_rfl
theorem Tz104 : tyZ Try.prog 104 = some (.agg #[.int .i64 0, .int .i64 0]) := by kernel_rfl
theorem AI96_102 (x : Step) : AssertM Try.prog 102 (encStepV x) (.tuple #[.agg #[.int .i64 (((Step.asLess x)).store), .int .i64 (((Step.asLess x)).buyer)], .bool (Step.isLess x)]) := by
  cases x with
  | nil => exact AssertM.nil Try.underlying102 rfl Tz102
  | i_less y => exact AssertM.yes Try.underlying102 rfl
  | i_more y => exact AssertM.no Try.underlying102 rfl Tz102 (by decide)
theorem AI96_104 (x : Step) : AssertM Try.prog 104 (encStepV x) (.tuple #[.agg #[.int .i64 (((Step.asMore x)).store), .int .i64 (((Step.asMore x)).buyer)], .bool (Step.isMore x)]) := by
  cases x with
  | nil => exact AssertM.nil Try.underlying104 rfl Tz104
  | i_less y => exact AssertM.no Try.underlying104 rfl Tz104 (by decide)
  | i_more y => exact AssertM.yes Try.underlying104 rfl
set_option maxRecDepth 20000 in
set_option maxHeartbeats 1000000 in
theorem bulk_ends_ok {a0 : Trade} {a1 : Step} {A_a0_supply : Option Addr} {c_a0_supply : Nat} {A_a0_demand : Option Addr} {c_a0_demand : Nat} {A_a0_cost : Option Addr} {c_a0_cost : Nat} {w : World} {res : Int × Int} (h_a0_supply : Sl w A_a0_supply c_a0_supply 1 (a0.supply.map encN)) (h_a0_demand : Sl w A_a0_demand c_a0_demand 1 (a0.demand.map encN)) (h_a0_cost : Sl2 w A_a0_cost c_a0_cost 1 encN a0.cost) (F : bulk_ends a0 a1 = some res) : Calls Try.prog 93 #[.agg #[.slice A_a0_supply a0.supply.length c_a0_supply, .slice A_a0_demand a0.demand.length c_a0_demand, .slice A_a0_cost a0.cost.length c_a0_cost], encStepV a1] w (Rt w (.tuple #[.int .i64 res.1, .int .i64 res.2])) := by
  refine calls_of_cw (args := [.agg #[.slice A_a0_supply a0.supply.length c_a0_supply, .slice A_a0_demand a0.demand.length c_a0_demand, .slice A_a0_cost a0.cost.length c_a0_cost], encStepV a1]) Try.func93 rfl rfl rfl rfl ?_
  have H := Hp.start w
  have R0 := H.ext
  unfold bulk_ends at F
  refine CW.seq fun K1 hK1 => ?_
  refine CW.region ?_
  refine LW.go rfl rfl (OW.box rfl fun b1 w1 N1 => ?_)
  replace H := H.new N1 N1.blk
  replace R0 := H.ext
  refine LW.pure rfl rfl (RV.assign rfl) ?_
  refine LW.pure rfl rfl (RV.assign rfl) ?_
  refine LW.nil (hK1 _ _ ?_)
  refine CW.seq fun K2 hK2 => ?_
  refine CW.seq fun K3 hK3 => ?_
  refine CW.region ?_
  refine LW.pure rfl rfl (RV.move rfl) ?_
  refine LW.nil (hK3 _ _ ?_)
  refine CW.block ?_
  refine CW.seq fun K4 hK4 => ?_
  refine CW.region ?_
  refine LW.pure rfl rfl (RV.assertM rfl (AI96_104 a1)) ?_
  refine LW.pure rfl rfl (RV.extract rfl rfl) ?_
  refine LW.pure rfl rfl (RV.extract rfl rfl) ?_
  refine LW.nil (hK4 _ _ ?_)
  by_cases hp1 : ((Step.isMore a1)) = true
  ·
    replace F := ite_y hp1 F
    have hq1 : ((Step.isMore a1)) = true := hp1
    refine CW.condT rfl hq1 ?_
    refine CW.seq fun K5 hK5 => ?_
    refine CW.region ?_
    refine LW.go rfl rfl (OW.alloc Tz104 fun b2 w2 N2 => ?_)
    replace H := H.new N2 N2.blk
    replace R0 := H.ext
    refine LW.go rfl rfl (OW.store Tk104 rfl rfl (H.blk 0 rfl) (off := 0) (vs := [.int .i64 (((Step.asMore a1)).store), .int .i64 (((Step.asMore a1)).buyer)]) rfl rfl rfl rfl rfl fun w3 S1 => ?_)
    replace H : Hp w w3 [.blk b2 104 [.int .i64 (((Step.asMore a1)).store), .int .i64 (((Step.asMore a1)).buyer)], .blk b1 25 [.slice A_a0_supply a0.supply.length c_a0_supply, .slice A_a0_demand a0.demand.length c_a0_demand, .slice A_a0_cost a0.cost.length c_a0_cost]] := H.stored 0 rfl S1
    replace R0 := H.ext
    refine LW.nil (hK5 _ _ ?_)
    refine CW.seq fun K6 hK6 => ?_
    obtain ⟨hg1, F⟩ := gd_some F
    refine CW.draw [] (fun _ => True) (.cons 0 1 (.cons 1 1 (.cons 2 1 (.cons 3 1 (.cons 4 1 (.cons 5 1 (.cons 6 1 (.cons 7 1 (.cons 8 1 (.cons 9 1 .nil)))))))))) mixed (by kernel_rfl) fun w4 E1 => ?_
    replace H := H.grow E1
    replace R0 := H.ext
    refine DW.fix rfl rfl rfl (fun _ EQ => RV.fieldAddr Tf104_0 rfl) ?_
    refine DW.fix rfl rfl rfl (fun _ EQ => RV.load1 Tk3 rfl (((H.grow EQ).blk 0 rfl).cells.off 0) rfl) ?_
    refine DW.fix rfl rfl rfl (fun _ EQ => RV.fieldAddr Tf25_0 rfl) ?_
    refine DW.fix rfl rfl rfl (fun _ EQ => RV.load1 Tk22 rfl (((H.grow EQ).blk 1 rfl).cells.off 0) rfl) ?_
    refine DW.fix rfl rfl rfl (fun _ EQ => RV.len Ts22 rfl) ?_
    refine DW.fix rfl rfl rfl (fun _ EQ => RV.fieldAddr Tf104_1 rfl) ?_
    refine DW.fix rfl rfl rfl (fun _ EQ => RV.load1 Tk3 rfl (((H.grow EQ).blk 0 rfl).cells.off 1) rfl) ?_
    refine DW.fix rfl rfl rfl (fun _ EQ => RV.add rfl rfl hg1) ?_
    refine DW.fix rfl rfl rfl (fun _ EQ => RV.assign rfl) ?_
    refine DW.fix rfl rfl rfl (fun _ EQ => RV.assign rfl) ?_
    refine DW.nil (hK6 _ _ ?_)
    refine CW.ret ?_
    obtain rfl := Option.some.inj F
    refine ⟨_, (ResOK.two rfl rfl), ?_⟩
    refine ⟨(by first | rfl | simp), R0⟩
  ·
    replace F := ite_n hp1 F
    have hq1 : ((Step.isMore a1)) = false := raw_f hp1
    refine CW.condF rfl hq1 ?_
    refine CW.seq fun K7 hK7 => ?_
    refine CW.region ?_
    refine LW.pure rfl rfl (RV.assertM rfl (AI96_102 a1)) ?_
    refine LW.pure rfl rfl (RV.extract rfl rfl) ?_
    refine LW.pure rfl rfl (RV.extract rfl rfl) ?_
    refine LW.nil (hK7 _ _ ?_)
    by_cases hp2 : ((Step.isLess a1)) = true
    ·
      replace F := ite_y hp2 F
      have hq2 : ((Step.isLess a1)) = true := hp2
      refine CW.condT rfl hq2 ?_
      refine CW.seq fun K8 hK8 => ?_
      refine CW.region ?_
      refine LW.go rfl rfl (OW.alloc Tz102 fun b3 w5 N3 => ?_)
      replace H := H.new N3 N3.blk
      replace R0 := H.ext
      refine LW.go rfl rfl (OW.store Tk102 rfl rfl (H.blk 0 rfl) (off := 0) (vs := [.int .i64 (((Step.asLess a1)).store), .int .i64 (((Step.asLess a1)).buyer)]) rfl rfl rfl rfl rfl fun w6 S2 => ?_)
      replace H : Hp w w6 [.blk b3 102 [.int .i64 (((Step.asLess a1)).store), .int .i64 (((Step.asLess a1)).buyer)], .blk b1 25 [.slice A_a0_supply a0.supply.length c_a0_supply, .slice A_a0_demand a0.demand.length c_a0_demand, .slice A_a0_cost a0.cost.length c_a0_cost]] := H.stored 0 rfl S2
      replace R0 := H.ext
      refine LW.nil (hK8 _ _ ?_)
      refine CW.seq fun K9 hK9 => ?_
      obtain ⟨hg2, F⟩ := gd_some F
      refine CW.draw [] (fun _ => True) (.cons 0 1 (.cons 1 1 (.cons 2 1 (.cons 3 1 (.cons 4 1 (.cons 5 1 (.cons 6 1 (.cons 7 1 (.cons 8 1 (.cons 9 1 .nil)))))))))) mixed (by kernel_rfl) fun w7 E2 => ?_
      replace H := H.grow E2
      replace R0 := H.ext
      refine DW.fix rfl rfl rfl (fun _ EQ => RV.fieldAddr Tf25_0 rfl) ?_
      refine DW.fix rfl rfl rfl (fun _ EQ => RV.load1 Tk22 rfl (((H.grow EQ).blk 1 rfl).cells.off 0) rfl) ?_
      refine DW.fix rfl rfl rfl (fun _ EQ => RV.len Ts22 rfl) ?_
      refine DW.fix rfl rfl rfl (fun _ EQ => RV.fieldAddr Tf102_1 rfl) ?_
      refine DW.fix rfl rfl rfl (fun _ EQ => RV.load1 Tk3 rfl (((H.grow EQ).blk 0 rfl).cells.off 1) rfl) ?_
      refine DW.fix rfl rfl rfl (fun _ EQ => RV.add rfl rfl hg2) ?_
      refine DW.fix rfl rfl rfl (fun _ EQ => RV.fieldAddr Tf102_0 rfl) ?_
      refine DW.fix rfl rfl rfl (fun _ EQ => RV.load1 Tk3 rfl (((H.grow EQ).blk 0 rfl).cells.off 0) rfl) ?_
      refine DW.fix rfl rfl rfl (fun _ EQ => RV.assign rfl) ?_
      refine DW.fix rfl rfl rfl (fun _ EQ => RV.assign rfl) ?_
      refine DW.nil (hK9 _ _ ?_)
      refine CW.ret ?_
      obtain rfl := Option.some.inj F
      refine ⟨_, (ResOK.two rfl rfl), ?_⟩
      refine ⟨(by first | rfl | simp), R0⟩
    ·
      replace F := ite_n hp2 F
      have hq2 : ((Step.isLess a1)) = false := raw_f hp2
      refine CW.condF rfl hq2 ?_
      refine CW.skip (hK2 _ _ ?_)
      refine CW.seq fun K10 hK10 => ?_
      refine CW.region ?_
      refine LW.pure rfl rfl (RV.assign rfl) ?_
      refine LW.pure rfl rfl (RV.assign rfl) ?_
      refine LW.nil (hK10 _ _ ?_)
      refine CW.ret ?_
      obtain rfl := Option.some.inj F
      refine ⟨_, (ResOK.two rfl rfl), ?_⟩
      refine ⟨(by first | rfl | simp), R0⟩
set_option maxRecDepth 20000 in
set_option maxHeartbeats 1000000 in
theorem bulk_less_cost_ok {a0 : Less} {a1 : Trade} {A_a1_supply : Option Addr} {c_a1_supply : Nat} {A_a1_demand : Option Addr} {c_a1_demand : Nat} {A_a1_cost : Option Addr} {c_a1_cost : Nat} {w : World} {res : Int} (h_a1_supply : Sl w A_a1_supply c_a1_supply 1 (a1.supply.map encN)) (h_a1_demand : Sl w A_a1_demand c_a1_demand 1 (a1.demand.map encN)) (h_a1_cost : Sl2 w A_a1_cost c_a1_cost 1 encN a1.cost) (F : bulk_less_cost a0 a1 = some res) : Calls Try.prog 116 #[.agg #[.int .i64 a0.store, .int .i64 a0.buyer], .agg #[.slice A_a1_supply a1.supply.length c_a1_supply, .slice A_a1_demand a1.demand.length c_a1_demand, .slice A_a1_cost a1.cost.length c_a1_cost]] w (Rt w (.int .i64 res)) := by
  refine calls_of_cw (args := [.agg #[.int .i64 a0.store, .int .i64 a0.buyer], .agg #[.slice A_a1_supply a1.supply.length c_a1_supply, .slice A_a1_demand a1.demand.length c_a1_demand, .slice A_a1_cost a1.cost.length c_a1_cost]]) Try.func116 rfl rfl rfl rfl ?_
  have H := Hp.start w
  have R0 := H.ext
  unfold bulk_less_cost at F
  refine CW.seq fun K1 hK1 => ?_
  refine CW.region ?_
  refine LW.go rfl rfl (OW.box rfl fun b1 w1 N1 => ?_)
  replace H := H.new N1 N1.blk
  replace R0 := H.ext
  refine LW.go rfl rfl (OW.box rfl fun b2 w2 N2 => ?_)
  replace H := H.new N2 N2.blk
  replace R0 := H.ext
  refine LW.pure rfl rfl (RV.assign rfl) ?_
  refine LW.nil (hK1 _ _ ?_)
  refine CW.seq fun K2 hK2 => ?_
  obtain ⟨x1, hbx1, hx1, F⟩ := ix_some F
  obtain ⟨x2, hbx2, hx2, F⟩ := ix_some F
  obtain ⟨hg1, F⟩ := gd_some F
  refine CW.draw [] (fun _ => True) (.cons 0 1 (.cons 1 1 (.cons 2 1 (.cons 3 1 (.cons 4 1 (.cons 5 1 (.cons 6 1 (.cons 7 1 (.cons 8 1 (.cons 9 1 (.cons 10 1 (.cons 11 1 .nil)))))))))))) mixed (by kernel_rfl) fun w3 E1 => ?_
  replace H := H.grow E1
  replace R0 := H.ext
  refine DW.fix rfl rfl rfl (fun _ EQ => RV.fieldAddr Tf25_2 rfl) ?_
  refine DW.fix rfl rfl rfl (fun _ EQ => RV.load1 Tk23 rfl (((H.grow EQ).blk 0 rfl).cells.off 2) rfl) ?_
  refine DW.fix rfl rfl rfl (fun _ EQ => RV.fieldAddr Tf102_0 rfl) ?_
  refine DW.fix rfl rfl rfl (fun _ EQ => RV.load1 Tk3 rfl (((H.grow EQ).blk 1 rfl).cells.off 0) rfl) ?_
  obtain ⟨A1, c1, hC1, hS1⟩ := h_a1_cost.at_ hx1
  refine DW.fix rfl rfl rfl (fun _ EQ => RV.indexAddr Ts23 rfl rfl hbx1 (h_a1_cost.addr hbx1)) ?_
  refine DW.fix rfl rfl rfl (fun _ EQ => RV.load1 Tk22 rfl (hC1.ext (R0.trans EQ)) rfl) ?_
  refine DW.fix rfl rfl rfl (fun _ EQ => RV.fieldAddr Tf102_1 rfl) ?_
  refine DW.fix rfl rfl rfl (fun _ EQ => RV.load1 Tk3 rfl (((H.grow EQ).blk 1 rfl).cells.off 1) rfl) ?_
  refine DW.fix rfl rfl rfl (fun _ EQ => RV.indexAddr Ts22 rfl rfl hbx2 (hS1.addr_ hx2)) ?_
  refine DW.fix rfl rfl rfl (fun _ EQ => RV.load1 Tk3 rfl ((hS1.at_ hx2).ext (R0.trans EQ)) rfl) ?_
  refine DW.fix rfl rfl rfl (fun _ EQ => RV.neg rfl hg1) ?_
  refine DW.fix rfl rfl rfl (fun _ EQ => RV.assign rfl) ?_
  refine DW.nil (hK2 _ _ ?_)
  refine CW.ret ?_
  obtain rfl := Option.some.inj F
  refine ⟨_, (ResOK.one rfl), ?_⟩
  refine ⟨(by first | rfl | simp), R0⟩
set_option maxRecDepth 20000 in
set_option maxHeartbeats 1000000 in
theorem bulk_more_cost_ok {a0 : More} {a1 : Trade} {A_a1_supply : Option Addr} {c_a1_supply : Nat} {A_a1_demand : Option Addr} {c_a1_demand : Nat} {A_a1_cost : Option Addr} {c_a1_cost : Nat} {w : World} {res : Int} (h_a1_supply : Sl w A_a1_supply c_a1_supply 1 (a1.supply.map encN)) (h_a1_demand : Sl w A_a1_demand c_a1_demand 1 (a1.demand.map encN)) (h_a1_cost : Sl2 w A_a1_cost c_a1_cost 1 encN a1.cost) (F : bulk_more_cost a0 a1 = some res) : Calls Try.prog 117 #[.agg #[.int .i64 a0.store, .int .i64 a0.buyer], .agg #[.slice A_a1_supply a1.supply.length c_a1_supply, .slice A_a1_demand a1.demand.length c_a1_demand, .slice A_a1_cost a1.cost.length c_a1_cost]] w (Rt w (.int .i64 res)) := by
  refine calls_of_cw (args := [.agg #[.int .i64 a0.store, .int .i64 a0.buyer], .agg #[.slice A_a1_supply a1.supply.length c_a1_supply, .slice A_a1_demand a1.demand.length c_a1_demand, .slice A_a1_cost a1.cost.length c_a1_cost]]) Try.func117 rfl rfl rfl rfl ?_
  have H := Hp.start w
  have R0 := H.ext
  unfold bulk_more_cost at F
  refine CW.seq fun K1 hK1 => ?_
  refine CW.region ?_
  refine LW.go rfl rfl (OW.box rfl fun b1 w1 N1 => ?_)
  replace H := H.new N1 N1.blk
  replace R0 := H.ext
  refine LW.go rfl rfl (OW.box rfl fun b2 w2 N2 => ?_)
  replace H := H.new N2 N2.blk
  replace R0 := H.ext
  refine LW.pure rfl rfl (RV.assign rfl) ?_
  refine LW.nil (hK1 _ _ ?_)
  refine CW.seq fun K2 hK2 => ?_
  obtain ⟨x1, hbx1, hx1, F⟩ := ix_some F
  obtain ⟨x2, hbx2, hx2, F⟩ := ix_some F
  refine CW.draw [] (fun _ => True) (.cons 0 1 (.cons 1 1 (.cons 2 1 (.cons 3 1 (.cons 4 1 (.cons 5 1 (.cons 6 1 (.cons 7 1 (.cons 8 1 (.cons 9 1 (.cons 10 1 .nil))))))))))) mixed (by kernel_rfl) fun w3 E1 => ?_
  replace H := H.grow E1
  replace R0 := H.ext
  refine DW.fix rfl rfl rfl (fun _ EQ => RV.fieldAddr Tf25_2 rfl) ?_
  refine DW.fix rfl rfl rfl (fun _ EQ => RV.load1 Tk23 rfl (((H.grow EQ).blk 0 rfl).cells.off 2) rfl) ?_
  refine DW.fix rfl rfl rfl (fun _ EQ => RV.fieldAddr Tf104_0 rfl) ?_
  refine DW.fix rfl rfl rfl (fun _ EQ => RV.load1 Tk3 rfl (((H.grow EQ).blk 1 rfl).cells.off 0) rfl) ?_
  obtain ⟨A1, c1, hC1, hS1⟩ := h_a1_cost.at_ hx1
  refine DW.fix rfl rfl rfl (fun _ EQ => RV.indexAddr Ts23 rfl rfl hbx1 (h_a1_cost.addr hbx1)) ?_
  refine DW.fix rfl rfl rfl (fun _ EQ => RV.load1 Tk22 rfl (hC1.ext (R0.trans EQ)) rfl) ?_
  refine DW.fix rfl rfl rfl (fun _ EQ => RV.fieldAddr Tf104_1 rfl) ?_
  refine DW.fix rfl rfl rfl (fun _ EQ => RV.load1 Tk3 rfl (((H.grow EQ).blk 1 rfl).cells.off 1) rfl) ?_
  refine DW.fix rfl rfl rfl (fun _ EQ => RV.indexAddr Ts22 rfl rfl hbx2 (hS1.addr_ hx2)) ?_
  refine DW.fix rfl rfl rfl (fun _ EQ => RV.load1 Tk3 rfl ((hS1.at_ hx2).ext (R0.trans EQ)) rfl) ?_
  refine DW.fix rfl rfl rfl (fun _ EQ => RV.assign rfl) ?_
  refine DW.nil (hK2 _ _ ?_)
  refine CW.ret ?_
  obtain rfl := Option.some.inj F
  refine ⟨_, (ResOK.one rfl), ?_⟩
  refine ⟨(by first | rfl | simp), R0⟩
set_option maxRecDepth 20000 in
set_option maxHeartbeats 1000000 in
theorem slices_Reverse_step_ok {a0 : List Step} {A_a0 : Option Addr} {c_a0 : Nat} {wb : World} {R : List Ck} {w : World} {res : (List Step)} (H : Hp wb w ([.own A_a0 c_a0 96 1 (List.map encStep a0)] ++ R)) (F : slices_Reverse_step a0 = some res) : Calls Try.prog 94 #[.slice A_a0 a0.length c_a0] w (fun e w' => e = .returned (.tuple #[]) ∧ res.length = a0.length ∧ Hp wb w' ([.own A_a0 c_a0 96 1 (List.map encStep res)] ++ R)) := by
  refine calls_of_cw (args := [.slice A_a0 a0.length c_a0]) Try.func94 rfl rfl rfl rfl ?_
  have R0 := H.ext
  unfold slices_Reverse_step at F
  refine CW.seq fun K1 hK1 => ?_
  obtain ⟨hg1, F⟩ := gd_some F
  refine CW.region ?_
  refine LW.pure rfl rfl (RV.move rfl) ?_
  refine LW.pure rfl rfl (RV.len Ts82 rfl) ?_
  refine LW.pure rfl rfl (RV.sub rfl rfl hg1) ?_
  refine LW.pure rfl rfl (RV.assign rfl) ?_
  refine LW.pure rfl rfl (RV.assign rfl) ?_
  refine LW.nil (hK1 _ _ ?_)
  refine CW.block ?_
  refine CW.loop (fun meas ρ wl1 => ∃ (t2_1 : Int) (t3_1 : Int) (l1 : List Step), slices_Reverse_step_L1 meas t2_1 t3_1 l1 = some res ∧ ρ = [(0, .slice A_a0 l1.length c_a0), (2, .int .i64 t2_1), (3, .int .i64 t3_1)] ∧ Hp wb wl1 ([.own A_a0 c_a0 96 1 (List.map encStep l1)] ++ R) ∧ l1.length = a0.length) FU ⟨_, ?_, ((0 : Int)), (((a0.length : Int)) - 1), a0, F, rfl, H, (show a0.length = a0.length by first | rfl | assumption | omega | (simp; done) | (simp; assumption) | (simp; omega))⟩ ?_
  · exact ⟨(look_slice rfl (by first | rfl | (simp; done) | (simp; omega))), rfl, rfl, trivial⟩
  rintro mk1 _ wl1 ⟨t2_1, t3_1, l1, F, rfl, H, hl1⟩
  have R0 := H.ext
  replace F := slices_Reverse_step_L1_s F
  obtain ⟨mk1, rfl, F⟩ := F
  generalize hrec1 : slices_Reverse_step_L1 mk1 = rec1 at F
  unfold slices_Reverse_step_B1 at F
  refine CW.seq fun K2 hK2 => ?_
  refine CW.seq fun K3 hK3 => ?_
  refine CW.region ?_
  refine LW.pure rfl rfl (RV.move rfl) ?_
  refine LW.pure rfl rfl (RV.move rfl) ?_
  refine LW.pure rfl rfl (RV.lss rfl rfl) ?_
  refine LW.nil (hK3 _ _ ?_)
  by_cases hp1 : t2_1 < t3_1
  ·
    replace F := ite_y hp1 F
    have hq1 := dec_t hp1
    refine CW.condT rfl hq1 ?_
    refine CW.skip (hK2 _ _ ?_)
    refine CW.seq fun K4 hK4 => ?_
    refine CW.block ?_
    obtain ⟨x1, hbx1, hx1, F⟩ := ix_some F
    obtain ⟨x2, hbx2, hx2, F⟩ := ix_some F
    obtain ⟨x3, hbx3, hx3, F⟩ := ix_some F
    obtain ⟨x4, hbx4, hx4, F⟩ := ix_some F
    refine CW.draw [13, 15] (fun _ => True) (.cons 0 1 (.cons 1 1 (.cons 4 1 (.cons 5 1 (.cons 6 1 (.cons 7 1 (.cons 2 2 (.cons 3 2 (.cons 8 2 (.cons 9 2 (.cons 10 2 (.cons 11 1 (.cons 12 1 (.cons 13 0 (.cons 14 2 (.cons 15 0 .nil)))))))))))))))) mixed (by kernel_rfl) fun w1 E1 => ?_
    replace H := H.grow E1
    replace R0 := H.ext
    refine DW.fix rfl rfl rfl (fun _ EQ => RV.move rfl) ?_
    refine DW.fix rfl rfl rfl (fun _ EQ => RV.move rfl) ?_
    refine DW.fix rfl rfl rfl (fun _ EQ => RV.move rfl) ?_
    refine DW.fix rfl rfl rfl (fun _ EQ => RV.move rfl) ?_
    refine DW.fix rfl rfl rfl (fun _ EQ => RV.indexAddr Ts82 rfl rfl hbx1 ((H.own 0 rfl).sl.addr_ hx1)) ?_
    refine DW.fix rfl rfl rfl (fun _ EQ => RV.load1 Tk96 rfl (((H.grow EQ).own 0 rfl).sl.at_ hx1) rfl) ?_
    refine DW.thru rfl rfl rfl (fun _ EQ => RV.move rfl) ?_
    refine DW.thru rfl rfl rfl (fun _ EQ => RV.move rfl) ?_
    refine DW.thru rfl rfl rfl (fun _ EQ => RV.move rfl) ?_
    refine DW.thru rfl rfl rfl (fun _ EQ => RV.move rfl) ?_
    refine DW.thru rfl rfl rfl (fun _ EQ => RV.indexAddr Ts82 rfl rfl hbx2 ((H.own 0 rfl).sl.addr_ hx2)) ?_
    refine DW.fix rfl rfl rfl (fun _ EQ => RV.load1 Tk96 rfl (((H.grow EQ).own 0 rfl).sl.at_ hx2) rfl) ?_
    refine DW.fix rfl rfl rfl (fun _ EQ => RV.indexAddr Ts82 rfl rfl hbx3 ((H.own 0 rfl).sl.addr_ hx3)) ?_
    refine DW.sole rfl rfl rfl (OW.storeO (enc := encStep) (vs := [encStepV x1]) 0 (x1) Tk96 rfl rfl (H.own 0 rfl) (fun _ => rfl) rfl hx3 (by generalize x1 = q; cases q <;> rfl) rfl (by decide) (by generalize x1 = q; cases q <;> rfl) rfl fun w2 M1 O1 => ?_)
    refine ⟨fun h => absurd h (by decide), M1.modx (fun _ _ => trivial), ?_⟩
    replace H : Hp wb w2 ([.own A_a0 c_a0 96 1 (List.map encStep ((l1.set (Int.toNat t2_1) x1)))] ++ R) := H.mod 0 rfl M1 O1 (.inl rfl)
    replace R0 := H.ext
    refine DW.thru rfl rfl rfl (fun _ EQ => RV.indexAddr Ts82 rfl rfl (by first | exact hbx4 | (simp at hbx4 ⊢; omega)) ((H.own 0 rfl).sl.addr_ hx4)) ?_
    refine DW.sole rfl rfl rfl (OW.storeO (enc := encStep) (vs := [encStepV x2]) 0 (x2) Tk96 rfl rfl (H.own 0 rfl) (fun _ => rfl) rfl hx4 (by generalize x2 = q; cases q <;> rfl) rfl (by decide) (by generalize x2 = q; cases q <;> rfl) rfl fun w3 M2 O2 => ?_)
    refine ⟨fun h => absurd h (by decide), M2.modx (fun _ _ => trivial), ?_⟩
    replace H : Hp wb w3 ([.own A_a0 c_a0 96 1 (List.map encStep ((((l1.set (Int.toNat t2_1) x1)).set (Int.toNat t3_1) x2)))] ++ R) := H.mod 0 rfl M2 O2 (.inl rfl)
    replace R0 := H.ext
    refine DW.nil (hK4 _ _ ?_)
    obtain ⟨hg2, F⟩ := gd_some F
    obtain ⟨hg3, F⟩ := gd_some F
    refine CW.region ?_
    refine LW.pure rfl rfl (RV.move rfl) ?_
    refine LW.pure rfl rfl (RV.add rfl rfl hg2) ?_
    refine LW.pure rfl rfl (RV.move rfl) ?_
    refine LW.pure rfl rfl (RV.sub rfl rfl hg3) ?_
    refine LW.pure rfl rfl (RV.assign rfl) ?_
    refine LW.pure rfl rfl (RV.assign rfl) ?_
    refine LW.nil ?_
    subst hrec1
    refine ⟨mk1, Nat.lt_succ_self _, _, ?_, (t2_1 + 1), (t3_1 - 1), ((((l1.set (Int.toNat t2_1) x1)).set (Int.toNat t3_1) x2)), F, rfl, H, (show ((((l1.set (Int.toNat t2_1) x1)).set (Int.toNat t3_1) x2)).length = a0.length by first | rfl | assumption | omega | (simp; done) | (simp; assumption) | (simp; omega))⟩
    exact ⟨(look_slice rfl (by first | rfl | (simp; done) | (simp; omega))), rfl, rfl, trivial⟩
  ·
    replace F := ite_n hp1 F
    have hq1 := dec_f hp1
    refine CW.condF rfl hq1 ?_
    refine CW.exit ?_
    obtain rfl := Option.some.inj F
    refine ⟨_, ResOK.none_, ?_⟩
    exact ⟨(by first | rfl | (simp; done) | (simp; omega)), (by first | rfl | assumption | omega | (simp; done) | (simp; assumption) | (simp; omega)), H⟩
set_option maxRecDepth 20000 in
theorem Step_cost_ok {x : Step} {a1 : Trade} {A_a1_supply : Option Addr} {c_a1_supply : Nat} {A_a1_demand : Option Addr} {c_a1_demand : Nat} {A_a1_cost : Option Addr} {c_a1_cost : Nat} {w : World} {res : Int} {nm : String} (hnm : (∀ (y : Less) (w : World), (method (Try.prog.types.size + Made.depth) 102 (.agg #[.int .i64 y.store, .int .i64 y.buyer]) nm).run Try.prog w = .ok (116, .agg #[.int .i64 y.store, .int .i64 y.buyer]) w) ∧ (∀ (y : More) (w : World), (method (Try.prog.types.size + Made.depth) 104 (.agg #[.int .i64 y.store, .int .i64 y.buyer]) nm).run Try.prog w = .ok (117, .agg #[.int .i64 y.store, .int .i64 y.buyer]) w)) (h_a1_supply : Sl w A_a1_supply c_a1_supply 1 (a1.supply.map encN)) (h_a1_demand : Sl w A_a1_demand c_a1_demand 1 (a1.demand.map encN)) (h_a1_cost : Sl2 w A_a1_cost c_a1_cost 1 encN a1.cost) (F : Step_cost x a1 = some res) : CallsM Try.prog (encStepV x) nm [.agg #[.slice A_a1_supply a1.supply.length c_a1_supply, .slice A_a1_demand a1.demand.length c_a1_demand, .slice A_a1_cost a1.cost.length c_a1_cost]] w (Rt w (.int .i64 res)) := by
  cases x with
  | nil => cases F
  | i_less y => exact ⟨102, _, 116, _, rfl, hnm.1 y, Tc116, bulk_less_cost_ok h_a1_supply h_a1_demand h_a1_cost F⟩
  | i_more y => exact ⟨104, _, 117, _, rfl, hnm.2 y, Tc117, bulk_more_cost_ok h_a1_supply h_a1_demand h_a1_cost F⟩
set_option maxRecDepth 20000 in
set_option maxHeartbeats 1000000 in
theorem bulk_search_ok {a0 : Trade} {a1 : List (List Int)} {A_a0_supply : Option Addr} {c_a0_supply : Nat} {A_a0_demand : Option Addr} {c_a0_demand : Nat} {A_a0_cost : Option Addr} {c_a0_cost : Nat} {A_a1 : Option Addr} {c_a1 : Nat} {w : World} {res : (List Int) × (List Step)} (h_a0_supply : Sl w A_a0_supply c_a0_supply 1 (a0.supply.map encN)) (h_a0_demand : Sl w A_a0_demand c_a0_demand 1 (a0.demand.map encN)) (h_a0_cost : Sl2 w A_a0_cost c_a0_cost 1 encN a0.cost) (h_a1 : Sl2 w A_a1 c_a1 1 encN a1) (F : bulk_search a0 a1 = some res) : Calls Try.prog 79 #[.agg #[.slice A_a0_supply a0.supply.length c_a0_supply, .slice A_a0_demand a0.demand.length c_a0_demand, .slice A_a0_cost a0.cost.length c_a0_cost], .slice A_a1 a1.length c_a1] w (fun e w' => ∃ (A1 : Option Addr) (c1 : Nat) (A2 : Option Addr) (c2 : Nat), e = .returned (.tuple #[.slice A1 res.1.length c1, .slice A2 res.2.length c2]) ∧ (A2 = none ↔ res.2 = []) ∧ Hp w w' [.own A1 c1 3 1 (List.map encN res.1), .own A2 c2 96 1 (List.map encStep res.2)]) := by
  refine calls_of_cw (args := [.agg #[.slice A_a0_supply a0.supply.length c_a0_supply, .slice A_a0_demand a0.demand.length c_a0_demand, .slice A_a0_cost a0.cost.length c_a0_cost], .slice A_a1 a1.length c_a1]) Try.func79 rfl rfl rfl rfl ?_
  have H := Hp.start w
  have R0 := H.ext
  unfold bulk_search at F
  refine CW.seq fun K1 hK1 => ?_
  refine CW.region ?_
  refine LW.go rfl rfl (OW.box rfl fun b1 w1 N1 => ?_)
  replace H := H.new N1 N1.blk
  replace R0 := H.ext
  refine LW.pure rfl rfl (RV.assign rfl) ?_
  refine LW.pure rfl rfl (RV.assign rfl) ?_
  refine LW.nil (hK1 _ _ ?_)
  refine CW.seq fun K2 hK2 => ?_
  obtain ⟨hg1, F⟩ := gd_some F
  refine CW.region ?_
  refine LW.pure rfl rfl (RV.fieldAddr Tf25_0 rfl) ?_
  refine LW.pure rfl rfl (RV.load1 Tk22 rfl ((H.blk 0 rfl).cells.off 0) rfl) ?_
  refine LW.pure rfl rfl (RV.len Ts22 rfl) ?_
  refine LW.pure rfl rfl (RV.fieldAddr Tf25_1 rfl) ?_
  refine LW.pure rfl rfl (RV.load1 Tk22 rfl ((H.blk 0 rfl).cells.off 1) rfl) ?_
  refine LW.pure rfl rfl (RV.len Ts22 rfl) ?_
  refine LW.pure rfl rfl (RV.add rfl rfl hg1) ?_
  refine LW.pure rfl rfl (RV.assign rfl) ?_
  refine LW.nil (hK2 _ _ ?_)
  refine CW.seq fun K3 hK3 => ?_
  obtain ⟨hg2, F⟩ := gd_some F
  refine CW.region ?_
  refine LW.pure rfl rfl (RV.move rfl) ?_
  refine LW.go rfl rfl (OW.makeR (enc := encN) (0 : Int) Ts22 rfl rfl rfl rfl rfl hg2 (by decide) fun b2 w2 N2 => ?_)
  replace H := H.made' (k := 1) (t := 3) (enc := encN) (l := (List.replicate (Int.toNat (((a0.supply.length : Int)) + ((a0.demand.length : Int)))) (0 : Int))) N2 N2.blk (fun _ => rfl) rfl (by first | decide | omega | (simp; done) | (simp; omega))
  replace R0 := H.ext
  refine LW.pure rfl rfl (RV.assign rfl) ?_
  refine LW.nil (hK3 _ _ ?_)
  refine CW.seq fun K4 hK4 => ?_
  obtain ⟨hg3, F⟩ := gd_some F
  refine CW.region ?_
  refine LW.pure rfl rfl (RV.move rfl) ?_
  refine LW.go rfl rfl (OW.makeR (enc := encStep) (Step.nil : Step) Ts82 rfl rfl rfl rfl rfl hg3 (by decide) fun b3 w3 N3 => ?_)
  replace H := H.made' (k := 1) (t := 96) (enc := encStep) (l := (List.replicate (Int.toNat (((a0.supply.length : Int)) + ((a0.demand.length : Int)))) (Step.nil : Step))) N3 N3.blk (fun _ => rfl) rfl (by first | decide | omega | (simp; done) | (simp; omega))
  replace R0 := H.ext
  refine LW.pure rfl rfl (RV.assign rfl) ?_
  refine LW.nil (hK4 _ _ ?_)
  refine CW.seq fun K5 hK5 => ?_
  obtain ⟨r4, hr4, F⟩ := bnd_some F
  refine CW.region ?_
  refine LW.pure rfl rfl (RV.loadA [.slice A_a0_supply a0.supply.length c_a0_supply, .slice A_a0_demand a0.demand.length c_a0_demand, .slice A_a0_cost a0.cost.length c_a0_cost] Tk25 rfl (H.blk 2 rfl).cells rfl rfl) ?_
  refine LW.pure rfl rfl (RV.move rfl) ?_
  refine LW.go rfl rfl (OW.call Tc92 rfl (bulk_steps_ok (a0 := a0) (a1 := a1) (h_a0_supply.ext R0) (h_a0_demand.ext R0) (h_a0_cost.ext R0) (h_a1.ext R0) hr4) ?_)
  rintro _ w4 ⟨A160_0, c160_0, rfl, E1⟩
  refine ⟨_, rfl, ?_⟩
  replace H : Hp w w4 [.own A160_0 c160_0 96 1 (List.map encStep r4), .own (some ⟨b3, 0, none⟩) (((List.replicate (Int.toNat (((a0.supply.length : Int)) + ((a0.demand.length : Int)))) (Step.nil : Step))).length) 96 1 (List.map encStep ((List.replicate (Int.toNat (((a0.supply.length : Int)) + ((a0.demand.length : Int)))) (Step.nil : Step)))), .own (some ⟨b2, 0, none⟩) (((List.replicate (Int.toNat (((a0.supply.length : Int)) + ((a0.demand.length : Int)))) (0 : Int))).length) 3 1 (List.map encN ((List.replicate (Int.toNat (((a0.supply.length : Int)) + ((a0.demand.length : Int)))) (0 : Int)))), .blk b1 25 [.slice A_a0_supply a0.supply.length c_a0_supply, .slice A_a0_demand a0.demand.length c_a0_demand, .slice A_a0_cost a0.cost.length c_a0_cost]] := H.append E1
  replace R0 := H.ext
  refine LW.pure rfl rfl (RV.assign rfl) ?_
  refine LW.nil (hK5 _ _ ?_)
  refine CW.seq fun K6 hK6 => ?_
  refine CW.region ?_
  refine LW.pure rfl rfl (RV.assign rfl) ?_
  refine LW.nil (hK6 _ _ ?_)
  refine CW.seqJ (fun ρ wl1 => (∃ (t10_1 : Int) (l1 : List Int) (l3 : List Step), bulk_search_k4 a0 t10_1 l1 l3 = some res ∧ ρ = [(2, .pointer (some (⟨b1, 0, none⟩))), (4, .slice none 0 0), (5, .slice none 0 0), (6, .int .i64 (((a0.supply.length : Int)) + ((a0.demand.length : Int)))), (7, .slice (some ⟨b2, 0, none⟩) l1.length (((List.replicate (Int.toNat (((a0.supply.length : Int)) + ((a0.demand.length : Int)))) (0 : Int))).length)), (8, .slice (some ⟨b3, 0, none⟩) l3.length (((List.replicate (Int.toNat (((a0.supply.length : Int)) + ((a0.demand.length : Int)))) (Step.nil : Step))).length)), (10, .int .i64 t10_1)] ∧ Hp w wl1 [.own (some ⟨b2, 0, none⟩) (((List.replicate (Int.toNat (((a0.supply.length : Int)) + ((a0.demand.length : Int)))) (0 : Int))).length) 3 1 (List.map encN l1), .own (some ⟨b3, 0, none⟩) (((List.replicate (Int.toNat (((a0.supply.length : Int)) + ((a0.demand.length : Int)))) (Step.nil : Step))).length) 96 1 (List.map encStep l3), .blk b1 25 [.slice A_a0_supply a0.supply.length c_a0_supply, .slice A_a0_demand a0.demand.length c_a0_demand, .slice A_a0_cost a0.cost.length c_a0_cost]])) ?_ ?_
  ·
    rintro _ wl1 ⟨t10_1, l1, l3, F, rfl, H⟩
    have R0 := H.ext
    unfold bulk_search_k4 at F
    refine CW.seq fun K7 hK7 => ?_
    refine CW.seq fun K8 hK8 => ?_
    refine CW.region ?_
    refine LW.pure rfl rfl (RV.move rfl) ?_
    refine LW.pure rfl rfl (RV.lss rfl rfl) ?_
    refine LW.nil (hK8 _ _ ?_)
    by_cases hp1 : t10_1 < 0
    ·
      replace F := ite_y hp1 F
      have hq1 := dec_t hp1
      refine CW.condT rfl hq1 ?_
      refine CW.seq fun K9 hK9 => ?_
      refine CW.region ?_
      refine LW.pure rfl rfl (RV.move rfl) ?_
      refine LW.pure rfl rfl (RV.assign rfl) ?_
      refine LW.pure rfl rfl (RV.assign rfl) ?_
      refine LW.nil (hK9 _ _ ?_)
      refine CW.ret ?_
      obtain rfl := Option.some.inj F
      refine ⟨_, (ResOK.two rfl rfl), ?_⟩
      replace H := H.nilOwn 96 1
      replace R0 := H.ext
      replace H := H.pick (L' := [.own (some ⟨b2, 0, none⟩) (((List.replicate (Int.toNat (((a0.supply.length : Int)) + ((a0.demand.length : Int)))) (0 : Int))).length) 3 1 (List.map encN l1), .own none 0 96 1 (List.map encStep (([] : List Step)))]) [1, 0] (by decide) rfl
      replace R0 := H.ext
      exact ⟨(some ⟨b2, 0, none⟩), (((List.replicate (Int.toNat (((a0.supply.length : Int)) + ((a0.demand.length : Int)))) (0 : Int))).length), none, 0, (by first | rfl | (simp; done) | (simp; omega)), ⟨fun _ => rfl, fun _ => rfl⟩, H⟩
    ·
      replace F := ite_n hp1 F
      have hq1 := dec_f hp1
      refine CW.condF rfl hq1 ?_
      refine CW.skip (hK7 _ _ ?_)
      refine CW.seq fun K10 hK10 => ?_
      refine CW.region ?_
      refine LW.pure rfl rfl (RV.move rfl) ?_
      refine LW.pure rfl rfl (RV.assign rfl) ?_
      refine LW.nil (hK10 _ _ ?_)
      refine CW.seqJ (fun ρ wl2 => (∃ (t16_2 : Int), bulk_search_k3 a0 l1 l3 t16_2 = some res ∧ ρ = [(2, .pointer (some (⟨b1, 0, none⟩))), (4, .slice none 0 0), (5, .slice none 0 0), (7, .slice (some ⟨b2, 0, none⟩) l1.length (((List.replicate (Int.toNat (((a0.supply.length : Int)) + ((a0.demand.length : Int)))) (0 : Int))).length)), (8, .slice (some ⟨b3, 0, none⟩) l3.length (((List.replicate (Int.toNat (((a0.supply.length : Int)) + ((a0.demand.length : Int)))) (Step.nil : Step))).length)), (16, .int .i64 t16_2)] ∧ Hp w wl2 [.own (some ⟨b2, 0, none⟩) (((List.replicate (Int.toNat (((a0.supply.length : Int)) + ((a0.demand.length : Int)))) (0 : Int))).length) 3 1 (List.map encN l1), .own (some ⟨b3, 0, none⟩) (((List.replicate (Int.toNat (((a0.supply.length : Int)) + ((a0.demand.length : Int)))) (Step.nil : Step))).length) 96 1 (List.map encStep l3), .blk b1 25 [.slice A_a0_supply a0.supply.length c_a0_supply, .slice A_a0_demand a0.demand.length c_a0_demand, .slice A_a0_cost a0.cost.length c_a0_cost]])) ?_ ?_
      ·
        rintro _ wl2 ⟨t16_2, F, rfl, H⟩
        have R0 := H.ext
        unfold bulk_search_k3 at F
        refine CW.seq fun K11 hK11 => ?_
        refine CW.region ?_
        refine LW.pure rfl rfl (RV.assign rfl) ?_
        refine LW.nil (hK11 _ _ ?_)
        refine CW.seqJ (fun ρ wl3 => (∃ (l2 : List Step) (Al2 : Option Addr) (cl2 : Nat), bulk_search_k1 l1 l2 = some res ∧ ρ = [(4, .slice none 0 0), (5, .slice none 0 0), (7, .slice (some ⟨b2, 0, none⟩) l1.length (((List.replicate (Int.toNat (((a0.supply.length : Int)) + ((a0.demand.length : Int)))) (0 : Int))).length)), (17, .slice Al2 l2.length cl2)] ∧ Hp w wl3 [.own (some ⟨b2, 0, none⟩) (((List.replicate (Int.toNat (((a0.supply.length : Int)) + ((a0.demand.length : Int)))) (0 : Int))).length) 3 1 (List.map encN l1), .own Al2 cl2 96 1 (List.map encStep l2)])) ?_ ?_
        ·
          rintro _ wl3 ⟨l2, Al2, cl2, F, rfl, H⟩
          have R0 := H.ext
          unfold bulk_search_k1 at F
          refine CW.seq fun K12 hK12 => ?_
          obtain ⟨r1, hr1, F⟩ := bnd_some F
          refine CW.region ?_
          refine LW.pure rfl rfl (RV.move rfl) ?_
          replace H := H.pick (L' := [.own Al2 cl2 96 1 (List.map encStep l2), .own (some ⟨b2, 0, none⟩) (((List.replicate (Int.toNat (((a0.supply.length : Int)) + ((a0.demand.length : Int)))) (0 : Int))).length) 3 1 (List.map encN l1)]) [1, 0] (by decide) rfl
          replace R0 := H.ext
          refine LW.go rfl rfl (OW.call Tc94 rfl (slices_Reverse_step_ok (a0 := l2) (R := [.own (some ⟨b2, 0, none⟩) (((List.replicate (Int.toNat (((a0.supply.length : Int)) + ((a0.demand.length : Int)))) (0 : Int))).length) 3 1 (List.map encN l1)]) H hr1) ?_)
          rintro _ w5 ⟨rfl, hlm240_a0, Hq1⟩
          refine ⟨_, rfl, ?_⟩
          replace H : Hp w w5 [.own Al2 cl2 96 1 (List.map encStep r1), .own (some ⟨b2, 0, none⟩) (((List.replicate (Int.toNat (((a0.supply.length : Int)) + ((a0.demand.length : Int)))) (0 : Int))).length) 3 1 (List.map encN l1)] := Hq1
          replace R0 := H.ext
          refine LW.nil (hK12 _ _ ?_)
          refine CW.seq fun K13 hK13 => ?_
          refine CW.region ?_
          refine LW.pure rfl rfl (RV.move rfl) ?_
          refine LW.pure rfl rfl (RV.move rfl) ?_
          refine LW.pure rfl rfl (RV.assign rfl) ?_
          refine LW.pure rfl rfl (RV.assign rfl) ?_
          refine LW.nil (hK13 _ _ ?_)
          refine CW.ret ?_
          obtain ⟨hg4, F⟩ := gd_some F
          obtain rfl := Option.some.inj F
          refine ⟨_, (ResOK.two rfl rfl), ?_⟩
          replace H := H.pick (L' := [.own (some ⟨b2, 0, none⟩) (((List.replicate (Int.toNat (((a0.supply.length : Int)) + ((a0.demand.length : Int)))) (0 : Int))).length) 3 1 (List.map encN l1), .own Al2 cl2 96 1 (List.map encStep r1)]) [1, 0] (by decide) rfl
          replace R0 := H.ext
          exact ⟨(some ⟨b2, 0, none⟩), (((List.replicate (Int.toNat (((a0.supply.length : Int)) + ((a0.demand.length : Int)))) (0 : Int))).length), Al2, cl2, (by first | rfl | (simp; done) | (simp; omega)), ⟨fun q => absurd q (Own.ne (H.own 1 rfl) (by simpa using hg4)), fun q => absurd q hg4⟩, H⟩
        ·
          intro K14 hK14 jK750
          refine CW.seq fun K15 hK15 => ?_
          refine CW.region ?_
          refine LW.pure rfl rfl (RV.move rfl) ?_
          refine LW.pure rfl rfl (RV.assign rfl) ?_
          refine LW.nil (hK15 _ _ ?_)
          refine CW.block ?_
          replace H := H.nilOwn 96 1
          replace R0 := H.ext
          replace H := H.pick (L' := [.own (some ⟨b2, 0, none⟩) (((List.replicate (Int.toNat (((a0.supply.length : Int)) + ((a0.demand.length : Int)))) (0 : Int))).length) 3 1 (List.map encN l1), .own (some ⟨b3, 0, none⟩) (((List.replicate (Int.toNat (((a0.supply.length : Int)) + ((a0.demand.length : Int)))) (Step.nil : Step))).length) 96 1 (List.map encStep l3), .own none 0 96 1 (List.map encStep (([] : List Step))), .blk b1 25 [.slice A_a0_supply a0.supply.length c_a0_supply, .slice A_a0_demand a0.demand.length c_a0_demand, .slice A_a0_cost a0.cost.length c_a0_cost]]) [1, 2, 0, 3] (by decide) rfl
          replace R0 := H.ext
          refine CW.loop (fun meas ρ wl4 => ∃ (t16_1 : Int) (l4 : List Step) (Al4 : Option Addr) (cl4 : Nat), bulk_search_L1 a0 l1 l3 t16_2 meas t16_1 l4 = some res ∧ ρ = [(2, .pointer (some (⟨b1, 0, none⟩))), (4, .slice none 0 0), (5, .slice none 0 0), (7, .slice (some ⟨b2, 0, none⟩) l1.length (((List.replicate (Int.toNat (((a0.supply.length : Int)) + ((a0.demand.length : Int)))) (0 : Int))).length)), (8, .slice (some ⟨b3, 0, none⟩) l3.length (((List.replicate (Int.toNat (((a0.supply.length : Int)) + ((a0.demand.length : Int)))) (Step.nil : Step))).length)), (16, .int .i64 t16_1), (17, .slice Al4 l4.length cl4), (18, .int .i64 t16_2)] ∧ Hp w wl4 [.own (some ⟨b2, 0, none⟩) (((List.replicate (Int.toNat (((a0.supply.length : Int)) + ((a0.demand.length : Int)))) (0 : Int))).length) 3 1 (List.map encN l1), .own (some ⟨b3, 0, none⟩) (((List.replicate (Int.toNat (((a0.supply.length : Int)) + ((a0.demand.length : Int)))) (Step.nil : Step))).length) 96 1 (List.map encStep l3), .own Al4 cl4 96 1 (List.map encStep l4), .blk b1 25 [.slice A_a0_supply a0.supply.length c_a0_supply, .slice A_a0_demand a0.demand.length c_a0_demand, .slice A_a0_cost a0.cost.length c_a0_cost]]) FU ⟨_, ?_, t16_2, (([] : List Step)), none, 0, F, rfl, H⟩ ?_
          · exact ⟨rfl, rfl, rfl, (look_slice rfl (by first | rfl | (simp; done) | (simp; omega))), (look_slice rfl (by first | rfl | (simp; done) | (simp; omega))), rfl, (look_slice rfl (by first | rfl | (simp; done) | (simp; omega))), rfl, trivial⟩
          rintro mk1 _ wl4 ⟨t16_1, l4, Al4, cl4, F, rfl, H⟩
          have R0 := H.ext
          replace F := bulk_search_L1_s F
          obtain ⟨mk1, rfl, F⟩ := F
          generalize hrec1 : bulk_search_L1 a0 l1 l3 t16_2 mk1 = rec1 at F
          unfold bulk_search_B1 at F
          refine CW.seq fun K16 hK16 => ?_
          refine CW.seqJ (fun ρ wl5 => (∃ (t98_1 : Bool), bulk_search_k2 a0 l1 l3 t16_1 l4 rec1 t98_1 = some res ∧ ρ = [(2, .pointer (some (⟨b1, 0, none⟩))), (4, .slice none 0 0), (5, .slice none 0 0), (7, .slice (some ⟨b2, 0, none⟩) l1.length (((List.replicate (Int.toNat (((a0.supply.length : Int)) + ((a0.demand.length : Int)))) (0 : Int))).length)), (8, .slice (some ⟨b3, 0, none⟩) l3.length (((List.replicate (Int.toNat (((a0.supply.length : Int)) + ((a0.demand.length : Int)))) (Step.nil : Step))).length)), (16, .int .i64 t16_1), (17, .slice Al4 l4.length cl4), (18, .int .i64 t16_2), (98, .bool t98_1)] ∧ Hp w wl5 [.own (some ⟨b2, 0, none⟩) (((List.replicate (Int.toNat (((a0.supply.length : Int)) + ((a0.demand.length : Int)))) (0 : Int))).length) 3 1 (List.map encN l1), .own (some ⟨b3, 0, none⟩) (((List.replicate (Int.toNat (((a0.supply.length : Int)) + ((a0.demand.length : Int)))) (Step.nil : Step))).length) 96 1 (List.map encStep l3), .own Al4 cl4 96 1 (List.map encStep l4), .blk b1 25 [.slice A_a0_supply a0.supply.length c_a0_supply, .slice A_a0_demand a0.demand.length c_a0_demand, .slice A_a0_cost a0.cost.length c_a0_cost]])) ?_ ?_
          ·
            rintro _ wl5 ⟨t98_1, F, rfl, H⟩
            have R0 := H.ext
            unfold bulk_search_k2 at F
            by_cases hp2 : t98_1 = true
            ·
              replace F := ite_y hp2 F
              have hq2 : t98_1 = true := hp2
              refine CW.condT rfl hq2 ?_
              refine CW.skip (hK16 _ _ ?_)
              refine CW.block ?_
              refine CW.seq fun K17 hK17 => ?_
              obtain ⟨x1, hbx1, hx1, F⟩ := ix_some F
              obtain ⟨hg5, F⟩ := gd_some F
              refine CW.region ?_
              refine LW.pure rfl rfl (RV.move rfl) ?_
              refine LW.pure rfl rfl (RV.move rfl) ?_
              refine LW.pure rfl rfl (RV.move rfl) ?_
              refine LW.pure rfl rfl (RV.indexAddr Ts82 rfl rfl hbx1 ⟨_, rfl⟩) ?_
              refine LW.pure rfl rfl (RV.load1 Tk96 rfl ((H.own 1 rfl).sl.at_ hx1) rfl) ?_
              refine LW.go rfl rfl (OW.buildSlice (e := 96) (vs := [encStepV x1]) (cs := [encStepV x1]) rfl (fun _ => by generalize x1 = q0; cases q0 <;> kernel_rfl) fun b4 w6 N4 => ?_)
              replace H := H.made' (k := 1) (t := 96) (enc := encStep) (l := ([x1] : List Step)) N4 N4.blk (fun _ => rfl) rfl (by first | decide | omega | (simp; done) | (simp; omega))
              replace R0 := H.ext
              refine LW.go rfl rfl (OW.appendG (enc := encStep) (l := l4) (xs := ([x1] : List Step)) Ts82 rfl (look_slice rfl (by first | rfl | (simp; done) | (simp; omega))) (H.own 3 rfl) (H.own 0 rfl).sl (fun u => by cases u <;> rfl) rfl rfl hg5 (by decide) fun A3 c3 w7 O1 M1 D1 => ?_)
              replace H : Hp w w7 [.own (some ⟨b4, 0, none⟩) ((([x1] : List Step)).length) 96 1 (List.map encStep (([x1] : List Step))), .own (some ⟨b2, 0, none⟩) (((List.replicate (Int.toNat (((a0.supply.length : Int)) + ((a0.demand.length : Int)))) (0 : Int))).length) 3 1 (List.map encN l1), .own (some ⟨b3, 0, none⟩) (((List.replicate (Int.toNat (((a0.supply.length : Int)) + ((a0.demand.length : Int)))) (Step.nil : Step))).length) 96 1 (List.map encStep l3), .own A3 c3 96 1 (List.map encStep ((l4 ++ ([x1] : List Step)))), .blk b1 25 [.slice A_a0_supply a0.supply.length c_a0_supply, .slice A_a0_demand a0.demand.length c_a0_demand, .slice A_a0_cost a0.cost.length c_a0_cost]] := H.mod 3 rfl M1 O1 D1
              replace R0 := H.ext
              refine LW.pure rfl rfl (RV.assign rfl) ?_
              refine LW.nil (hK17 _ _ ?_)
              obtain ⟨x2, hbx2, hx2, F⟩ := ix_some F
              obtain ⟨r2, hr2, F⟩ := bnd_some F
              refine CW.draw [] (fun _ => True) (.cons 0 1 (.cons 1 1 (.cons 2 1 (.cons 3 1 (.cons 4 1 (.cons 5 0 (.cons 6 1 (.cons 7 1 (.cons 8 1 (.cons 9 1 .nil)))))))))) mixed (by kernel_rfl) fun w8 E2 => ?_
              replace H := H.grow E2
              replace R0 := H.ext
              refine DW.fix rfl rfl rfl (fun _ EQ => RV.loadA [.slice A_a0_supply a0.supply.length c_a0_supply, .slice A_a0_demand a0.demand.length c_a0_demand, .slice A_a0_cost a0.cost.length c_a0_cost] Tk25 rfl ((H.grow EQ).blk 4 rfl).cells rfl rfl) ?_
              refine DW.fix rfl rfl rfl (fun _ EQ => RV.move rfl) ?_
              refine DW.fix rfl rfl rfl (fun _ EQ => RV.move rfl) ?_
              refine DW.fix rfl rfl rfl (fun _ EQ => RV.indexAddr Ts82 rfl rfl hbx2 ⟨_, rfl⟩) ?_
              refine DW.fix rfl rfl rfl (fun _ EQ => RV.load1 Tk96 rfl (((H.grow EQ).own 2 rfl).sl.at_ hx2) rfl) ?_
              refine DW.sole rfl rfl rfl (OW.call Tc93 rfl (bulk_ends_ok (a0 := a0) (a1 := x2) (h_a0_supply.ext R0) (h_a0_demand.ext R0) (h_a0_cost.ext R0) hr2) ?_)
              rintro _ w9 ⟨rfl, E3⟩
              refine ⟨_, rfl, fun _ => E3, ModX.ext E3, ?_⟩
              replace H := H.grow E3
              replace R0 := H.ext
              refine DW.fix rfl rfl rfl (fun _ EQ => RV.move rfl) ?_
              refine DW.fix rfl rfl rfl (fun _ EQ => RV.extract rfl rfl) ?_
              refine DW.fix rfl rfl rfl (fun _ EQ => RV.extract rfl rfl) ?_
              refine DW.fix rfl rfl rfl (fun _ EQ => RV.assign rfl) ?_
              refine DW.nil ?_
              replace H := H.pick (L' := [.own (some ⟨b2, 0, none⟩) (((List.replicate (Int.toNat (((a0.supply.length : Int)) + ((a0.demand.length : Int)))) (0 : Int))).length) 3 1 (List.map encN l1), .own (some ⟨b3, 0, none⟩) (((List.replicate (Int.toNat (((a0.supply.length : Int)) + ((a0.demand.length : Int)))) (Step.nil : Step))).length) 96 1 (List.map encStep l3), .own A3 c3 96 1 (List.map encStep ((l4 ++ ([x1] : List Step)))), .blk b1 25 [.slice A_a0_supply a0.supply.length c_a0_supply, .slice A_a0_demand a0.demand.length c_a0_demand, .slice A_a0_cost a0.cost.length c_a0_cost]]) [1, 2, 3, 4] (by decide) rfl
              replace R0 := H.ext
              subst hrec1
              refine ⟨mk1, Nat.lt_succ_self _, _, ?_, r2.1, ((l4 ++ ([x1] : List Step))), A3, c3, F, rfl, H⟩
              exact ⟨rfl, rfl, rfl, (look_slice rfl (by first | rfl | (simp; done) | (simp; omega))), (look_slice rfl (by first | rfl | (simp; done) | (simp; omega))), rfl, (look_slice rfl (by first | rfl | (simp; done) | (simp; omega))), rfl, trivial⟩
            ·
              replace F := ite_n hp2 F
              have hq2 : t98_1 = false := raw_f hp2
              refine CW.condF rfl hq2 ?_
              replace H := H.pick (L' := [.own (some ⟨b2, 0, none⟩) (((List.replicate (Int.toNat (((a0.supply.length : Int)) + ((a0.demand.length : Int)))) (0 : Int))).length) 3 1 (List.map encN l1), .own Al4 cl4 96 1 (List.map encStep l4)]) [0, 2] (by decide) rfl
              replace R0 := H.ext
              refine CW.exit (jK750 _ _ ⟨_, ?_, ⟨l4, Al4, cl4, F, rfl, H⟩⟩)
              exact ⟨rfl, rfl, (look_slice rfl (by first | rfl | (simp; done) | (simp; omega))), (look_slice rfl (by first | rfl | (simp; done) | (simp; omega))), trivial⟩
          ·
            intro K18 hK18 jK760
            by_cases hp3 : ((l4.length : Int)) = 0
            ·
              replace F := ite_y hp3 F
              have hq3 := dec_t hp3
              refine CW.region ?_
              refine LW.pure rfl rfl (RV.move rfl) ?_
              refine LW.pure rfl rfl (RV.len Ts82 rfl) ?_
              refine LW.pure rfl rfl (RV.eqi rfl rfl) ?_
              refine LW.pure rfl rfl (RV.move rfl) ?_
              refine LW.noB rfl rfl rfl rfl (ne_beq (v := true) hq3 rfl) ?_
              refine LW.noB rfl rfl rfl rfl (ne_beq (v := true) hq3 rfl) ?_
              refine LW.noB rfl rfl rfl rfl (ne_beq (v := true) hq3 rfl) ?_
              refine LW.pure rfl rfl (RV.pickTB rfl hq3 rfl) ?_
              refine LW.nil (jK760 _ _ ⟨_, ?_, ⟨true, F, rfl, H⟩⟩)
              exact ⟨rfl, rfl, rfl, (look_slice rfl (by first | rfl | (simp; done) | (simp; omega))), (look_slice rfl (by first | rfl | (simp; done) | (simp; omega))), rfl, (look_slice rfl (by first | rfl | (simp; done) | (simp; omega))), rfl, rfl, trivial⟩
            ·
              replace F := ite_n hp3 F
              have hq3 := dec_f hp3
              refine CW.region ?_
              refine LW.pure rfl rfl (RV.move rfl) ?_
              refine LW.pure rfl rfl (RV.len Ts82 rfl) ?_
              refine LW.pure rfl rfl (RV.eqi rfl rfl) ?_
              refine LW.pure rfl rfl (RV.move rfl) ?_
              refine LW.pureYB rfl rfl rfl rfl hq3 (RV.move rfl) ?_
              refine LW.pureYB rfl rfl rfl rfl hq3 (RV.move rfl) ?_
              refine LW.pureYB rfl rfl rfl rfl hq3 (RV.nei rfl rfl) ?_
              refine LW.pure rfl rfl (RV.pickFB rfl hq3 rfl) ?_
              refine LW.nil (jK760 _ _ ⟨_, ?_, ⟨(!(decide (t16_1 = t16_2))), F, rfl, H⟩⟩)
              exact ⟨rfl, rfl, rfl, (look_slice rfl (by first | rfl | (simp; done) | (simp; omega))), (look_slice rfl (by first | rfl | (simp; done) | (simp; omega))), rfl, (look_slice rfl (by first | rfl | (simp; done) | (simp; omega))), rfl, rfl, trivial⟩
      ·
        intro K19 hK19 jK761
        refine CW.seq fun K20 hK20 => ?_
        refine CW.region ?_
        refine LW.pure rfl rfl (RV.move rfl) ?_
        refine LW.pure rfl rfl (RV.move rfl) ?_
        refine LW.nil (hK20 _ _ ?_)
        refine CW.block ?_
        refine CW.loop (fun meas ρ wl6 => ∃ (t16_3 : Int) (t78_1 : Int), bulk_search_L2 a0 l1 l3 meas t16_3 t78_1 = some res ∧ ρ = [(2, .pointer (some (⟨b1, 0, none⟩))), (4, .slice none 0 0), (5, .slice none 0 0), (7, .slice (some ⟨b2, 0, none⟩) l1.length (((List.replicate (Int.toNat (((a0.supply.length : Int)) + ((a0.demand.length : Int)))) (0 : Int))).length)), (8, .slice (some ⟨b3, 0, none⟩) l3.length (((List.replicate (Int.toNat (((a0.supply.length : Int)) + ((a0.demand.length : Int)))) (Step.nil : Step))).length)), (16, .int .i64 t16_3), (77, .int .i64 (((a0.supply.length : Int)) + ((a0.demand.length : Int)))), (78, .int .i64 t78_1)] ∧ Hp w wl6 [.own (some ⟨b2, 0, none⟩) (((List.replicate (Int.toNat (((a0.supply.length : Int)) + ((a0.demand.length : Int)))) (0 : Int))).length) 3 1 (List.map encN l1), .own (some ⟨b3, 0, none⟩) (((List.replicate (Int.toNat (((a0.supply.length : Int)) + ((a0.demand.length : Int)))) (Step.nil : Step))).length) 96 1 (List.map encStep l3), .blk b1 25 [.slice A_a0_supply a0.supply.length c_a0_supply, .slice A_a0_demand a0.demand.length c_a0_demand, .slice A_a0_cost a0.cost.length c_a0_cost]]) FU ⟨_, ?_, t10_1, ((0 : Int)), F, rfl, H⟩ ?_
        · exact ⟨rfl, rfl, rfl, (look_slice rfl (by first | rfl | (simp; done) | (simp; omega))), (look_slice rfl (by first | rfl | (simp; done) | (simp; omega))), rfl, rfl, rfl, trivial⟩
        rintro mk2 _ wl6 ⟨t16_3, t78_1, F, rfl, H⟩
        have R0 := H.ext
        replace F := bulk_search_L2_s F
        obtain ⟨mk2, rfl, F⟩ := F
        generalize hrec2 : bulk_search_L2 a0 l1 l3 mk2 = rec2 at F
        unfold bulk_search_B2 at F
        refine CW.seq fun K21 hK21 => ?_
        refine CW.region ?_
        refine LW.pure rfl rfl (RV.lss rfl rfl) ?_
        refine LW.nil (hK21 _ _ ?_)
        refine CW.seq fun K22 hK22 => ?_
        by_cases hp4 : t78_1 < (((a0.supply.length : Int)) + ((a0.demand.length : Int)))
        ·
          replace F := ite_y hp4 F
          have hq4 := dec_t hp4
          refine CW.condT rfl hq4 ?_
          refine CW.skip (hK22 _ _ ?_)
          refine CW.seq fun K23 hK23 => ?_
          refine CW.block ?_
          obtain ⟨x3, hbx3, hx3, F⟩ := ix_some F
          obtain ⟨r3, hr3, F⟩ := bnd_some F
          refine CW.draw [] (fun _ => True) (.cons 0 1 (.cons 1 1 (.cons 2 1 (.cons 3 1 (.cons 4 1 (.cons 5 0 (.cons 6 1 (.cons 7 1 (.cons 8 1 (.cons 9 1 .nil)))))))))) mixed (by kernel_rfl) fun w10 E4 => ?_
          replace H := H.grow E4
          replace R0 := H.ext
          refine DW.fix rfl rfl rfl (fun _ EQ => RV.loadA [.slice A_a0_supply a0.supply.length c_a0_supply, .slice A_a0_demand a0.demand.length c_a0_demand, .slice A_a0_cost a0.cost.length c_a0_cost] Tk25 rfl ((H.grow EQ).blk 2 rfl).cells rfl rfl) ?_
          refine DW.fix rfl rfl rfl (fun _ EQ => RV.move rfl) ?_
          refine DW.fix rfl rfl rfl (fun _ EQ => RV.move rfl) ?_
          refine DW.fix rfl rfl rfl (fun _ EQ => RV.indexAddr Ts82 rfl rfl hbx3 ⟨_, rfl⟩) ?_
          refine DW.fix rfl rfl rfl (fun _ EQ => RV.load1 Tk96 rfl (((H.grow EQ).own 1 rfl).sl.at_ hx3) rfl) ?_
          refine DW.sole rfl rfl rfl (OW.call Tc93 rfl (bulk_ends_ok (a0 := a0) (a1 := x3) (h_a0_supply.ext R0) (h_a0_demand.ext R0) (h_a0_cost.ext R0) hr3) ?_)
          rintro _ w11 ⟨rfl, E5⟩
          refine ⟨_, rfl, fun _ => E5, ModX.ext E5, ?_⟩
          replace H := H.grow E5
          replace R0 := H.ext
          refine DW.fix rfl rfl rfl (fun _ EQ => RV.move rfl) ?_
          refine DW.fix rfl rfl rfl (fun _ EQ => RV.extract rfl rfl) ?_
          refine DW.fix rfl rfl rfl (fun _ EQ => RV.extract rfl rfl) ?_
          refine DW.fix rfl rfl rfl (fun _ EQ => RV.assign rfl) ?_
          refine DW.nil (hK23 _ _ ?_)
          obtain ⟨hg6, F⟩ := gd_some F
          refine CW.region ?_
          refine LW.pure rfl rfl (RV.add rfl rfl hg6) ?_
          refine LW.pure rfl rfl (RV.move rfl) ?_
          refine LW.nil ?_
          subst hrec2
          refine ⟨mk2, Nat.lt_succ_self _, _, ?_, r3.1, (t78_1 + 1), F, rfl, H⟩
          exact ⟨rfl, rfl, rfl, (look_slice rfl (by first | rfl | (simp; done) | (simp; omega))), (look_slice rfl (by first | rfl | (simp; done) | (simp; omega))), rfl, rfl, rfl, trivial⟩
        ·
          replace F := ite_n hp4 F
          have hq4 := dec_f hp4
          refine CW.condF rfl hq4 ?_
          refine CW.exit (jK761 _ _ ⟨_, ?_, ⟨t16_3, F, rfl, H⟩⟩)
          exact ⟨rfl, rfl, rfl, (look_slice rfl (by first | rfl | (simp; done) | (simp; omega))), (look_slice rfl (by first | rfl | (simp; done) | (simp; omega))), rfl, trivial⟩
  ·
    intro K24 hK24 jK772
    refine CW.seq fun K25 hK25 => ?_
    refine CW.region ?_
    refine LW.pure rfl rfl (RV.move rfl) ?_
    refine LW.pure rfl rfl (RV.move rfl) ?_
    refine LW.nil (hK25 _ _ ?_)
    refine CW.block ?_
    replace H := H.pick (L' := [.own (some ⟨b2, 0, none⟩) (((List.replicate (Int.toNat (((a0.supply.length : Int)) + ((a0.demand.length : Int)))) (0 : Int))).length) 3 1 (List.map encN ((List.replicate (Int.toNat (((a0.supply.length : Int)) + ((a0.demand.length : Int)))) (0 : Int)))), .own (some ⟨b3, 0, none⟩) (((List.replicate (Int.toNat (((a0.supply.length : Int)) + ((a0.demand.length : Int)))) (Step.nil : Step))).length) 96 1 (List.map encStep ((List.replicate (Int.toNat (((a0.supply.length : Int)) + ((a0.demand.length : Int)))) (Step.nil : Step)))), .own A160_0 c160_0 96 1 (List.map encStep r4), .blk b1 25 [.slice A_a0_supply a0.supply.length c_a0_supply, .slice A_a0_demand a0.demand.length c_a0_demand, .slice A_a0_cost a0.cost.length c_a0_cost]]) [2, 1, 0, 3] (by decide) rfl
    replace R0 := H.ext
    refine CW.loop (fun meas ρ wl7 => ∃ (t10_5 : Int) (t34_1 : Int) (l11 : List Int) (l12 : List Step), bulk_search_L4 a0 r4 meas t10_5 t34_1 l11 l12 = some res ∧ ρ = [(2, .pointer (some (⟨b1, 0, none⟩))), (4, .slice none 0 0), (5, .slice none 0 0), (6, .int .i64 (((a0.supply.length : Int)) + ((a0.demand.length : Int)))), (7, .slice (some ⟨b2, 0, none⟩) l11.length (((List.replicate (Int.toNat (((a0.supply.length : Int)) + ((a0.demand.length : Int)))) (0 : Int))).length)), (8, .slice (some ⟨b3, 0, none⟩) l12.length (((List.replicate (Int.toNat (((a0.supply.length : Int)) + ((a0.demand.length : Int)))) (Step.nil : Step))).length)), (9, .slice A160_0 r4.length c160_0), (10, .int .i64 t10_5), (33, .int .i64 (((a0.supply.length : Int)) + ((a0.demand.length : Int)))), (34, .int .i64 t34_1)] ∧ Hp w wl7 [.own (some ⟨b2, 0, none⟩) (((List.replicate (Int.toNat (((a0.supply.length : Int)) + ((a0.demand.length : Int)))) (0 : Int))).length) 3 1 (List.map encN l11), .own (some ⟨b3, 0, none⟩) (((List.replicate (Int.toNat (((a0.supply.length : Int)) + ((a0.demand.length : Int)))) (Step.nil : Step))).length) 96 1 (List.map encStep l12), .own A160_0 c160_0 96 1 (List.map encStep r4), .blk b1 25 [.slice A_a0_supply a0.supply.length c_a0_supply, .slice A_a0_demand a0.demand.length c_a0_demand, .slice A_a0_cost a0.cost.length c_a0_cost]]) FU ⟨_, ?_, ((-1 : Int)), ((0 : Int)), ((List.replicate (Int.toNat (((a0.supply.length : Int)) + ((a0.demand.length : Int)))) (0 : Int))), ((List.replicate (Int.toNat (((a0.supply.length : Int)) + ((a0.demand.length : Int)))) (Step.nil : Step))), F, rfl, H⟩ ?_
    · exact ⟨rfl, rfl, rfl, rfl, (look_slice rfl (by first | rfl | (simp; done) | (simp; omega))), (look_slice rfl (by first | rfl | (simp; done) | (simp; omega))), (look_slice rfl (by first | rfl | (simp; done) | (simp; omega))), rfl, rfl, rfl, trivial⟩
    rintro mk3 _ wl7 ⟨t10_5, t34_1, l11, l12, F, rfl, H⟩
    have R0 := H.ext
    replace F := bulk_search_L4_s F
    obtain ⟨mk3, rfl, F⟩ := F
    generalize hrec3 : bulk_search_L4 a0 r4 mk3 = rec3 at F
    unfold bulk_search_B4 at F
    refine CW.seq fun K26 hK26 => ?_
    refine CW.region ?_
    refine LW.pure rfl rfl (RV.lss rfl rfl) ?_
    refine LW.nil (hK26 _ _ ?_)
    refine CW.seq fun K27 hK27 => ?_
    by_cases hp5 : t34_1 < (((a0.supply.length : Int)) + ((a0.demand.length : Int)))
    ·
      replace F := ite_y hp5 F
      have hq5 := dec_t hp5
      refine CW.condT rfl hq5 ?_
      refine CW.skip (hK27 _ _ ?_)
      refine CW.seqJ (fun ρ wl8 => (∃ (t10_2 : Int) (l5 : List Int) (l6 : List Step), bulk_search_k5 t34_1 rec3 t10_2 l5 l6 = some res ∧ ρ = [(2, .pointer (some (⟨b1, 0, none⟩))), (4, .slice none 0 0), (5, .slice none 0 0), (6, .int .i64 (((a0.supply.length : Int)) + ((a0.demand.length : Int)))), (7, .slice (some ⟨b2, 0, none⟩) l5.length (((List.replicate (Int.toNat (((a0.supply.length : Int)) + ((a0.demand.length : Int)))) (0 : Int))).length)), (8, .slice (some ⟨b3, 0, none⟩) l6.length (((List.replicate (Int.toNat (((a0.supply.length : Int)) + ((a0.demand.length : Int)))) (Step.nil : Step))).length)), (9, .slice A160_0 r4.length c160_0), (10, .int .i64 t10_2), (33, .int .i64 (((a0.supply.length : Int)) + ((a0.demand.length : Int)))), (34, .int .i64 t34_1)] ∧ Hp w wl8 [.own (some ⟨b2, 0, none⟩) (((List.replicate (Int.toNat (((a0.supply.length : Int)) + ((a0.demand.length : Int)))) (0 : Int))).length) 3 1 (List.map encN l5), .own (some ⟨b3, 0, none⟩) (((List.replicate (Int.toNat (((a0.supply.length : Int)) + ((a0.demand.length : Int)))) (Step.nil : Step))).length) 96 1 (List.map encStep l6), .own A160_0 c160_0 96 1 (List.map encStep r4), .blk b1 25 [.slice A_a0_supply a0.supply.length c_a0_supply, .slice A_a0_demand a0.demand.length c_a0_demand, .slice A_a0_cost a0.cost.length c_a0_cost]])) ?_ ?_
      ·
        rintro _ wl8 ⟨t10_2, l5, l6, F, rfl, H⟩
        have R0 := H.ext
        unfold bulk_search_k5 at F
        obtain ⟨hg7, F⟩ := gd_some F
        refine CW.region ?_
        refine LW.pure rfl rfl (RV.add rfl rfl hg7) ?_
        refine LW.pure rfl rfl (RV.move rfl) ?_
        refine LW.nil ?_
        subst hrec3
        refine ⟨mk3, Nat.lt_succ_self _, _, ?_, t10_2, (t34_1 + 1), l5, l6, F, rfl, H⟩
        exact ⟨rfl, rfl, rfl, rfl, (look_slice rfl (by first | rfl | (simp; done) | (simp; omega))), (look_slice rfl (by first | rfl | (simp; done) | (simp; omega))), (look_slice rfl (by first | rfl | (simp; done) | (simp; omega))), rfl, rfl, rfl, trivial⟩
      ·
        intro K28 hK28 jK957
        refine CW.block ?_
        refine CW.seq fun K29 hK29 => ?_
        refine CW.region ?_
        refine LW.pure rfl rfl (RV.assign rfl) ?_
        refine LW.nil (hK29 _ _ ?_)
        refine CW.seq fun K30 hK30 => ?_
        refine CW.region ?_
        refine LW.pure rfl rfl (RV.move rfl) ?_
        refine LW.pure rfl rfl (RV.len Ts82 rfl) ?_
        refine LW.pure rfl rfl (RV.move rfl) ?_
        refine LW.nil (hK30 _ _ ?_)
        refine CW.block ?_
        refine CW.loop (fun meas ρ wl9 => ∃ (t10_4 : Int) (t38_1 : Int) (l9 : List Int) (l10 : List Step), bulk_search_L3 a0 r4 t34_1 rec3 meas t10_4 t38_1 l9 l10 = some res ∧ ρ = [(2, .pointer (some (⟨b1, 0, none⟩))), (4, .slice none 0 0), (5, .slice none 0 0), (6, .int .i64 (((a0.supply.length : Int)) + ((a0.demand.length : Int)))), (7, .slice (some ⟨b2, 0, none⟩) l9.length (((List.replicate (Int.toNat (((a0.supply.length : Int)) + ((a0.demand.length : Int)))) (0 : Int))).length)), (8, .slice (some ⟨b3, 0, none⟩) l10.length (((List.replicate (Int.toNat (((a0.supply.length : Int)) + ((a0.demand.length : Int)))) (Step.nil : Step))).length)), (9, .slice A160_0 r4.length c160_0), (10, .int .i64 t10_4), (33, .int .i64 (((a0.supply.length : Int)) + ((a0.demand.length : Int)))), (34, .int .i64 t34_1), (36, .slice A160_0 r4.length c160_0), (37, .int .i64 ((r4.length : Int))), (38, .int .i64 t38_1)] ∧ Hp w wl9 [.own (some ⟨b2, 0, none⟩) (((List.replicate (Int.toNat (((a0.supply.length : Int)) + ((a0.demand.length : Int)))) (0 : Int))).length) 3 1 (List.map encN l9), .own (some ⟨b3, 0, none⟩) (((List.replicate (Int.toNat (((a0.supply.length : Int)) + ((a0.demand.length : Int)))) (Step.nil : Step))).length) 96 1 (List.map encStep l10), .own A160_0 c160_0 96 1 (List.map encStep r4), .blk b1 25 [.slice A_a0_supply a0.supply.length c_a0_supply, .slice A_a0_demand a0.demand.length c_a0_demand, .slice A_a0_cost a0.cost.length c_a0_cost]]) FU ⟨_, ?_, ((-1 : Int)), ((0 : Int)), l11, l12, F, rfl, H⟩ ?_
        · exact ⟨rfl, rfl, rfl, rfl, (look_slice rfl (by first | rfl | (simp; done) | (simp; omega))), (look_slice rfl (by first | rfl | (simp; done) | (simp; omega))), (look_slice rfl (by first | rfl | (simp; done) | (simp; omega))), rfl, rfl, rfl, (look_slice rfl (by first | rfl | (simp; done) | (simp; omega))), rfl, rfl, trivial⟩
        rintro mk4 _ wl9 ⟨t10_4, t38_1, l9, l10, F, rfl, H⟩
        have R0 := H.ext
        replace F := bulk_search_L3_s F
        obtain ⟨mk4, rfl, F⟩ := F
        generalize hrec4 : bulk_search_L3 a0 r4 t34_1 rec3 mk4 = rec4 at F
        unfold bulk_search_B3 at F
        refine CW.seq fun K31 hK31 => ?_
        refine CW.region ?_
        refine LW.pure rfl rfl (RV.lss rfl rfl) ?_
        refine LW.nil (hK31 _ _ ?_)
        refine CW.seq fun K32 hK32 => ?_
        by_cases hp6 : t38_1 < ((r4.length : Int))
        ·
          replace F := ite_y hp6 F
          have hq6 := dec_t hp6
          refine CW.condT rfl hq6 ?_
          refine CW.skip (hK32 _ _ ?_)
          refine CW.seqJ (fun ρ wl10 => (∃ (t10_3 : Int) (l7 : List Int) (l8 : List Step), bulk_search_k6 t38_1 rec4 t10_3 l7 l8 = some res ∧ ρ = [(2, .pointer (some (⟨b1, 0, none⟩))), (4, .slice none 0 0), (5, .slice none 0 0), (6, .int .i64 (((a0.supply.length : Int)) + ((a0.demand.length : Int)))), (7, .slice (some ⟨b2, 0, none⟩) l7.length (((List.replicate (Int.toNat (((a0.supply.length : Int)) + ((a0.demand.length : Int)))) (0 : Int))).length)), (8, .slice (some ⟨b3, 0, none⟩) l8.length (((List.replicate (Int.toNat (((a0.supply.length : Int)) + ((a0.demand.length : Int)))) (Step.nil : Step))).length)), (9, .slice A160_0 r4.length c160_0), (10, .int .i64 t10_3), (33, .int .i64 (((a0.supply.length : Int)) + ((a0.demand.length : Int)))), (34, .int .i64 t34_1), (36, .slice A160_0 r4.length c160_0), (37, .int .i64 ((r4.length : Int))), (38, .int .i64 t38_1)] ∧ Hp w wl10 [.own (some ⟨b2, 0, none⟩) (((List.replicate (Int.toNat (((a0.supply.length : Int)) + ((a0.demand.length : Int)))) (0 : Int))).length) 3 1 (List.map encN l7), .own (some ⟨b3, 0, none⟩) (((List.replicate (Int.toNat (((a0.supply.length : Int)) + ((a0.demand.length : Int)))) (Step.nil : Step))).length) 96 1 (List.map encStep l8), .own A160_0 c160_0 96 1 (List.map encStep r4), .blk b1 25 [.slice A_a0_supply a0.supply.length c_a0_supply, .slice A_a0_demand a0.demand.length c_a0_demand, .slice A_a0_cost a0.cost.length c_a0_cost]])) ?_ ?_
          ·
            rintro _ wl10 ⟨t10_3, l7, l8, F, rfl, H⟩
            have R0 := H.ext
            unfold bulk_search_k6 at F
            obtain ⟨hg8, F⟩ := gd_some F
            refine CW.region ?_
            refine LW.pure rfl rfl (RV.add rfl rfl hg8) ?_
            refine LW.pure rfl rfl (RV.move rfl) ?_
            refine LW.nil ?_
            subst hrec4
            refine ⟨mk4, Nat.lt_succ_self _, _, ?_, t10_3, (t38_1 + 1), l7, l8, F, rfl, H⟩
            exact ⟨rfl, rfl, rfl, rfl, (look_slice rfl (by first | rfl | (simp; done) | (simp; omega))), (look_slice rfl (by first | rfl | (simp; done) | (simp; omega))), (look_slice rfl (by first | rfl | (simp; done) | (simp; omega))), rfl, rfl, rfl, (look_slice rfl (by first | rfl | (simp; done) | (simp; omega))), rfl, rfl, trivial⟩
          ·
            intro K33 hK33 jK988
            refine CW.block ?_
            refine CW.seq fun K34 hK34 => ?_
            obtain ⟨x4, hbx4, hx4, F⟩ := ix_some F
            refine CW.region ?_
            refine LW.pure rfl rfl (RV.indexAddr Ts82 rfl rfl hbx4 ((H.own 2 rfl).sl.addr_ hx4)) ?_
            refine LW.pure rfl rfl (RV.load1 Tk96 rfl ((H.own 2 rfl).sl.at_ hx4) rfl) ?_
            refine LW.pure rfl rfl (RV.assign rfl) ?_
            refine LW.nil (hK34 _ _ ?_)
            refine CW.seq fun K35 hK35 => ?_
            obtain ⟨r5, hr5, F⟩ := bnd_some F
            refine CW.region ?_
            refine LW.pure rfl rfl (RV.loadA [.slice A_a0_supply a0.supply.length c_a0_supply, .slice A_a0_demand a0.demand.length c_a0_demand, .slice A_a0_cost a0.cost.length c_a0_cost] Tk25 rfl (H.blk 3 rfl).cells rfl rfl) ?_
            refine LW.pure rfl rfl (RV.move rfl) ?_
            refine LW.go rfl rfl (OW.call Tc93 rfl (bulk_ends_ok (a0 := a0) (a1 := x4) (h_a0_supply.ext R0) (h_a0_demand.ext R0) (h_a0_cost.ext R0) hr5) ?_)
            rintro _ w12 ⟨rfl, E6⟩
            refine ⟨_, rfl, ?_⟩
            replace H := H.grow E6
            replace R0 := H.ext
            refine LW.pure rfl rfl (RV.move rfl) ?_
            refine LW.pure rfl rfl (RV.extract rfl rfl) ?_
            refine LW.pure rfl rfl (RV.extract rfl rfl) ?_
            refine LW.pure rfl rfl (RV.assign rfl) ?_
            refine LW.pure rfl rfl (RV.assign rfl) ?_
            refine LW.nil (hK35 _ _ ?_)
            refine CW.seq fun K36 hK36 => ?_
            obtain ⟨x5, hbx5, hx5, F⟩ := ix_some F
            obtain ⟨r6, hr6, F⟩ := bnd_some F
            obtain ⟨hg9, F⟩ := gd_some F
            refine CW.draw [] (fun _ => True) (.cons 0 1 (.cons 1 1 (.cons 2 1 (.cons 3 1 (.cons 4 1 (.cons 5 1 (.cons 6 0 (.cons 7 1 (.cons 8 1 .nil))))))))) mixed (by kernel_rfl) fun w13 E7 => ?_
            replace H := H.grow E7
            replace R0 := H.ext
            refine DW.fix rfl rfl rfl (fun _ EQ => RV.move rfl) ?_
            refine DW.fix rfl rfl rfl (fun _ EQ => RV.move rfl) ?_
            refine DW.fix rfl rfl rfl (fun _ EQ => RV.indexAddr Ts22 rfl rfl hbx5 ⟨_, rfl⟩) ?_
            refine DW.fix rfl rfl rfl (fun _ EQ => RV.load1 Tk3 rfl (((H.grow EQ).own 0 rfl).sl.at_ hx5) rfl) ?_
            refine DW.fix rfl rfl rfl (fun _ EQ => RV.move rfl) ?_
            refine DW.fix rfl rfl rfl (fun _ EQ => RV.loadA [.slice A_a0_supply a0.supply.length c_a0_supply, .slice A_a0_demand a0.demand.length c_a0_demand, .slice A_a0_cost a0.cost.length c_a0_cost] Tk25 rfl ((H.grow EQ).blk 3 rfl).cells rfl rfl) ?_
            refine DW.sole rfl rfl rfl (OW.invoke rfl rfl (Step_cost_ok (x := x4) (a1 := a0) ⟨fun y w => by kernel_rfl, fun y w => by kernel_rfl⟩ (h_a0_supply.ext R0) (h_a0_demand.ext R0) (h_a0_cost.ext R0) hr6) ?_)
            rintro _ w14 ⟨rfl, E8⟩
            refine ⟨_, rfl, fun _ => E8, ModX.ext E8, ?_⟩
            replace H := H.grow E8
            replace R0 := H.ext
            refine DW.fix rfl rfl rfl (fun _ EQ => RV.add rfl rfl hg9) ?_
            refine DW.fix rfl rfl rfl (fun _ EQ => RV.assign rfl) ?_
            refine DW.nil (hK36 _ _ ?_)
            refine CW.seq fun K37 hK37 => ?_
            obtain ⟨x6, hbx6, hx6, F⟩ := ix_some F
            refine CW.region ?_
            refine LW.pure rfl rfl (RV.move rfl) ?_
            refine LW.pure rfl rfl (RV.move rfl) ?_
            refine LW.pure rfl rfl (RV.move rfl) ?_
            refine LW.pure rfl rfl (RV.indexAddr Ts22 rfl rfl hbx6 ⟨_, rfl⟩) ?_
            refine LW.pure rfl rfl (RV.load1 Tk3 rfl ((H.own 0 rfl).sl.at_ hx6) rfl) ?_
            refine LW.pure rfl rfl (RV.lss rfl rfl) ?_
            refine LW.nil (hK37 _ _ ?_)
            by_cases hp7 : (x5 + r6) < x6
            ·
              replace F := ite_y hp7 F
              have hq7 := dec_t hp7
              refine CW.condT rfl hq7 ?_
              obtain ⟨x7, hbx7, hx7, F⟩ := ix_some F
              obtain ⟨x8, hbx8, hx8, F⟩ := ix_some F
              refine CW.region ?_
              refine LW.pure rfl rfl (RV.move rfl) ?_
              refine LW.pure rfl rfl (RV.move rfl) ?_
              refine LW.pure rfl rfl (RV.move rfl) ?_
              refine LW.pure rfl rfl (RV.move rfl) ?_
              refine LW.pure rfl rfl (RV.move rfl) ?_
              refine LW.pure rfl rfl (RV.move rfl) ?_
              refine LW.pure rfl rfl (RV.move rfl) ?_
              refine LW.pure rfl rfl (RV.indexAddr Ts22 rfl rfl hbx7 ⟨_, rfl⟩) ?_
              refine LW.go rfl rfl (OW.storeO (enc := encN) (vs := [.int .i64 (x5 + r6)]) 0 (x5 + r6) Tk3 rfl rfl (H.own 0 rfl) (fun _ => rfl) rfl hx7 rfl rfl (by decide) rfl rfl fun w15 M2 O2 => ?_)
              replace H : Hp w w15 [.own (some ⟨b2, 0, none⟩) (((List.replicate (Int.toNat (((a0.supply.length : Int)) + ((a0.demand.length : Int)))) (0 : Int))).length) 3 1 (List.map encN ((l9.set (Int.toNat r5.2) (x5 + r6)))), .own (some ⟨b3, 0, none⟩) (((List.replicate (Int.toNat (((a0.supply.length : Int)) + ((a0.demand.length : Int)))) (Step.nil : Step))).length) 96 1 (List.map encStep l10), .own A160_0 c160_0 96 1 (List.map encStep r4), .blk b1 25 [.slice A_a0_supply a0.supply.length c_a0_supply, .slice A_a0_demand a0.demand.length c_a0_demand, .slice A_a0_cost a0.cost.length c_a0_cost]] := H.mod 0 rfl M2 O2 (.inl rfl)
              replace R0 := H.ext
              refine LW.pure rfl rfl (RV.indexAddr Ts82 rfl rfl hbx8 ⟨_, rfl⟩) ?_
              refine LW.go rfl rfl (OW.storeO (enc := encStep) (vs := [encStepV x4]) 0 (x4) Tk96 rfl rfl (H.own 1 rfl) (fun _ => rfl) rfl hx8 (by generalize x4 = q; cases q <;> rfl) rfl (by decide) (by generalize x4 = q; cases q <;> rfl) rfl fun w16 M3 O3 => ?_)
              replace H : Hp w w16 [.own (some ⟨b2, 0, none⟩) (((List.replicate (Int.toNat (((a0.supply.length : Int)) + ((a0.demand.length : Int)))) (0 : Int))).length) 3 1 (List.map encN ((l9.set (Int.toNat r5.2) (x5 + r6)))), .own (some ⟨b3, 0, none⟩) (((List.replicate (Int.toNat (((a0.supply.length : Int)) + ((a0.demand.length : Int)))) (Step.nil : Step))).length) 96 1 (List.map encStep ((l10.set (Int.toNat r5.2) x4))), .own A160_0 c160_0 96 1 (List.map encStep r4), .blk b1 25 [.slice A_a0_supply a0.supply.length c_a0_supply, .slice A_a0_demand a0.demand.length c_a0_demand, .slice A_a0_cost a0.cost.length c_a0_cost]] := H.mod 1 rfl M3 O3 (.inl rfl)
              replace R0 := H.ext
              refine LW.pure rfl rfl (RV.assign rfl) ?_
              refine LW.nil (jK988 _ _ ⟨_, ?_, ⟨r5.2, ((l9.set (Int.toNat r5.2) (x5 + r6))), ((l10.set (Int.toNat r5.2) x4)), F, rfl, H⟩⟩)
              exact ⟨rfl, rfl, rfl, rfl, (look_slice rfl (by first | rfl | (simp; done) | (simp; omega))), (look_slice rfl (by first | rfl | (simp; done) | (simp; omega))), (look_slice rfl (by first | rfl | (simp; done) | (simp; omega))), rfl, rfl, rfl, (look_slice rfl (by first | rfl | (simp; done) | (simp; omega))), rfl, rfl, trivial⟩
            ·
              replace F := ite_n hp7 F
              have hq7 := dec_f hp7
              refine CW.condF rfl hq7 ?_
              refine CW.skip (jK988 _ _ ⟨_, ?_, ⟨t10_4, l9, l10, F, rfl, H⟩⟩)
              exact ⟨rfl, rfl, rfl, rfl, (look_slice rfl (by first | rfl | (simp; done) | (simp; omega))), (look_slice rfl (by first | rfl | (simp; done) | (simp; omega))), (look_slice rfl (by first | rfl | (simp; done) | (simp; omega))), rfl, rfl, rfl, (look_slice rfl (by first | rfl | (simp; done) | (simp; omega))), rfl, rfl, trivial⟩
        ·
          replace F := ite_n hp6 F
          have hq6 := dec_f hp6
          refine CW.condF rfl hq6 ?_
          refine CW.exit (jK957 _ _ ⟨_, ?_, ⟨t10_4, l9, l10, F, rfl, H⟩⟩)
          exact ⟨rfl, rfl, rfl, rfl, (look_slice rfl (by first | rfl | (simp; done) | (simp; omega))), (look_slice rfl (by first | rfl | (simp; done) | (simp; omega))), (look_slice rfl (by first | rfl | (simp; done) | (simp; omega))), rfl, rfl, rfl, trivial⟩
    ·
      replace F := ite_n hp5 F
      have hq5 := dec_f hp5
      refine CW.condF rfl hq5 ?_
      replace H := H.pick (L' := [.own (some ⟨b2, 0, none⟩) (((List.replicate (Int.toNat (((a0.supply.length : Int)) + ((a0.demand.length : Int)))) (0 : Int))).length) 3 1 (List.map encN l11), .own (some ⟨b3, 0, none⟩) (((List.replicate (Int.toNat (((a0.supply.length : Int)) + ((a0.demand.length : Int)))) (Step.nil : Step))).length) 96 1 (List.map encStep l12), .blk b1 25 [.slice A_a0_supply a0.supply.length c_a0_supply, .slice A_a0_demand a0.demand.length c_a0_demand, .slice A_a0_cost a0.cost.length c_a0_cost]]) [0, 1, 3] (by decide) rfl
      replace R0 := H.ext
      refine CW.exit (jK772 _ _ ⟨_, ?_, ⟨t10_5, l11, l12, F, rfl, H⟩⟩)
      exact ⟨rfl, rfl, rfl, rfl, (look_slice rfl (by first | rfl | (simp; done) | (simp; omega))), (look_slice rfl (by first | rfl | (simp; done) | (simp; omega))), rfl, trivial⟩
end Go.D7
