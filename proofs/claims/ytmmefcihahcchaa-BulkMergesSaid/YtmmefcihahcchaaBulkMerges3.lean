/- Lemmas and walks that the proof of this claim uses: D7m3, D7m4, D7m5. -/
import Derived.Test.YtmmefcihahcchaaBulkMerges2
set_option linter.unusedVariables false
set_option linter.unusedSimpArgs false
namespace Go.D7
open Go.Tb Go.Proofs Go.RowKit
theorem Tc116 : callable Try.prog 116 = true := by kernel_rfl
theorem Tc117 : callable Try.prog 117 = true := by kernel_rfl
theorem Tc92 : callable Try.prog 92 = true := by kernel_rfl
theorem Tc93 : callable Try.prog 93 = true := by kernel_rfl
theorem Tc94 : callable Try.prog 94 = true := by kernel_rfl
theorem Tf102_0 : tyF Try.prog 102 0 = some 0 := by kernel_rfl
theorem Tf102_1 : tyF Try.prog 102 1 = some 1 := by kernel_rfl
theorem Tf104_0 : tyF Try.prog 104 0 = some 0 := by kernel_rfl
theorem Tf104_1 : tyF Try.prog 104 1 = some 1 := by kernel_rfl
theorem Tk102 : tyK Try.prog 102 = some (true, 2) := by kernel_rfl
theorem Tk104 : tyK Try.prog 104 = some (true, 2) := by kernel_rfl
theorem Tk96 : tyK Try.prog 96 = some (false, 1) := by kernel_rfl
theorem Tz102 : tyZ Try.prog 102 = some (.agg #[.int .i64 0, .int .i64 0]) := by kernel_rfl
theorem Tz104 : tyZ Try.prog 104 = some (.agg #[.int .i64 0, .int .i64 0]) := by kernel_rfl
theorem AI96_102 (x : Step) : AssertM Try.prog 102 (encStepV x) (.tuple #[.agg #[.int .i64 (((Step.asLess x)).store), .int .i64 (((Step.asLess x)).buyer)], .bool (Step.isLess x)]) := by
  cases x with
  | nil => exact AssertM.nil Try.underlying102 rfl Tz102
  | i_less y => exact AssertM.yes Try.underlying102 rfl
  | i_more y => exact AssertM.no Try.underlying102 rfl Tz102 (by decide)
theorem AI96_104 (x : Step) : AssertM Try.prog 104 (encStepV x) (.tuple #[.agg #[.int .i64 (((Step.asMore x)).store), .int .i64 (((Step.asMore x)).buyer)], .bool (Step.isMore x)]) := by
  cases x with
  | nil => exact AssertM.nil Try.underlying104 rfl Tz104
  | i_less y => exact AssertM.no Try.underlying104 rfl Tz104 (by decide)
  | i_more y => exact AssertM.yes Try.underlying104 rfl
set_option maxRecDepth 20000 in
set_option maxHeartbeats 1000000 in
theorem bulk_ends_ok {a0 : Trade} {a1 : Step} {A_a0_supply : Option Addr} {c_a0_supply : Nat} {A_a0_demand : Option Addr} {c_a0_demand : Nat} {A_a0_cost : Option Addr} {c_a0_cost : Nat} {w : World} {res : Int × Int} (h_a0_supply : Sl w A_a0_supply c_a0_supply 1 (a0.supply.map encN)) (h_a0_demand : Sl w A_a0_demand c_a0_demand 1 (a0.demand.map encN)) (h_a0_cost : Sl2 w A_a0_cost c_a0_cost 1 encN a0.cost) (F : bulk_ends a0 a1 = some res) : Calls Try.prog 93 #[.agg #[.slice A_a0_supply a0.supply.length c_a0_supply, .slice A_a0_demand a0.demand.length c_a0_demand, .slice A_a0_cost a0.cost.length c_a0_cost], encStepV a1] w (Rt w (.tuple #[.int .i64 res.1, .int .i64 res.2])) := by
  refine calls_of_cw (args := [.agg #[.slice A_a0_supply a0.supply.length c_a0_supply, .slice A_a0_demand a0.demand.length c_a0_demand, .slice A_a0_cost a0.cost.length c_a0_cost], encStepV a1]) Try.func93 rfl rfl rfl rfl ?_
  have H := Hp.start w
  have R0 := H.ext
  unfold bulk_ends at F
  refine CW.seq fun K1 hK1 => ?_
  refine CW.region ?_
  refine LW.go rfl rfl (OW.box rfl fun b1 w1 N1 => ?_)
  replace H := H.new N1 N1.blk
  replace R0 := H.ext
  refine LW.pure rfl rfl (RV.assign rfl) ?_
  refine LW.pure rfl rfl (RV.assign rfl) ?_
  refine LW.nil (hK1 _ _ ?_)
  refine CW.seq fun K2 hK2 => ?_
  refine CW.seq fun K3 hK3 => ?_
  refine CW.region ?_
  refine LW.pure rfl rfl (RV.move rfl) ?_
  refine LW.nil (hK3 _ _ ?_)
  refine CW.block ?_
  refine CW.seq fun K4 hK4 => ?_
  refine CW.region ?_
  refine LW.pure rfl rfl (RV.assertM rfl (AI96_104 a1)) ?_
  refine LW.pure rfl rfl (RV.extract rfl rfl) ?_
  refine LW.pure rfl rfl (RV.extract rfl rfl) ?_
  refine LW.nil (hK4 _ _ ?_)
  by_cases hp1 : ((Step.isMore a1)) = true
  ·
    replace F := ite_y hp1 F
    have hq1 : ((Step.isMore a1)) = true := hp1
    refine CW.condT rfl hq1 ?_
    refine CW.seq fun K5 hK5 => ?_
    refine CW.region ?_
    refine LW.go rfl rfl (OW.alloc Tz104 fun b2 w2 N2 => ?_)
    replace H := H.new N2 N2.blk
    replace R0 := H.ext
    refine LW.go rfl rfl (OW.store Tk104 rfl rfl (H.blk 0 rfl) (off := 0) (vs := [.int .i64 (((Step.asMore a1)).store), .int .i64 (((Step.asMore a1)).buyer)]) rfl rfl rfl rfl rfl fun w3 S1 => ?_)
    replace H : Hp w w3 [.blk b2 104 [.int .i64 (((Step.asMore a1)).store), .int .i64 (((Step.asMore a1)).buyer)], .blk b1 25 [.slice A_a0_supply a0.supply.length c_a0_supply, .slice A_a0_demand a0.demand.length c_a0_demand, .slice A_a0_cost a0.cost.length c_a0_cost]] := H.stored 0 rfl S1
    replace R0 := H.ext
    refine LW.nil (hK5 _ _ ?_)
    refine CW.seq fun K6 hK6 => ?_
    obtain ⟨hg1, F⟩ := gd_some F
    refine CW.draw [] (fun _ => True) (.cons 0 1 (.cons 1 1 (.cons 2 1 (.cons 3 1 (.cons 4 1 (.cons 5 1 (.cons 6 1 (.cons 7 1 (.cons 8 1 (.cons 9 1 .nil)))))))))) mixed (by kernel_rfl) fun w4 E1 => ?_
    replace H := H.grow E1
    replace R0 := H.ext
    refine DW.fix rfl rfl rfl (fun _ EQ => RV.fieldAddr Tf104_0 rfl) ?_
    refine DW.fix rfl rfl rfl (fun _ EQ => RV.load1 Tk3 rfl (((H.grow EQ).blk 0 rfl).cells.off 0) rfl) ?_
    refine DW.fix rfl rfl rfl (fun _ EQ => RV.fieldAddr Tf25_0 rfl) ?_
    refine DW.fix rfl rfl rfl (fun _ EQ => RV.load1 Tk22 rfl (((H.grow EQ).blk 1 rfl).cells.off 0) rfl) ?_
    refine DW.fix rfl rfl rfl (fun _ EQ => RV.len Ts22 rfl) ?_
    refine DW.fix rfl rfl rfl (fun _ EQ => RV.fieldAddr Tf104_1 rfl) ?_
    refine DW.fix rfl rfl rfl (fun _ EQ => RV.load1 Tk3 rfl (((H.grow EQ).blk 0 rfl).cells.off 1) rfl) ?_
    refine DW.fix rfl rfl rfl (fun _ EQ => RV.add rfl rfl hg1) ?_
    refine DW.fix rfl rfl rfl (fun _ EQ => RV.assign rfl) ?_
    refine DW.fix rfl rfl rfl (fun _ EQ => RV.assign rfl) ?_
    refine DW.nil (hK6 _ _ ?_)
    refine CW.ret ?_
    obtain rfl := Option.some.inj F
    refine ⟨_, (ResOK.two rfl rfl), ?_⟩
    refine ⟨(by first | rfl | simp), R0⟩
  ·
    replace F := ite_n hp1 F
    have hq1 : ((Step.isMore a1)) = false := raw_f hp1
    refine CW.condF rfl hq1 ?_
    refine CW.seq fun K7 hK7 => ?_
    refine CW.region ?_
    refine LW.pure rfl rfl (RV.assertM rfl (AI96_102 a1)) ?_
    refine LW.pure rfl rfl (RV.extract rfl rfl) ?_
    refine LW.pure rfl rfl (RV.extract rfl rfl) ?_
    refine LW.nil (hK7 _ _ ?_)
    by_cases hp2 : ((Step.isLess a1)) = true
    ·
      replace F := ite_y hp2 F
      have hq2 : ((Step.isLess a1)) = true := hp2
      refine CW.condT rfl hq2 ?_
      refine CW.seq fun K8 hK8 => ?_
      refine CW.region ?_
      refine LW.go rfl rfl (OW.alloc Tz102 fun b3 w5 N3 => ?_)
      replace H := H.new N3 N3.blk
      replace R0 := H.ext
      refine LW.go rfl rfl (OW.store Tk102 rfl rfl (H.blk 0 rfl) (off := 0) (vs := [.int .i64 (((Step.asLess a1)).store), .int .i64 (((Step.asLess a1)).buyer)]) rfl rfl rfl rfl rfl fun w6 S2 => ?_)
      replace H : Hp w w6 [.blk b3 102 [.int .i64 (((Step.asLess a1)).store), .int .i64 (((Step.asLess a1)).buyer)], .blk b1 25 [.slice A_a0_supply a0.supply.length c_a0_supply, .slice A_a0_demand a0.demand.length c_a0_demand, .slice A_a0_cost a0.cost.length c_a0_cost]] := H.stored 0 rfl S2
      replace R0 := H.ext
      refine LW.nil (hK8 _ _ ?_)
      refine CW.seq fun K9 hK9 => ?_
      obtain ⟨hg2, F⟩ := gd_some F
      refine CW.draw [] (fun _ => True) (.cons 0 1 (.cons 1 1 (.cons 2 1 (.cons 3 1 (.cons 4 1 (.cons 5 1 (.cons 6 1 (.cons 7 1 (.cons 8 1 (.cons 9 1 .nil)))))))))) mixed (by kernel_rfl) fun w7 E2 => ?_
      replace H := H.grow E2
      replace R0 := H.ext
      refine DW.fix rfl rfl rfl (fun _ EQ => RV.fieldAddr Tf25_0 rfl) ?_
      refine DW.fix rfl rfl rfl (fun _ EQ => RV.load1 Tk22 rfl (((H.grow EQ).blk 1 rfl).cells.off 0) rfl) ?_
      refine DW.fix rfl rfl rfl (fun _ EQ => RV.len Ts22 rfl) ?_
      refine DW.fix rfl rfl rfl (fun _ EQ => RV.fieldAddr Tf102_1 rfl) ?_
      refine DW.fix rfl rfl rfl (fun _ EQ => RV.load1 Tk3 rfl (((H.grow EQ).blk 0 rfl).cells.off 1) rfl) ?_
      refine DW.fix rfl rfl rfl (fun _ EQ => RV.add rfl rfl hg2) ?_
      refine DW.fix rfl rfl rfl (fun _ EQ => RV.fieldAddr Tf102_0 rfl) ?_
      refine DW.fix rfl rfl rfl (fun _ EQ => RV.load1 Tk3 rfl (((H.grow EQ).blk 0 rfl).cells.off 0) rfl) ?_
      refine DW.fix rfl rfl rfl (fun _ EQ => RV.assign rfl) ?_
      refine DW.fix rfl rfl rfl (fun _ EQ => RV.assign rfl) ?_
      refine DW.nil (hK9 _ _ ?_)
      refine CW.ret ?_
      obtain rfl := Option.some.inj F
      refine ⟨_, (ResOK.two rfl rfl), ?_⟩
      refine ⟨(by first | rfl | simp), R0⟩
    ·
      replace F := ite_n hp2 F
      have hq2 : ((Step.isLess a1)) = false := raw_f hp2
      refine CW.condF rfl hq2 ?_
      refine CW.skip (hK2 _ _ ?_)
      refine CW.seq fun K10 hK10 => ?_
      refine CW.region ?_
      refine LW.pure rfl rfl (RV.assign rfl) ?_
      refine LW.pure rfl rfl (RV.assign rfl) ?_
      refine LW.nil (hK10 _ _ ?_)
      refine CW.ret ?_
      obtain rfl := Option.some.inj F
      refine ⟨_, (ResOK.two rfl rfl), ?_⟩
      refine ⟨(by first | rfl | simp), R0⟩
set_option maxRecDepth 20000 in
set_option maxHeartbeats 1000000 in
theorem bulk_less_cost_ok {a0 : Less} {a1 : Trade} {A_a1_supply : Option Addr} {c_a1_supply : Nat} {A_a1_demand : Option Addr} {c_a1_demand : Nat} {A_a1_cost : Option Addr} {c_a1_cost : Nat} {w : World} {res : Int} (h_a1_supply : Sl w A_a1_supply c_a1_supply 1 (a1.supply.map encN)) (h_a1_demand : Sl w A_a1_demand c_a1_demand 1 (a1.demand.map encN)) (h_a1_cost : Sl2 w A_a1_cost c_a1_cost 1 encN a1.cost) (F : bulk_less_cost a0 a1 = some res) : Calls Try.prog 116 #[.agg #[.int .i64 a0.store, .int .i64 a0.buyer], .agg #[.slice A_a1_supply a1.supply.length c_a1_supply, .slice A_a1_demand a1.demand.length c_a1_demand, .slice A_a1_cost a1.cost.length c_a1_cost]] w (Rt w (.int .i64 res)) := by
  refine calls_of_cw (args := [.agg #[.int .i64 a0.store, .int .i64 a0.buyer], .agg #[.slice A_a1_supply a1.supply.length c_a1_supply, .slice A_a1_demand a1.demand.length c_a1_demand, .slice A_a1_cost a1.cost.length c_a1_cost]]) Try.func116 rfl rfl rfl rfl ?_
  have H := Hp.start w
  have R0 := H.ext
  unfold bulk_less_cost at F
  refine CW.seq fun K1 hK1 => ?_
  refine CW.region ?_
  refine LW.go rfl rfl (OW.box rfl fun b1 w1 N1 => ?_)
  replace H := H.new N1 N1.blk
  replace R0 := H.ext
  refine LW.go rfl rfl (OW.box rfl fun b2 w2 N2 => ?_)
  replace H := H.new N2 N2.blk
  replace R0 := H.ext
  refine LW.pure rfl rfl (RV.assign rfl) ?_
  refine LW.nil (hK1 _ _ ?_)
  refine CW.seq fun K2 hK2 => ?_
  obtain ⟨x1, hbx1, hx1, F⟩ := ix_some F
  obtain ⟨x2, hbx2, hx2, F⟩ := ix_some F
  obtain ⟨hg1, F⟩ := gd_some F
  refine CW.draw [] (fun _ => True) (.cons 0 1 (.cons 1 1 (.cons 2 1 (.cons 3 1 (.cons 4 1 (.cons 5 1 (.cons 6 1 (.cons 7 1 (.cons 8 1 (.cons 9 1 (.cons 10 1 (.cons 11 1 .nil)))))))))))) mixed (by kernel_rfl) fun w3 E1 => ?_
  replace H := H.grow E1
  replace R0 := H.ext
  refine DW.fix rfl rfl rfl (fun _ EQ => RV.fieldAddr Tf25_2 rfl) ?_
  refine DW.fix rfl rfl rfl (fun _ EQ => RV.load1 Tk23 rfl (((H.grow EQ).blk 0 rfl).cells.off 2) rfl) ?_
  refine DW.fix rfl rfl rfl (fun _ EQ => RV.fieldAddr Tf102_0 rfl) ?_
  refine DW.fix rfl rfl rfl (fun _ EQ => RV.load1 Tk3 rfl (((H.grow EQ).blk 1 rfl).cells.off 0) rfl) ?_
  obtain ⟨A1, c1, hC1, hS1⟩ := h_a1_cost.at_ hx1
  refine DW.fix rfl rfl rfl (fun _ EQ => RV.indexAddr Ts23 rfl rfl hbx1 (h_a1_cost.addr hbx1)) ?_
  refine DW.fix rfl rfl rfl (fun _ EQ => RV.load1 Tk22 rfl (hC1.ext (R0.trans EQ)) rfl) ?_
  refine DW.fix rfl rfl rfl (fun _ EQ => RV.fieldAddr Tf102_1 rfl) ?_
  refine DW.fix rfl rfl rfl (fun _ EQ => RV.load1 Tk3 rfl (((H.grow EQ).blk 1 rfl).cells.off 1) rfl) ?_
  refine DW.fix rfl rfl rfl (fun _ EQ => RV.indexAddr Ts22 rfl rfl hbx2 (hS1.addr_ hx2)) ?_
  refine DW.fix rfl rfl rfl (fun _ EQ => RV.load1 Tk3 rfl ((hS1.at_ hx2).ext (R0.trans EQ)) rfl) ?_
  refine DW.fix rfl rfl rfl (fun _ EQ => RV.neg rfl hg1) ?_
  refine DW.fix rfl rfl rfl (fun _ EQ => RV.assign rfl) ?_
  refine DW.nil (hK2 _ _ ?_)
  refine CW.ret ?_
  obtain rfl := Option.some.inj F
  refine ⟨_, (ResOK.one rfl), ?_⟩
  refine ⟨(by first | rfl | simp), R0⟩
set_option maxRecDepth 20000 in
set_option maxHeartbeats 1000000 in
theorem bulk_more_cost_ok {a0 : More} {a1 : Trade} {A_a1_supply : Option Addr} {c_a1_supply : Nat} {A_a1_demand : Option Addr} {c_a1_demand : Nat} {A_a1_cost : Option Addr} {c_a1_cost : Nat} {w : World} {res : Int} (h_a1_supply : Sl w A_a1_supply c_a1_supply 1 (a1.supply.map encN)) (h_a1_demand : Sl w A_a1_demand c_a1_demand 1 (a1.demand.map encN)) (h_a1_cost : Sl2 w A_a1_cost c_a1_cost 1 encN a1.cost) (F : bulk_more_cost a0 a1 = some res) : Calls Try.prog 117 #[.agg #[.int .i64 a0.store, .int .i64 a0.buyer], .agg #[.slice A_a1_supply a1.supply.length c_a1_supply, .slice A_a1_demand a1.demand.length c_a1_demand, .slice A_a1_cost a1.cost.length c_a1_cost]] w (Rt w (.int .i64 res)) := by
  refine calls_of_cw (args := [.agg #[.int .i64 a0.store, .int .i64 a0.buyer], .agg #[.slice A_a1_supply a1.supply.length c_a1_supply, .slice A_a1_demand a1.demand.length c_a1_demand, .slice A_a1_cost a1.cost.length c_a1_cost]]) Try.func117 rfl rfl rfl rfl ?_
  have H := Hp.start w
  have R0 := H.ext
  unfold bulk_more_cost at F
  refine CW.seq fun K1 hK1 => ?_
  refine CW.region ?_
  refine LW.go rfl rfl (OW.box rfl fun b1 w1 N1 => ?_)
  replace H := H.new N1 N1.blk
  replace R0 := H.ext
  refine LW.go rfl rfl (OW.box rfl fun b2 w2 N2 => ?_)
  replace H := H.new N2 N2.blk
  replace R0 := H.ext
  refine LW.pure rfl rfl (RV.assign rfl) ?_
  refine LW.nil (hK1 _ _ ?_)
  refine CW.seq fun K2 hK2 => ?_
  obtain ⟨x1, hbx1, hx1, F⟩ := ix_some F
  obtain ⟨x2, hbx2, hx2, F⟩ := ix_some F
  refine CW.draw [] (fun _ => True) (.cons 0 1 (.cons 1 1 (.cons 2 1 (.cons 3 1 (.cons 4 1 (.cons 5 1 (.cons 6 1 (.cons 7 1 (.cons 8 1 (.cons 9 1 (.cons 10 1 .nil))))))))))) mixed (by kernel_rfl) fun w3 E1 => ?_
  replace H := H.grow E1
  replace R0 := H.ext
  refine DW.fix rfl rfl rfl (fun _ EQ => RV.fieldAddr Tf25_2 rfl) ?_
  refine DW.fix rfl rfl rfl (fun _ EQ => RV.load1 Tk23 rfl (((H.grow EQ).blk 0 rfl).cells.off 2) rfl) ?_
  refine DW.fix rfl rfl rfl (fun _ EQ => RV.fieldAddr Tf104_0 rfl) ?_
  refine DW.fix rfl rfl rfl (fun _ EQ => RV.load1 Tk3 rfl (((H.grow EQ).blk 1 rfl).cells.off 0) rfl) ?_
  obtain ⟨A1, c1, hC1, hS1⟩ := h_a1_cost.at_ hx1
  refine DW.fix rfl rfl rfl (fun _ EQ => RV.indexAddr Ts23 rfl rfl hbx1 (h_a1_cost.addr hbx1)) ?_
  refine DW.fix rfl rfl rfl (fun _ EQ => RV.load1 Tk22 rfl (hC1.ext (R0.trans EQ)) rfl) ?_
  refine DW.fix rfl rfl rfl (fun _ EQ => RV.fieldAddr Tf104_1 rfl) ?_
  refine DW.fix rfl rfl rfl (fun _ EQ => RV.load1 Tk3 rfl (((H.grow EQ).blk 1 rfl).cells.off 1) rfl) ?_
  refine DW.fix rfl rfl rfl (fun _ EQ => RV.indexAddr Ts22 rfl rfl hbx2 (hS1.addr_ hx2)) ?_
  refine DW.fix rfl rfl rfl (fun _ EQ => RV.load1 Tk3 rfl ((hS1.at_ hx2).ext (R0.trans EQ)) rfl) ?_
  refine DW.fix rfl rfl rfl (fun _ EQ => RV.assign rfl) ?_
  refine DW.nil (hK2 _ _ ?_)
  refine CW.ret ?_
  obtain rfl := Option.some.inj F
  refine ⟨_, (ResOK.one rfl), ?_⟩
  refine ⟨(by first | rfl | simp), R0⟩
set_option maxRecDepth 20000 in
set_option maxHeartbeats 1000000 in
theorem slices_Reverse_step_ok {a0 : List Step} {A_a0 : Option Addr} {c_a0 : Nat} {wb : World} {R : List Ck} {w : World} {res : (List Step)} (H : Hp wb w ([.own A_a0 c_a0 96 1 (List.map encStep a0)] ++ R)) (F : slices_Reverse_step a0 = some res) : Calls Try.prog 94 #[.slice A_a0 a0.length c_a0] w (fun e w' => e = .returned (.tuple #[]) ∧ res.length = a0.length ∧ Hp wb w' ([.own A_a0 c_a0 96 1 (List.map encStep res)] ++ R)) := by
  refine calls_of_cw (args := [.slice A_a0 a0.length c_a0]) Try.func94 rfl rfl rfl rfl ?_
  have R0 := H.ext
  unfold slices_Reverse_step at F
  refine CW.seq fun K1 hK1 => ?_
  obtain ⟨hg1, F⟩ := gd_some F
  refine CW.region ?_
  refine LW.pure rfl rfl (RV.move rfl) ?_
  refine LW.pure rfl rfl (RV.len Ts82 rfl) ?_
  refine LW.pure rfl rfl (RV.sub rfl rfl hg1) ?_
  refine LW.pure rfl rfl (RV.assign rfl) ?_
  refine LW.pure rfl rfl (RV.assign rfl) ?_
  refine LW.nil (hK1 _ _ ?_)
  refine CW.block ?_
  refine CW.loop (fun meas ρ wl1 => ∃ (t2_1 : Int) (t3_1 : Int) (l1 : List Step), slices_Reverse_step_L1 meas t2_1 t3_1 l1 = some res ∧ ρ = [(0, .slice A_a0 l1.length c_a0), (2, .int .i64 t2_1), (3, .int .i64 t3_1)] ∧ Hp wb wl1 ([.own A_a0 c_a0 96 1 (List.map encStep l1)] ++ R) ∧ l1.length = a0.length) FU ⟨_, ?_, ((0 : Int)), (((a0.length : Int)) - 1), a0, F, rfl, H, (show a0.length = a0.length by first | rfl | assumption | omega | (simp; done) | (simp; assumption) | (simp; omega))⟩ ?_
  · exact ⟨(look_slice rfl (by first | rfl | (simp; done) | (simp; omega))), rfl, rfl, trivial⟩
  rintro mk1 _ wl1 ⟨t2_1, t3_1, l1, F, rfl, H, hl1⟩
  have R0 := H.ext
  replace F := slices_Reverse_step_L1_s F
  obtain ⟨mk1, rfl, F⟩ := F
  generalize hrec1 : slices_Reverse_step_L1 mk1 = rec1 at F
  unfold slices_Reverse_step_B1 at F
  refine CW.seq fun K2 hK2 => ?_
  refine CW.seq fun K3 hK3 => ?_
  refine CW.region ?_
  refine LW.pure rfl rfl (RV.move rfl) ?_
  refine LW.pure rfl rfl (RV.move rfl) ?_
  refine LW.pure rfl rfl (RV.lss rfl rfl) ?_
  refine LW.nil (hK3 _ _ ?_)
  by_cases hp1 : t2_1 < t3_1
  ·
    replace F := ite_y hp1 F
    have hq1 := dec_t hp1
    refine CW.condT rfl hq1 ?_
    refine CW.skip (hK2 _ _ ?_)
    refine CW.seq fun K4 hK4 => ?_
    refine CW.block ?_
    obtain ⟨x1, hbx1, hx1, F⟩ := ix_some F
    obtain ⟨x2, hbx2, hx2, F⟩ := ix_some F
    obtain ⟨x3, hbx3, hx3, F⟩ := ix_some F
    obtain ⟨x4, hbx4, hx4, F⟩ := ix_some F
    refine CW.draw [13, 15] (fun _ => True) (.cons 0 1 (.cons 1 1 (.cons 4 1 (.cons 5 1 (.cons 6 1 (.cons 7 1 (.cons 2 2 (.cons 3 2 (.cons 8 2 (.cons 9 2 (.cons 10 2 (.cons 11 1 (.cons 12 1 (.cons 13 0 (.cons 14 2 (.cons 15 0 .nil)))))))))))))))) mixed (by kernel_rfl) fun w1 E1 => ?_
    replace H := H.grow E1
    replace R0 := H.ext
    refine DW.fix rfl rfl rfl (fun _ EQ => RV.move rfl) ?_
    refine DW.fix rfl rfl rfl (fun _ EQ => RV.move rfl) ?_
    refine DW.fix rfl rfl rfl (fun _ EQ => RV.move rfl) ?_
    refine DW.fix rfl rfl rfl (fun _ EQ => RV.move rfl) ?_
    refine DW.fix rfl rfl rfl (fun _ EQ => RV.indexAddr Ts82 rfl rfl hbx1 ((H.own 0 rfl).sl.addr_ hx1)) ?_
    refine DW.fix rfl rfl rfl (fun _ EQ => RV.load1 Tk96 rfl (((H.grow EQ).own 0 rfl).sl.at_ hx1) rfl) ?_
    refine DW.thru rfl rfl rfl (fun _ EQ => RV.move rfl) ?_
    refine DW.thru rfl rfl rfl (fun _ EQ => RV.move rfl) ?_
    refine DW.thru rfl rfl rfl (fun _ EQ => RV.move rfl) ?_
    refine DW.thru rfl rfl rfl (fun _ EQ => RV.move rfl) ?_
    refine DW.thru rfl rfl rfl (fun _ EQ => RV.indexAddr Ts82 rfl rfl hbx2 ((H.own 0 rfl).sl.addr_ hx2)) ?_
    refine DW.fix rfl rfl rfl (fun _ EQ => RV.load1 Tk96 rfl (((H.grow EQ).own 0 rfl).sl.at_ hx2) rfl) ?_
    refine DW.fix rfl rfl rfl (fun _ EQ => RV.indexAddr Ts82 rfl rfl hbx3 ((H.own 0 rfl).sl.addr_ hx3)) ?_
    refine DW.sole rfl rfl rfl (OW.storeO (enc := encStep) (vs := [encStepV x1]) 0 (x1) Tk96 rfl rfl (H.own 0 rfl) (fun _ => rfl) rfl hx3 (by generalize x1 = q; cases q <;> rfl) rfl (by decide) (by generalize x1 = q; cases q <;> rfl) rfl fun w2 M1 O1 => ?_)
    refine ⟨fun h => absurd h (by decide), M1.modx (fun _ _ => trivial), ?_⟩
    replace H : Hp wb w2 ([.own A_a0 c_a0 96 1 (List.map encStep ((l1.set (Int.toNat t2_1) x1)))] ++ R) := H.mod 0 rfl M1 O1 (.inl rfl)
    replace R0 := H.ext
    refine DW.thru rfl rfl rfl (fun _ EQ => RV.indexAddr Ts82 rfl rfl (by first | exact hbx4 | (simp at hbx4 ⊢; omega)) ((H.own 0 rfl).sl.addr_ hx4)) ?_
    refine DW.sole rfl rfl rfl (OW.storeO (enc := encStep) (vs := [encStepV x2]) 0 (x2) Tk96 rfl rfl (H.own 0 rfl) (fun _ => rfl) rfl hx4 (by generalize x2 = q; cases q <;> rfl) rfl (by decide) (by generalize x2 = q; cases q <;> rfl) rfl fun w3 M2 O2 => ?_)
    refine ⟨fun h => absurd h (by decide), M2.modx (fun _ _ => trivial), ?_⟩
    replace H : Hp wb w3 ([.own A_a0 c_a0 96 1 (List.map encStep ((((l1.set (Int.toNat t2_1) x1)).set (Int.toNat t3_1) x2)))] ++ R) := H.mod 0 rfl M2 O2 (.inl rfl)
    replace R0 := H.ext
    refine DW.nil (hK4 _ _ ?_)
    obtain ⟨hg2, F⟩ := gd_some F
    obtain ⟨hg3, F⟩ := gd_some F
    refine CW.region ?_
    refine LW.pure rfl rfl (RV.move rfl) ?_
    refine LW.pure rfl rfl (RV.add rfl rfl hg2) ?_
    refine LW.pure rfl rfl (RV.move rfl) ?_
    refine LW.pure rfl rfl (RV.sub rfl rfl hg3) ?_
    refine LW.pure rfl rfl (RV.assign rfl) ?_
    refine LW.pure rfl rfl (RV.assign rfl) ?_
    refine LW.nil ?_
    subst hrec1
    refine ⟨mk1, Nat.lt_succ_self _, _, ?_, (t2_1 + 1), (t3_1 - 1), ((((l1.set (Int.toNat t2_1) x1)).set (Int.toNat t3_1) x2)), F, rfl, H, (show ((((l1.set (Int.toNat t2_1) x1)).set (Int.toNat t3_1) x2)).length = a0.length by first | rfl | assumption | omega | (simp; done) | (simp; assumption) | (simp; omega))⟩
    exact ⟨(look_slice rfl (by first | rfl | (simp; done) | (simp; omega))), rfl, rfl, trivial⟩
  ·
    replace F := ite_n hp1 F
    have hq1 := dec_f hp1
    refine CW.condF rfl hq1 ?_
    refine CW.exit ?_
    obtain rfl := Option.some.inj F
    refine ⟨_, ResOK.none_, ?_⟩
    exact ⟨(by first | rfl | (simp; done) | (simp; omega)), (by first | rfl | assumption | omega | (simp; done) | (simp; assumption) | (simp; omega)), H⟩
set_option maxRecDepth 20000 in
theorem Step_cost_ok {x : Step} {a1 : Trade} {A_a1_supply : Option Addr} {c_a1_supply : Nat} {A_a1_demand : Option Addr} {c_a1_demand : Nat} {A_a1_cost : Option Addr} {c_a1_cost : Nat} {w : World} {res : Int} {nm : String} (hnm : (∀ (y : Less) (w : World), (method (Try.prog.types.size + Made.depth) 102 (.agg #[.int .i64 y.store, .int .i64 y.buyer]) nm).run Try.prog w = .ok (116, .agg #[.int .i64 y.store, .int .i64 y.buyer]) w) ∧ (∀ (y : More) (w : World), (method (Try.prog.types.size + Made.depth) 104 (.agg #[.int .i64 y.store, .int .i64 y.buyer]) nm).run Try.prog w = .ok (117, .agg #[.int .i64 y.store, .int .i64 y.buyer]) w)) (h_a1_supply : Sl w A_a1_supply c_a1_supply 1 (a1.supply.map encN)) (h_a1_demand : Sl w A_a1_demand c_a1_demand 1 (a1.demand.map encN)) (h_a1_cost : Sl2 w A_a1_cost c_a1_cost 1 encN a1.cost) (F : Step_cost x a1 = some res) : CallsM Try.prog (encStepV x) nm [.agg #[.slice A_a1_supply a1.supply.length c_a1_supply, .slice A_a1_demand a1.demand.length c_a1_demand, .slice A_a1_cost a1.cost.length c_a1_cost]] w (Rt w (.int .i64 res)) := by
  cases x with
  | nil => cases F
  | i_less y => exact ⟨102, _, 116, _, rfl, hnm.1 y, Tc116, bulk_less_cost_ok h_a1_supply h_a1_demand h_a1_cost F⟩
  | i_more y => exact ⟨104, _, 117, _, rfl, hnm.2 y, Tc117, bulk_more_cost_ok h_a1_supply h_a1_demand h_a1_cost F⟩
set_option maxRecDepth 20000 in
set_option maxHeartbeats 1000000 in
theorem bulk_search_ok {a0 : Trade} {a1 : List (List Int)} {A_a0_supply : Option Addr} {c_a0_supply : Nat} {A_a0_demand : Option Addr} {c_a0_demand : Nat} {A_a0_cost : Option Addr} {c_a0_cost : Nat} {A_a1 : Option Addr} {c_a1 : Nat} {w : World} {res : (List Int) × (List Step)} (h_a0_supply : Sl w A_a0_supply c_a0_supply 1 (a0.supply.map encN)) (h_a0_demand : Sl w A_a0_demand c_a0_demand 1 (a0.demand.map encN)) (h_a0_cost : Sl2 w A_a0_cost c_a0_cost 1 encN a0.cost) (h_a1 : Sl2 w A_a1 c_a1 1 encN a1) (F : bulk_search a0 a1 = some res) : Calls Try.prog 79 #[.agg #[.slice A_a0_supply a0.supply.length c_a0_supply, .slice A_a0_demand a0.demand.length c_a0_demand, .slice A_a0_cost a0.cost.length c_a0_cost], .slice A_a1 a1.length c_a1] w (fun e w' => ∃ (A1 : Option Addr) (c1 : Nat) (A2 : Option Addr) (c2 : Nat), e = .returned (.tuple #[.slice A1 res.1.length c1, .slice A2 res.2.length c2]) ∧ (A2 = none ↔ res.2 = []) ∧ Hp w w' [.own A1 c1 3 1 (List.map encN res.1), .own A2 c2 96 1 (List.map encStep res.2)]) := by
  refine calls_of_cw (args := [.agg #[.slice A_a0_supply a0.supply.length c_a0_supply, .slice A_a0_demand a0.demand.length c_a0_demand, .slice A_a0_cost a0.cost.length c_a0_cost], .slice A_a1 a1.length c_a1]) Try.func79 rfl rfl rfl rfl ?_
  have H := Hp.start w
  have R0 := H.ext
  unfold bulk_search at F
  refine CW.seq fun K1 hK1 => ?_
  refine CW.region ?_
  refine LW.go rfl rfl (OW.box rfl fun b1 w1 N1 => ?_)
  replace H := H.new N1 N1.blk
  replace R0 := H.ext
  refine LW.pure rfl rfl (RV.assign rfl) ?_
  refine LW.pure rfl rfl (RV.assign rfl) ?_
  refine LW.nil (hK1 _ _ ?_)
  refine CW.seq fun K2 hK2 => ?_
  obtain ⟨hg1, F⟩ := gd_some F
  refine CW.region ?_
  refine LW.pure rfl rfl (RV.fieldAddr Tf25_0 rfl) ?_
  refine LW.pure rfl rfl (RV.load1 Tk22 rfl ((H.blk 0 rfl).cells.off 0) rfl) ?_
  refine LW.pure rfl rfl (RV.len Ts22 rfl) ?_
  refine LW.pure rfl rfl (RV.fieldAddr Tf25_1 rfl) ?_
  refine LW.pure rfl rfl (RV.load1 Tk22 rfl ((H.blk 0 rfl).cells.off 1) rfl) ?_
  refine LW.pure rfl rfl (RV.len Ts22 rfl) ?_
  refine LW.pure rfl rfl (RV.add rfl rfl hg1) ?_
  refine LW.pure rfl rfl (RV.assign rfl) ?_
  refine LW.nil (hK2 _ _ ?_)
  refine CW.seq fun K3 hK3 => ?_
  obtain ⟨hg2, F⟩ := gd_some F
  refine CW.region ?_
  refine LW.pure rfl rfl (RV.move rfl) ?_
  refine LW.go rfl rfl (OW.makeR (enc := encN) (0 : Int) Ts22 rfl rfl rfl rfl rfl hg2 (by decide) fun b2 w2 N2 => ?_)
  replace H := H.made' (k := 1) (t := 3) (enc := encN) (l := (List.replicate (Int.toNat (((a0.supply.length : Int)) + ((a0.demand.length : Int)))) (0 : Int))) N2 N2.blk (fun _ => rfl) rfl (by first | decide | omega | (simp; done) | (simp; omega))
  replace R0 := H.ext
  refine LW.pure rfl rfl (RV.assign rfl) ?_
  refine LW.nil (hK3 _ _ ?_)
  refine CW.seq fun K4 hK4 => ?_
  obtain ⟨hg3, F⟩ := gd_some F
  refine CW.region ?_
  refine LW.pure rfl rfl (RV.move rfl) ?_
  refine LW.go rfl rfl (OW.makeR (enc := encStep) (Step.nil : Step) Ts82 rfl rfl rfl rfl rfl hg3 (by decide) fun b3 w3 N3 => ?_)
  replace H := H.made' (k := 1) (t := 96) (enc := encStep) (l := (List.replicate (Int.toNat (((a0.supply.length : Int)) + ((a0.demand.length : Int)))) (Step.nil : Step))) N3 N3.blk (fun _ => rfl) rfl (by first | decide | omega | (simp; done) | (simp; omega))
  replace R0 := H.ext
  refine LW.pure rfl rfl (RV.assign rfl) ?_
  refine LW.nil (hK4 _ _ ?_)
  refine CW.seq fun K5 hK5 => ?_
  obtain ⟨r4, hr4, F⟩ := bnd_some F
  refine CW.region ?_
  refine LW.pure rfl rfl (RV.loadA [.slice A_a0_supply a0.supply.length c_a0_supply, .slice A_a0_demand a0.demand.length c_a0_demand, .slice A_a0_cost a0.cost.length c_a0_cost] Tk25 rfl (H.blk 2 rfl).cells rfl rfl) ?_
  refine LW.pure rfl rfl (RV.move rfl) ?_
  refine LW.go rfl rfl (OW.call Tc92 rfl (bulk_steps_ok (a0 := a0) (a1 := a1) (h_a0_supply.ext R0) (h_a0_demand.ext R0) (h_a0_cost.ext R0) (h_a1.ext R0) hr4) ?_)
  rintro _ w4 ⟨A160_0, c160_0, rfl, E1⟩
  refine ⟨_, rfl, ?_⟩
  replace H : Hp w w4 [.own A160_0 c160_0 96 1 (List.map encStep r4), .own (some ⟨b3, 0, none⟩) (((List.replicate (Int.toNat (((a0.supply.length : Int)) + ((a0.demand.length : Int)))) (Step.nil : Step))).length) 96 1 (List.map encStep ((List.replicate (Int.toNat (((a0.supply.length : Int)) + ((a0.demand.length : Int)))) (Step.nil : Step)))), .own (some ⟨b2, 0, none⟩) (((List.replicate (Int.toNat (((a0.supply.length : Int)) + ((a0.demand.length : Int)))) (0 : Int))).length) 3 1 (List.map encN ((List.replicate (Int.toNat (((a0.supply.length : Int)) + ((a0.demand.length : Int)))) (0 : Int)))), .blk b1 25 [.slice A_a0_supply a0.supply.length c_a0_supply, .slice A_a0_demand a0.demand.length c_a0_demand, .slice A_a0_cost a0.cost.length c_a0_cost]] := H.append E1
  replace R0 := H.ext
  refine LW.pure rfl rfl (RV.assign rfl) ?_
  refine LW.nil (hK5 _ _ ?_)
  refine CW.seq fun K6 hK6 => ?_
  refine CW.region ?_
  refine LW.pure rfl rfl (RV.assign rfl) ?_
  refine LW.nil (hK6 _ _ ?_)
  refine CW.seqJ (fun ρ wl1 => (∃ (t10_1 : Int) (l1 : List Int) (l3 : List Step), bulk_search_k4 a0 t10_1 l1 l3 = some res ∧ ρ = [(2, .pointer (some (⟨b1, 0, none⟩))), (4, .slice none 0 0), (5, .slice none 0 0), (6, .int .i64 (((a0.supply.length : Int)) + ((a0.demand.length : Int)))), (7, .slice (some ⟨b2, 0, none⟩) l1.length (((List.replicate (Int.toNat (((a0.supply.length : Int)) + ((a0.demand.length : Int)))) (0 : Int))).length)), (8, .slice (some ⟨b3, 0, none⟩) l3.length (((List.replicate (Int.toNat (((a0.supply.length : Int)) + ((a0.demand.length : Int)))) (Step.nil : Step))).length)), (10, .int .i64 t10_1)] ∧ Hp w wl1 [.own (some ⟨b2, 0, none⟩) (((List.replicate (Int.toNat (((a0.supply.length : Int)) + ((a0.demand.length : Int)))) (0 : Int))).length) 3 1 (List.map encN l1), .own (some ⟨b3, 0, none⟩) (((List.replicate (Int.toNat (((a0.supply.length : Int)) + ((a0.demand.length : Int)))) (Step.nil : Step))).length) 96 1 (List.map encStep l3), .blk b1 25 [.slice A_a0_supply a0.supply.length c_a0_supply, .slice A_a0_demand a0.demand.length c_a0_demand, .slice A_a0_cost a0.cost.length c_a0_cost]])) ?_ ?_
  ·
    rintro _ wl1 ⟨t10_1, l1, l3, F, rfl, H⟩
    have R0 := H.ext
    unfold bulk_search_k4 at F
    refine CW.seq fun K7 hK7 => ?_
    refine CW.seq fun K8 hK8 => ?_
    refine CW.region ?_
    refine LW.pure rfl rfl (RV.move rfl) ?_
    refine LW.pure rfl rfl (RV.lss rfl rfl) ?_
    refine LW.nil (hK8 _ _ ?_)
    by_cases hp1 : t10_1 < 0
    ·
      replace F := ite_y hp1 F
      have hq1 := dec_t hp1
      refine CW.condT rfl hq1 ?_
      refine CW.seq fun K9 hK9 => ?_
      refine CW.region ?_
      refine LW.pure rfl rfl (RV.move rfl) ?_
      refine LW.pure rfl rfl (RV.assign rfl) ?_
      refine LW.pure rfl rfl (RV.assign rfl) ?_
      refine LW.nil (hK9 _ _ ?_)
      refine CW.ret ?_
      obtain rfl := Option.some.inj F
      refine ⟨_, (ResOK.two rfl rfl), ?_⟩
      replace H := H.nilOwn 96 1
      replace R0 := H.ext
      replace H := H.pick (L' := [.own (some ⟨b2, 0, none⟩) (((List.replicate (Int.toNat (((a0.supply.length : Int)) + ((a0.demand.length : Int)))) (0 : Int))).length) 3 1 (List.map encN l1), .own none 0 96 1 (List.map encStep (([] : List Step)))]) [1, 0] (by decide) rfl
      replace R0 := H.ext
      exact ⟨(some ⟨b2, 0, none⟩), (((List.replicate (Int.toNat (((a0.supply.length : Int)) + ((a0.demand.length : Int)))) (0 : Int))).length), none, 0, (by first | rfl | (simp; done) | (simp; omega)), ⟨fun _ => rfl, fun _ => rfl⟩, H⟩
    ·
      replace F := ite_n hp1 F
      have hq1 := dec_f hp1
      refine CW.condF rfl hq1 ?_
      refine CW.skip (hK7 _ _ ?_)
      refine CW.seq fun K10 hK10 => ?_
      refine CW.region ?_
      refine LW.pure rfl rfl (RV.move rfl) ?_
      refine LW.pure rfl rfl (RV.assign rfl) ?_
      refine LW.nil (hK10 _ _ ?_)
      refine CW.seqJ (fun ρ wl2 => (∃ (t16_2 : Int), bulk_search_k3 a0 l1 l3 t16_2 = some res ∧ ρ = [(2, .pointer (some (⟨b1, 0, none⟩))), (4, .slice none 0 0), (5, .slice none 0 0), (7, .slice (some ⟨b2, 0, none⟩) l1.length (((List.replicate (Int.toNat (((a0.supply.length : Int)) + ((a0.demand.length : Int)))) (0 : Int))).length)), (8, .slice (some ⟨b3, 0, none⟩) l3.length (((List.replicate (Int.toNat (((a0.supply.length : Int)) + ((a0.demand.length : Int)))) (Step.nil : Step))).length)), (16, .int .i64 t16_2)] ∧ Hp w wl2 [.own (some ⟨b2, 0, none⟩) (((List.replicate (Int.toNat (((a0.supply.length : Int)) + ((a0.demand.length : Int)))) (0 : Int))).length) 3 1 (List.map encN l1), .own (some ⟨b3, 0, none⟩) (((List.replicate (Int.toNat (((a0.supply.length : Int)) + ((a0.demand.length : Int)))) (Step.nil : Step))).length) 96 1 (List.map encStep l3), .blk b1 25 [.slice A_a0_supply a0.supply.length c_a0_supply, .slice A_a0_demand a0.demand.length c_a0_demand, .slice A_a0_cost a0.cost.length c_a0_cost]])) ?_ ?_
      ·
        rintro _ wl2 ⟨t16_2, F, rfl, H⟩
        have R0 := H.ext
        unfold bulk_search_k3 at F
        refine CW.seq fun K11 hK11 => ?_
        refine CW.region ?_
        refine LW.pure rfl rfl (RV.assign rfl) ?_
        refine LW.nil (hK11 _ _ ?_)
        refine CW.seqJ (fun ρ wl3 => (∃ (l2 : List Step) (Al2 : Option Addr) (cl2 : Nat), bulk_search_k1 l1 l2 = some res ∧ ρ = [(4, .slice none 0 0), (5, .slice none 0 0), (7, .slice (some ⟨b2, 0, none⟩) l1.length (((List.replicate (Int.toNat (((a0.supply.length : Int)) + ((a0.demand.length : Int)))) (0 : Int))).length)), (17, .slice Al2 l2.length cl2)] ∧ Hp w wl3 [.own (some ⟨b2, 0, none⟩) (((List.replicate (Int.toNat (((a0.supply.length : Int)) + ((a0.demand.length : Int)))) (0 : Int))).length) 3 1 (List.map encN l1), .own Al2 cl2 96 1 (List.map encStep l2)])) ?_ ?_
        ·
          rintro _ wl3 ⟨l2, Al2, cl2, F, rfl, H⟩
          have R0 := H.ext
          unfold bulk_search_k1 at F
          refine CW.seq fun K12 hK12 => ?_
          obtain ⟨r1, hr1, F⟩ := bnd_some F
          refine CW.region ?_
          refine LW.pure rfl rfl (RV.move rfl) ?_
          replace H := H.pick (L' := [.own Al2 cl2 96 1 (List.map encStep l2), .own (some ⟨b2, 0, none⟩) (((List.replicate (Int.toNat (((a0.supply.length : Int)) + ((a0.demand.length : Int)))) (0 : Int))).length) 3 1 (List.map encN l1)]) [1, 0] (by decide) rfl
          replace R0 := H.ext
          refine LW.go rfl rfl (OW.call Tc94 rfl (slices_Reverse_step_ok (a0 := l2) (R := [.own (some ⟨b2, 0, none⟩) (((List.replicate (Int.toNat (((a0.supply.length : Int)) + ((a0.demand.length : Int)))) (0 : Int))).length) 3 1 (List.map encN l1)]) H hr1) ?_)
          rintro _ w5 ⟨rfl, hlm240_a0, Hq1⟩
          refine ⟨_, rfl, ?_⟩
          replace H : Hp w w5 [.own Al2 cl2 96 1 (List.map encStep r1), .own (some ⟨b2, 0, none⟩) (((List.replicate (Int.toNat (((a0.supply.length : Int)) + ((a0.demand.length : Int)))) (0 : Int))).length) 3 1 (List.map encN l1)] := Hq1
          replace R0 := H.ext
          refine LW.nil (hK12 _ _ ?_)
          refine CW.seq fun K13 hK13 => ?_
          refine CW.region ?_
          refine LW.pure rfl rfl (RV.move rfl) ?_
          refine LW.pure rfl rfl (RV.move rfl) ?_
          refine LW.pure rfl rfl (RV.assign rfl) ?_
          refine LW.pure rfl rfl (RV.assign rfl) ?_
          refine LW.nil (hK13 _ _ ?_)
          refine CW.ret ?_
          obtain ⟨hg4, F⟩ := gd_some F
          obtain rfl := Option.some.inj F
          refine ⟨_, (ResOK.two rfl rfl), ?_⟩
          replace H := H.pick (L' := [.own (some ⟨b2, 0, none⟩) (((List.replicate (Int.toNat (((a0.supply.length : Int)) + ((a0.demand.length : Int)))) (0 : Int))).length) 3 1 (List.map encN l1), .own Al2 cl2 96 1 (List.map encStep r1)]) [1, 0] (by decide) rfl
          replace R0 := H.ext
          exact ⟨(some ⟨b2, 0, none⟩), (((List.replicate (Int.toNat (((a0.supply.length : Int)) + ((a0.demand.length : Int)))) (0 : Int))).length), Al2, cl2, (by first | rfl | (simp; done) | (simp; omega)), ⟨fun q => absurd q (Own.ne (H.own 1 rfl) (by simpa using hg4)), fun q => absurd q hg4⟩, H⟩
        ·
          intro K14 hK14 jK750
          refine CW.seq fun K15 hK15 => ?_
          refine CW.region ?_
          refine LW.pure rfl rfl (RV.move rfl) ?_
          refine LW.pure rfl rfl (RV.assign rfl) ?_
          refine LW.nil (hK15 _ _ ?_)
          refine CW.block ?_
          replace H := H.nilOwn 96 1
          replace R0 := H.ext
          replace H := H.pick (L' := [.own (some ⟨b2, 0, none⟩) (((List.replicate (Int.toNat (((a0.supply.length : Int)) + ((a0.demand.length : Int)))) (0 : Int))).length) 3 1 (List.map encN l1), .own (some ⟨b3, 0, none⟩) (((List.replicate (Int.toNat (((a0.supply.length : Int)) + ((a0.demand.length : Int)))) (Step.nil : Step))).length) 96 1 (List.map encStep l3), .own none 0 96 1 (List.map encStep (([] : List Step))), .blk b1 25 [.slice A_a0_supply a0.supply.length c_a0_supply, .slice A_a0_demand a0.demand.length c_a0_demand, .slice A_a0_cost a0.cost.length c_a0_cost]]) [1, 2, 0, 3] (by decide) rfl
          replace R0 := H.ext
          refine CW.loop (fun meas ρ wl4 => ∃ (t16_1 : Int) (l4 : List Step) (Al4 : Option Addr) (cl4 : Nat), bulk_search_L1 a0 l1 l3 t16_2 meas t16_1 l4 = some res ∧ ρ = [(2, .pointer (some (⟨b1, 0, none⟩))), (4, .slice none 0 0), (5, .slice none 0 0), (7, .slice (some ⟨b2, 0, none⟩) l1.length (((List.replicate (Int.toNat (((a0.supply.length : Int)) + ((a0.demand.length : Int)))) (0 : Int))).length)), (8, .slice (some ⟨b3, 0, none⟩) l3.length (((List.replicate (Int.toNat (((a0.supply.length : Int)) + ((a0.demand.length : Int)))) (Step.nil : Step))).length)), (16, .int .i64 t16_1), (17, .slice Al4 l4.length cl4), (18, .int .i64 t16_2)] ∧ Hp w wl4 [.own (some ⟨b2, 0, none⟩) (((List.replicate (Int.toNat (((a0.supply.length : Int)) + ((a0.demand.length : Int)))) (0 : Int))).length) 3 1 (List.map encN l1), .own (some ⟨b3, 0, none⟩) (((List.replicate (Int.toNat (((a0.supply.length : Int)) + ((a0.demand.length : Int)))) (Step.nil : Step))).length) 96 1 (List.map encStep l3), .own Al4 cl4 96 1 (List.map encStep l4), .blk b1 25 [.slice A_a0_supply a0.supply.length c_a0_supply, .slice A_a0_demand a0.demand.length c_a0_demand, .slice A_a0_cost a0.cost.length c_a0_cost]]) FU ⟨_, ?_, t16_2, (([] : List Step)), none, 0, F, rfl, H⟩ ?_
          · exact ⟨rfl, rfl, rfl, (look_slice rfl (by first | rfl | (simp; done) | (simp; omega))), (look_slice rfl (by first | rfl | (simp; done) | (simp; omega))), rfl, (look_slice rfl (by first | rfl | (simp; done) | (simp; omega))), rfl, trivial⟩
          rintro mk1 _ wl4 ⟨t16_1, l4, Al4, cl4, F, rfl, H⟩
          have R0 := H.ext
          replace F := bulk_search_L1_s F
          obtain ⟨mk1, rfl, F⟩ := F
          generalize hrec1 : bulk_search_L1 a0 l1 l3 t16_2 mk1 = rec1 at F
          unfold bulk_search_B1 at F
          refine CW.seq fun K16 hK16 => ?_
          refine CW.seqJ (fun ρ wl5 => (∃ (t98_1 : Bool), bulk_search_k2 a0 l1 l3 t16_1 l4 rec1 t98_1 = some res ∧ ρ = [(2, .pointer (some (⟨b1, 0, none⟩))), (4, .slice none 0 0), (5, .slice none 0 0), (7, .slice (some ⟨b2, 0, none⟩) l1.length (((List.replicate (Int.toNat (((a0.supply.length : Int)) + ((a0.demand.length : Int)))) (0 : Int))).length)), (8, .slice (some ⟨b3, 0, none⟩) l3.length (((List.replicate (Int.toNat (((a0.supply.length : Int)) + ((a0.demand.length : Int)))) (Step.nil : Step))).length)), (16, .int .i64 t16_1), (17, .slice Al4 l4.length cl4), (18, .int .i64 t16_2), (98, .bool t98_1)] ∧ Hp w wl5 [.own (some ⟨b2, 0, none⟩) (((List.replicate (Int.toNat (((a0.supply.length : Int)) + ((a0.demand.length : Int)))) (0 : Int))).length) 3 1 (List.map encN l1), .own (some ⟨b3, 0, none⟩) (((List.replicate (Int.toNat (((a0.supply.length : Int)) + ((a0.demand.length : Int)))) (Step.nil : Step))).length) 96 1 (List.map encStep l3), .own Al4 cl4 96 1 (List.map encStep l4), .blk b1 25 [.slice A_a0_supply a0.supply.length c_a0_supply, .slice A_a0_demand a0.demand.length c_a0_demand, .slice A_a0_cost a0.cost.length c_a0_cost]])) ?_ ?_
          ·
            rintro _ wl5 ⟨t98_1, F, rfl, H⟩
            have R0 := H.ext
            unfold bulk_search_k2 at F
            by_cases hp2 : t98_1 = true
            ·
              replace F := ite_y hp2 F
              have hq2 : t98_1 = true := hp2
              refine CW.condT rfl hq2 ?_
              refine CW.skip (hK16 _ _ ?_)
              refine CW.block ?_
              refine CW.seq fun K17 hK17 => ?_
              obtain ⟨x1, hbx1, hx1, F⟩ := ix_some F
              obtain ⟨hg5, F⟩ := gd_some F
              refine CW.region ?_
              refine LW.pure rfl rfl (RV.move rfl) ?_
              refine LW.pure rfl rfl (RV.move rfl) ?_
              refine LW.pure rfl rfl (RV.move rfl) ?_
              refine LW.pure rfl rfl (RV.indexAddr Ts82 rfl rfl hbx1 ⟨_, rfl⟩) ?_
              refine LW.pure rfl rfl (RV.load1 Tk96 rfl ((H.own 1 rfl).sl.at_ hx1) rfl) ?_
              refine LW.go rfl rfl (OW.buildSlice (e := 96) (vs := [encStepV x1]) (cs := [encStepV x1]) rfl (fun _ => by generalize x1 = q0; cases q0 <;> kernel_rfl) fun b4 w6 N4 => ?_)
              replace H := H.made' (k := 1) (t := 96) (enc := encStep) (l := ([x1] : List Step)) N4 N4.blk (fun _ => rfl) rfl (by first | decide | omega | (simp; done) | (simp; omega))
              replace R0 := H.ext
              refine LW.go rfl rfl (OW.appendG (enc := encStep) (l := l4) (xs := ([x1] : List Step)) Ts82 rfl (look_slice rfl (by first | rfl | (simp; done) | (simp; omega))) (H.own 3 rfl) (H.own 0 rfl).sl (fun u => by cases u <;> rfl) rfl rfl hg5 (by decide) fun A3 c3 w7 O1 M1 D1 => ?_)
              replace H : Hp w w7 [.own (some ⟨b4, 0, none⟩) ((([x1] : List Step)).length) 96 1 (List.map encStep (([x1] : List Step))), .own (some ⟨b2, 0, none⟩) (((List.replicate (Int.toNat (((a0.supply.length : Int)) + ((a0.demand.length : Int)))) (0 : Int))).length) 3 1 (List.map encN l1), .own (some ⟨b3, 0, none⟩) (((List.replicate (Int.toNat (((a0.supply.length : Int)) + ((a0.demand.length : Int)))) (Step.nil : Step))).length) 96 1 (List.map encStep l3), .own A3 c3 96 1 (List.map encStep ((l4 ++ ([x1] : List Step)))), .blk b1 25 [.slice A_a0_supply a0.supply.length c_a0_supply, .slice A_a0_demand a0.demand.length c_a0_demand, .slice A_a0_cost a0.cost.length c_a0_cost]] := H.mod 3 rfl M1 O1 D1
              replace R0 := H.ext
              refine LW.pure rfl rfl (RV.assign rfl) ?_
              refine LW.nil (hK17 _ _ ?_)
              obtain ⟨x2, hbx2, hx2, F⟩ := ix_some F
              obtain ⟨r2, hr2, F⟩ := bnd_some F
              refine CW.draw [] (fun _ => True) (.cons 0 1 (.cons 1 1 (.cons 2 1 (.cons 3 1 (.cons 4 1 (.cons 5 0 (.cons 6 1 (.cons 7 1 (.cons 8 1 (.cons 9 1 .nil)))))))))) mixed (by kernel_rfl) fun w8 E2 => ?_
              replace H := H.grow E2
              replace R0 := H.ext
              refine DW.fix rfl rfl rfl (fun _ EQ => RV.loadA [.slice A_a0_supply a0.supply.length c_a0_supply, .slice A_a0_demand a0.demand.length c_a0_demand, .slice A_a0_cost a0.cost.length c_a0_cost] Tk25 rfl ((H.grow EQ).blk 4 rfl).cells rfl rfl) ?_
              refine DW.fix rfl rfl rfl (fun _ EQ => RV.move rfl) ?_
              refine DW.fix rfl rfl rfl (fun _ EQ => RV.move rfl) ?_
              refine DW.fix rfl rfl rfl (fun _ EQ => RV.indexAddr Ts82 rfl rfl hbx2 ⟨_, rfl⟩) ?_
              refine DW.fix rfl rfl rfl (fun _ EQ => RV.load1 Tk96 rfl (((H.grow EQ).own 2 rfl).sl.at_ hx2) rfl) ?_
              refine DW.sole rfl rfl rfl (OW.call Tc93 rfl (bulk_ends_ok (a0 := a0) (a1 := x2) (h_a0_supply.ext R0) (h_a0_demand.ext R0) (h_a0_cost.ext R0) hr2) ?_)
              rintro _ w9 ⟨rfl, E3⟩
              refine ⟨_, rfl, fun _ => E3, ModX.ext E3, ?_⟩
              replace H := H.grow E3
              replace R0 := H.ext
              refine DW.fix rfl rfl rfl (fun _ EQ => RV.move rfl) ?_
              refine DW.fix rfl rfl rfl (fun _ EQ => RV.extract rfl rfl) ?_
              refine DW.fix rfl rfl rfl (fun _ EQ => RV.extract rfl rfl) ?_
              refine DW.fix rfl rfl rfl (fun _ EQ => RV.assign rfl) ?_
              refine DW.nil ?_
              replace H := H.pick (L' := [.own (some ⟨b2, 0, none⟩) (((List.replicate (Int.toNat (((a0.supply.length : Int)) + ((a0.demand.length : Int)))) (0 : Int))).length) 3 1 (List.map encN l1), .own (some ⟨b3, 0, none⟩) (((List.replicate (Int.toNat (((a0.supply.length : Int)) + ((a0.demand.length : Int)))) (Step.nil : Step))).length) 96 1 (List.map encStep l3), .own A3 c3 96 1 (List.map encStep ((l4 ++ ([x1] : List Step)))), .blk b1 25 [.slice A_a0_supply a0.supply.length c_a0_supply, .slice A_a0_demand a0.demand.length c_a0_demand, .slice A_a0_cost a0.cost.length c_a0_cost]]) [1, 2, 3, 4] (by decide) rfl
              replace R0 := H.ext
              subst hrec1
              refine ⟨mk1, Nat.lt_succ_self _, _, ?_, r2.1, ((l4 ++ ([x1] : List Step))), A3, c3, F, rfl, H⟩
              exact ⟨rfl, rfl, rfl, (look_slice rfl (by first | rfl | (simp; done) | (simp; omega))), (look_slice rfl (by first | rfl | (simp; done) | (simp; omega))), rfl, (look_slice rfl (by first | rfl | (simp; done) | (simp; omega))), rfl, trivial⟩
            ·
              replace F := ite_n hp2 F
              have hq2 : t98_1 = false := raw_f hp2
              refine CW.condF rfl hq2 ?_
              replace H := H.pick (L' := [.own (some ⟨b2, 0, none⟩) (((List.replicate (Int.toNat (((a0.supply.length : Int)) + ((a0.demand.length : Int)))) (0 : Int))).length) 3 1 (List.map encN l1), .own Al4 cl4 96 1 (List.map encStep l4)]) [0, 2] (by decide) rfl
              replace R0 := H.ext
              refine CW.exit (jK750 _ _ ⟨_, ?_, ⟨l4, Al4, cl4, F, rfl, H⟩⟩)
              exact ⟨rfl, rfl, (look_slice rfl (by first | rfl | (simp; done) | (simp; omega))), (look_slice rfl (by first | rfl | (simp; done) | (simp; omega))), trivial⟩
          ·
            intro K18 hK18 jK760
            by_cases hp3 : ((l4.length : Int)) = 0
            ·
              replace F := ite_y hp3 F
              have hq3 := dec_t hp3
              refine CW.region ?_
              refine LW.pure rfl rfl (RV.move rfl) ?_
              refine LW.pure rfl rfl (RV.len Ts82 rfl) ?_
              refine LW.pure rfl rfl (RV.eqi rfl rfl) ?_
              refine LW.pure rfl rfl (RV.move rfl) ?_
              refine LW.noB rfl rfl rfl rfl (ne_beq (v := true) hq3 rfl) ?_
              refine LW.noB rfl rfl rfl rfl (ne_beq (v := true) hq3 rfl) ?_
              refine LW.noB rfl rfl rfl rfl (ne_beq (v := true) hq3 rfl) ?_
              refine LW.pure rfl rfl (RV.pickTB rfl hq3 rfl) ?_
              refine LW.nil (jK760 _ _ ⟨_, ?_, ⟨true, F, rfl, H⟩⟩)
              exact ⟨rfl, rfl, rfl, (look_slice rfl (by first | rfl | (simp; done) | (simp; omega))), (look_slice rfl (by first | rfl | (simp; done) | (simp; omega))), rfl, (look_slice rfl (by first | rfl | (simp; done) | (simp; omega))), rfl, rfl, trivial⟩
            ·
              replace F := ite_n hp3 F
              have hq3 := dec_f hp3
              refine CW.region ?_
              refine LW.pure rfl rfl (RV.move rfl) ?_
              refine LW.pure rfl rfl (RV.len Ts82 rfl) ?_
              refine LW.pure rfl rfl (RV.eqi rfl rfl) ?_
              refine LW.pure rfl rfl (RV.move rfl) ?_
              refine LW.pureYB rfl rfl rfl rfl hq3 (RV.move rfl) ?_
              refine LW.pureYB rfl rfl rfl rfl hq3 (RV.move rfl) ?_
              refine LW.pureYB rfl rfl rfl rfl hq3 (RV.nei rfl rfl) ?_
              refine LW.pure rfl rfl (RV.pickFB rfl hq3 rfl) ?_
              refine LW.nil (jK760 _ _ ⟨_, ?_, ⟨(!(decide (t16_1 = t16_2))), F, rfl, H⟩⟩)
              exact ⟨rfl, rfl, rfl, (look_slice rfl (by first | rfl | (simp; done) | (simp; omega))), (look_slice rfl (by first | rfl | (simp; done) | (simp; omega))), rfl, (look_slice rfl (by first | rfl | (simp; done) | (simp; omega))), rfl, rfl, trivial⟩
      ·
        intro K19 hK19 jK761
        refine CW.seq fun K20 hK20 => ?_
        refine CW.region ?_
        refine LW.pure rfl rfl (RV.move rfl) ?_
        refine LW.pure rfl rfl (RV.move rfl) ?_
        refine LW.nil (hK20 _ _ ?_)
        refine CW.block ?_
        refine CW.loop (fun meas ρ wl6 => ∃ (t16_3 : Int) (t78_1 : Int), bulk_search_L2 a0 l1 l3 meas t16_3 t78_1 = some res ∧ ρ = [(2, .pointer (some (⟨b1, 0, none⟩))), (4, .slice none 0 0), (5, .slice none 0 0), (7, .slice (some ⟨b2, 0, none⟩) l1.length (((List.replicate (Int.toNat (((a0.supply.length : Int)) + ((a0.demand.length : Int)))) (0 : Int))).length)), (8, .slice (some ⟨b3, 0, none⟩) l3.length (((List.replicate (Int.toNat (((a0.supply.length : Int)) + ((a0.demand.length : Int)))) (Step.nil : Step))).length)), (16, .int .i64 t16_3), (77, .int .i64 (((a0.supply.length : Int)) + ((a0.demand.length : Int)))), (78, .int .i64 t78_1)] ∧ Hp w wl6 [.own (some ⟨b2, 0, none⟩) (((List.replicate (Int.toNat (((a0.supply.length : Int)) + ((a0.demand.length : Int)))) (0 : Int))).length) 3 1 (List.map encN l1), .own (some ⟨b3, 0, none⟩) (((List.replicate (Int.toNat (((a0.supply.length : Int)) + ((a0.demand.length : Int)))) (Step.nil : Step))).length) 96 1 (List.map encStep l3), .blk b1 25 [.slice A_a0_supply a0.supply.length c_a0_supply, .slice A_a0_demand a0.demand.length c_a0_demand, .slice A_a0_cost a0.cost.length c_a0_cost]]) FU ⟨_, ?_, t10_1, ((0 : Int)), F, rfl, H⟩ ?_
        · exact ⟨rfl, rfl, rfl, (look_slice rfl (by first | rfl | (simp; done) | (simp; omega))), (look_slice rfl (by first | rfl | (simp; done) | (simp; omega))), rfl, rfl, rfl, trivial⟩
        rintro mk2 _ wl6 ⟨t16_3, t78_1, F, rfl, H⟩
        have R0 := H.ext
        replace F := bulk_search_L2_s F
        obtain ⟨mk2, rfl, F⟩ := F
        generalize hrec2 : bulk_search_L2 a0 l1 l3 mk2 = rec2 at F
        unfold bulk_search_B2 at F
        refine CW.seq fun K21 hK21 => ?_
        refine CW.region ?_
        refine LW.pure rfl rfl (RV.lss rfl rfl) ?_
        refine LW.nil (hK21 _ _ ?_)
        refine CW.seq fun K22 hK22 => ?_
        by_cases hp4 : t78_1 < (((a0.supply.length : Int)) + ((a0.demand.length : Int)))
        ·
          replace F := ite_y hp4 F
          have hq4 := dec_t hp4
          refine CW.condT rfl hq4 ?_
          refine CW.skip (hK22 _ _ ?_)
          refine CW.seq fun K23 hK23 => ?_
          refine CW.block ?_
          obtain ⟨x3, hbx3, hx3, F⟩ := ix_some F
          obtain ⟨r3, hr3, F⟩ := bnd_some F
          refine CW.draw [] (fun _ => True) (.cons 0 1 (.cons 1 1 (.cons 2 1 (.cons 3 1 (.cons 4 1 (.cons 5 0 (.cons 6 1 (.cons 7 1 (.cons 8 1 (.cons 9 1 .nil)))))))))) mixed (by kernel_rfl) fun w10 E4 => ?_
          replace H := H.grow E4
          replace R0 := H.ext
          refine DW.fix rfl rfl rfl (fun _ EQ => RV.loadA [.slice A_a0_supply a0.supply.length c_a0_supply, .slice A_a0_demand a0.demand.length c_a0_demand, .slice A_a0_cost a0.cost.length c_a0_cost] Tk25 rfl ((H.grow EQ).blk 2 rfl).cells rfl rfl) ?_
          refine DW.fix rfl rfl rfl (fun _ EQ => RV.move rfl) ?_
          refine DW.fix rfl rfl rfl (fun _ EQ => RV.move rfl) ?_
          refine DW.fix rfl rfl rfl (fun _ EQ => RV.indexAddr Ts82 rfl rfl hbx3 ⟨_, rfl⟩) ?_
          refine DW.fix rfl rfl rfl (fun _ EQ => RV.load1 Tk96 rfl (((H.grow EQ).own 1 rfl).sl.at_ hx3) rfl) ?_
          refine DW.sole rfl rfl rfl (OW.call Tc93 rfl (bulk_ends_ok (a0 := a0) (a1 := x3) (h_a0_supply.ext R0) (h_a0_demand.ext R0) (h_a0_cost.ext R0) hr3) ?_)
          rintro _ w11 ⟨rfl, E5⟩
          refine ⟨_, rfl, fun _ => E5, ModX.ext E5, ?_⟩
          replace H := H.grow E5
          replace R0 := H.ext
          refine DW.fix rfl rfl rfl (fun _ EQ => RV.move rfl) ?_
          refine DW.fix rfl rfl rfl (fun _ EQ => RV.extract rfl rfl) ?_
          refine DW.fix rfl rfl rfl (fun _ EQ => RV.extract rfl rfl) ?_
          refine DW.fix rfl rfl rfl (fun _ EQ => RV.assign rfl) ?_
          refine DW.nil (hK23 _ _ ?_)
          obtain ⟨hg6, F⟩ := gd_some F
          refine CW.region ?_
          refine LW.pure rfl rfl (RV.add rfl rfl hg6) ?_
          refine LW.pure rfl rfl (RV.move rfl) ?_
          refine LW.nil ?_
          subst hrec2
          refine ⟨mk2, Nat.lt_succ_self _, _, ?_, r3.1, (t78_1 + 1), F, rfl, H⟩
          exact ⟨rfl, rfl, rfl, (look_slice rfl (by first | rfl | (simp; done) | (simp; omega))), (look_slice rfl (by first | rfl | (simp; done) | (simp; omega))), rfl, rfl, rfl, trivial⟩
        ·
          replace F := ite_n hp4 F
          have hq4 := dec_f hp4
          refine CW.condF rfl hq4 ?_
          refine CW.exit (jK761 _ _ ⟨_, ?_, ⟨t16_3, F, rfl, H⟩⟩)
          exact ⟨rfl, rfl, rfl, (look_slice rfl (by first | rfl | (simp; done) | (simp; omega))), (look_slice rfl (by first | rfl | (simp; done) | (simp; omega))), rfl, trivial⟩
  ·
    intro K24 hK24 jK772
    refine CW.seq fun K25 hK25 => ?_
    refine CW.region ?_
    refine LW.pure rfl rfl (RV.move rfl) ?_
    refine LW.pure rfl rfl (RV.move rfl) ?_
    refine LW.nil (hK25 _ _ ?_)
    refine CW.block ?_
    replace H := H.pick (L' := [.own (some ⟨b2, 0, none⟩) (((List.replicate (Int.toNat (((a0.supply.length : Int)) + ((a0.demand.length : Int)))) (0 : Int))).length) 3 1 (List.map encN ((List.replicate (Int.toNat (((a0.supply.length : Int)) + ((a0.demand.length : Int)))) (0 : Int)))), .own (some ⟨b3, 0, none⟩) (((List.replicate (Int.toNat (((a0.supply.length : Int)) + ((a0.demand.length : Int)))) (Step.nil : Step))).length) 96 1 (List.map encStep ((List.replicate (Int.toNat (((a0.supply.length : Int)) + ((a0.demand.length : Int)))) (Step.nil : Step)))), .own A160_0 c160_0 96 1 (List.map encStep r4), .blk b1 25 [.slice A_a0_supply a0.supply.length c_a0_supply, .slice A_a0_demand a0.demand.length c_a0_demand, .slice A_a0_cost a0.cost.length c_a0_cost]]) [2, 1, 0, 3] (by decide) rfl
    replace R0 := H.ext
    refine CW.loop (fun meas ρ wl7 => ∃ (t10_5 : Int) (t34_1 : Int) (l11 : List Int) (l12 : List Step), bulk_search_L4 a0 r4 meas t10_5 t34_1 l11 l12 = some res ∧ ρ = [(2, .pointer (some (⟨b1, 0, none⟩))), (4, .slice none 0 0), (5, .slice none 0 0), (6, .int .i64 (((a0.supply.length : Int)) + ((a0.demand.length : Int)))), (7, .slice (some ⟨b2, 0, none⟩) l11.length (((List.replicate (Int.toNat (((a0.supply.length : Int)) + ((a0.demand.length : Int)))) (0 : Int))).length)), (8, .slice (some ⟨b3, 0, none⟩) l12.length (((List.replicate (Int.toNat (((a0.supply.length : Int)) + ((a0.demand.length : Int)))) (Step.nil : Step))).length)), (9, .slice A160_0 r4.length c160_0), (10, .int .i64 t10_5), (33, .int .i64 (((a0.supply.length : Int)) + ((a0.demand.length : Int)))), (34, .int .i64 t34_1)] ∧ Hp w wl7 [.own (some ⟨b2, 0, none⟩) (((List.replicate (Int.toNat (((a0.supply.length : Int)) + ((a0.demand.length : Int)))) (0 : Int))).length) 3 1 (List.map encN l11), .own (some ⟨b3, 0, none⟩) (((List.replicate (Int.toNat (((a0.supply.length : Int)) + ((a0.demand.length : Int)))) (Step.nil : Step))).length) 96 1 (List.map encStep l12), .own A160_0 c160_0 96 1 (List.map encStep r4), .blk b1 25 [.slice A_a0_supply a0.supply.length c_a0_supply, .slice A_a0_demand a0.demand.length c_a0_demand, .slice A_a0_cost a0.cost.length c_a0_cost]]) FU ⟨_, ?_, ((-1 : Int)), ((0 : Int)), ((List.replicate (Int.toNat (((a0.supply.length : Int)) + ((a0.demand.length : Int)))) (0 : Int))), ((List.replicate (Int.toNat (((a0.supply.length : Int)) + ((a0.demand.length : Int)))) (Step.nil : Step))), F, rfl, H⟩ ?_
    · exact ⟨rfl, rfl, rfl, rfl, (look_slice rfl (by first | rfl | (simp; done) | (simp; omega))), (look_slice rfl (by first | rfl | (simp; done) | (simp; omega))), (look_slice rfl (by first | rfl | (simp; done) | (simp; omega))), rfl, rfl, rfl, trivial⟩
    rintro mk3 _ wl7 ⟨t10_5, t34_1, l11, l12, F, rfl, H⟩
    have R0 := H.ext
    replace F := bulk_search_L4_s F
    obtain ⟨mk3, rfl, F⟩ := F
    generalize hrec3 : bulk_search_L4 a0 r4 mk3 = rec3 at F
    unfold bulk_search_B4 at F
    refine CW.seq fun K26 hK26 => ?_
    refine CW.region ?_
    refine LW.pure rfl rfl (RV.lss rfl rfl) ?_
    refine LW.nil (hK26 _ _ ?_)
    refine CW.seq fun K27 hK27 => ?_
    by_cases hp5 : t34_1 < (((a0.supply.length : Int)) + ((a0.demand.length : Int)))
    ·
      replace F := ite_y hp5 F
      have hq5 := dec_t hp5
      refine CW.condT rfl hq5 ?_
      refine CW.skip (hK27 _ _ ?_)
      refine CW.seqJ (fun ρ wl8 => (∃ (t10_2 : Int) (l5 : List Int) (l6 : List Step), bulk_search_k5 t34_1 rec3 t10_2 l5 l6 = some res ∧ ρ = [(2, .pointer (some (⟨b1, 0, none⟩))), (4, .slice none 0 0), (5, .slice none 0 0), (6, .int .i64 (((a0.supply.length : Int)) + ((a0.demand.length : Int)))), (7, .slice (some ⟨b2, 0, none⟩) l5.length (((List.replicate (Int.toNat (((a0.supply.length : Int)) + ((a0.demand.length : Int)))) (0 : Int))).length)), (8, .slice (some ⟨b3, 0, none⟩) l6.length (((List.replicate (Int.toNat (((a0.supply.length : Int)) + ((a0.demand.length : Int)))) (Step.nil : Step))).length)), (9, .slice A160_0 r4.length c160_0), (10, .int .i64 t10_2), (33, .int .i64 (((a0.supply.length : Int)) + ((a0.demand.length : Int)))), (34, .int .i64 t34_1)] ∧ Hp w wl8 [.own (some ⟨b2, 0, none⟩) (((List.replicate (Int.toNat (((a0.supply.length : Int)) + ((a0.demand.length : Int)))) (0 : Int))).length) 3 1 (List.map encN l5), .own (some ⟨b3, 0, none⟩) (((List.replicate (Int.toNat (((a0.supply.length : Int)) + ((a0.demand.length : Int)))) (Step.nil : Step))).length) 96 1 (List.map encStep l6), .own A160_0 c160_0 96 1 (List.map encStep r4), .blk b1 25 [.slice A_a0_supply a0.supply.length c_a0_supply, .slice A_a0_demand a0.demand.length c_a0_demand, .slice A_a0_cost a0.cost.length c_a0_cost]])) ?_ ?_
      ·
        rintro _ wl8 ⟨t10_2, l5, l6, F, rfl, H⟩
        have R0 := H.ext
        unfold bulk_search_k5 at F
        obtain ⟨hg7, F⟩ := gd_some F
        refine CW.region ?_
        refine LW.pure rfl rfl (RV.add rfl rfl hg7) ?_
        refine LW.pure rfl rfl (RV.move rfl) ?_
        refine LW.nil ?_
        subst hrec3
        refine ⟨mk3, Nat.lt_succ_self _, _, ?_, t10_2, (t34_1 + 1), l5, l6, F, rfl, H⟩
        exact ⟨rfl, rfl, rfl, rfl, (look_slice rfl (by first | rfl | (simp; done) | (simp; omega))), (look_slice rfl (by first | rfl | (simp; done) | (simp; omega))), (look_slice rfl (by first | rfl | (simp; done) | (simp; omega))), rfl, rfl, rfl, trivial⟩
      ·
        intro K28 hK28 jK957
        refine CW.block ?_
        refine CW.seq fun K29 hK29 => ?_
        refine CW.region ?_
        refine LW.pure rfl rfl (RV.assign rfl) ?_
        refine LW.nil (hK29 _ _ ?_)
        refine CW.seq fun K30 hK30 => ?_
        refine CW.region ?_
        refine LW.pure rfl rfl (RV.move rfl) ?_
        refine LW.pure rfl rfl (RV.len Ts82 rfl) ?_
        refine LW.pure rfl rfl (RV.move rfl) ?_
        refine LW.nil (hK30 _ _ ?_)
        refine CW.block ?_
        refine CW.loop (fun meas ρ wl9 => ∃ (t10_4 : Int) (t38_1 : Int) (l9 : List Int) (l10 : List Step), bulk_search_L3 a0 r4 t34_1 rec3 meas t10_4 t38_1 l9 l10 = some res ∧ ρ = [(2, .pointer (some (⟨b1, 0, none⟩))), (4, .slice none 0 0), (5, .slice none 0 0), (6, .int .i64 (((a0.supply.length : Int)) + ((a0.demand.length : Int)))), (7, .slice (some ⟨b2, 0, none⟩) l9.length (((List.replicate (Int.toNat (((a0.supply.length : Int)) + ((a0.demand.length : Int)))) (0 : Int))).length)), (8, .slice (some ⟨b3, 0, none⟩) l10.length (((List.replicate (Int.toNat (((a0.supply.length : Int)) + ((a0.demand.length : Int)))) (Step.nil : Step))).length)), (9, .slice A160_0 r4.length c160_0), (10, .int .i64 t10_4), (33, .int .i64 (((a0.supply.length : Int)) + ((a0.demand.length : Int)))), (34, .int .i64 t34_1), (36, .slice A160_0 r4.length c160_0), (37, .int .i64 ((r4.length : Int))), (38, .int .i64 t38_1)] ∧ Hp w wl9 [.own (some ⟨b2, 0, none⟩) (((List.replicate (Int.toNat (((a0.supply.length : Int)) + ((a0.demand.length : Int)))) (0 : Int))).length) 3 1 (List.map encN l9), .own (some ⟨b3, 0, none⟩) (((List.replicate (Int.toNat (((a0.supply.length : Int)) + ((a0.demand.length : Int)))) (Step.nil : Step))).length) 96 1 (List.map encStep l10), .own A160_0 c160_0 96 1 (List.map encStep r4), .blk b1 25 [.slice A_a0_supply a0.supply.length c_a0_supply, .slice A_a0_demand a0.demand.length c_a0_demand, .slice A_a0_cost a0.cost.length c_a0_cost]]) FU ⟨_, ?_, ((-1 : Int)), ((0 : Int)), l11, l12, F, rfl, H⟩ ?_
        · exact ⟨rfl, rfl, rfl, rfl, (look_slice rfl (by first | rfl | (simp; done) | (simp; omega))), (look_slice rfl (by first | rfl | (simp; done) | (simp; omega))), (look_slice rfl (by first | rfl | (simp; done) | (simp; omega))), rfl, rfl, rfl, (look_slice rfl (by first | rfl | (simp; done) | (simp; omega))), rfl, rfl, trivial⟩
        rintro mk4 _ wl9 ⟨t10_4, t38_1, l9, l10, F, rfl, H⟩
        have R0 := H.ext
        replace F := bulk_search_L3_s F
        obtain ⟨mk4, rfl, F⟩ := F
        generalize hrec4 : bulk_search_L3 a0 r4 t34_1 rec3 mk4 = rec4 at F
        unfold bulk_search_B3 at F
        refine CW.seq fun K31 hK31 => ?_
        refine CW.region ?_
        refine LW.pure rfl rfl (RV.lss rfl rfl) ?_
        refine LW.nil (hK31 _ _ ?_)
        refine CW.seq fun K32 hK32 => ?_
        by_cases hp6 : t38_1 < ((r4.length : Int))
        ·
          replace F := ite_y hp6 F
          have hq6 := dec_t hp6
          refine CW.condT rfl hq6 ?_
          refine CW.skip (hK32 _ _ ?_)
          refine CW.seqJ (fun ρ wl10 => (∃ (t10_3 : Int) (l7 : List Int) (l8 : List Step), bulk_search_k6 t38_1 rec4 t10_3 l7 l8 = some res ∧ ρ = [(2, .pointer (some (⟨b1, 0, none⟩))), (4, .slice none 0 0), (5, .slice none 0 0), (6, .int .i64 (((a0.supply.length : Int)) + ((a0.demand.length : Int)))), (7, .slice (some ⟨b2, 0, none⟩) l7.length (((List.replicate (Int.toNat (((a0.supply.length : Int)) + ((a0.demand.length : Int)))) (0 : Int))).length)), (8, .slice (some ⟨b3, 0, none⟩) l8.length (((List.replicate (Int.toNat (((a0.supply.length : Int)) + ((a0.demand.length : Int)))) (Step.nil : Step))).length)), (9, .slice A160_0 r4.length c160_0), (10, .int .i64 t10_3), (33, .int .i64 (((a0.supply.length : Int)) + ((a0.demand.length : Int)))), (34, .int .i64 t34_1), (36, .slice A160_0 r4.length c160_0), (37, .int .i64 ((r4.length : Int))), (38, .int .i64 t38_1)] ∧ Hp w wl10 [.own (some ⟨b2, 0, none⟩) (((List.replicate (Int.toNat (((a0.supply.length : Int)) + ((a0.demand.length : Int)))) (0 : Int))).length) 3 1 (List.map encN l7), .own (some ⟨b3, 0, none⟩) (((List.replicate (Int.toNat (((a0.supply.length : Int)) + ((a0.demand.length : Int)))) (Step.nil : Step))).length) 96 1 (List.map encStep l8), .own A160_0 c160_0 96 1 (List.map encStep r4), .blk b1 25 [.slice A_a0_supply a0.supply.length c_a0_supply, .slice A_a0_demand a0.demand.length c_a0_demand, .slice A_a0_cost a0.cost.length c_a0_cost]])) ?_ ?_
          ·
            rintro _ wl10 ⟨t10_3, l7, l8, F, rfl, H⟩
            have R0 := H.ext
            unfold bulk_search_k6 at F
            obtain ⟨hg8, F⟩ := gd_some F
            refine CW.region ?_
            refine LW.pure rfl rfl (RV.add rfl rfl hg8) ?_
            refine LW.pure rfl rfl (RV.move rfl) ?_
            refine LW.nil ?_
            subst hrec4
            refine ⟨mk4, Nat.lt_succ_self _, _, ?_, t10_3, (t38_1 + 1), l7, l8, F, rfl, H⟩
            exact ⟨rfl, rfl, rfl, rfl, (look_slice rfl (by first | rfl | (simp; done) | (simp; omega))), (look_slice rfl (by first | rfl | (simp; done) | (simp; omega))), (look_slice rfl (by first | rfl | (simp; done) | (simp; omega))), rfl, rfl, rfl, (look_slice rfl (by first | rfl | (simp; done) | (simp; omega))), rfl, rfl, trivial⟩
          ·
            intro K33 hK33 jK988
            refine CW.block ?_
            refine CW.seq fun K34 hK34 => ?_
            obtain ⟨x4, hbx4, hx4, F⟩ := ix_some F
            refine CW.region ?_
            refine LW.pure rfl rfl (RV.indexAddr Ts82 rfl rfl hbx4 ((H.own 2 rfl).sl.addr_ hx4)) ?_
            refine LW.pure rfl rfl (RV.load1 Tk96 rfl ((H.own 2 rfl).sl.at_ hx4) rfl) ?_
            refine LW.pure rfl rfl (RV.assign rfl) ?_
            refine LW.nil (hK34 _ _ ?_)
            refine CW.seq fun K35 hK35 => ?_
            obtain ⟨r5, hr5, F⟩ := bnd_some F
            refine CW.region ?_
            refine LW.pure rfl rfl (RV.loadA [.slice A_a0_supply a0.supply.length c_a0_supply, .slice A_a0_demand a0.demand.length c_a0_demand, .slice A_a0_cost a0.cost.length c_a0_cost] Tk25 rfl (H.blk 3 rfl).cells rfl rfl) ?_
            refine LW.pure rfl rfl (RV.move rfl) ?_
            refine LW.go rfl rfl (OW.call Tc93 rfl (bulk_ends_ok (a0 := a0) (a1 := x4) (h_a0_supply.ext R0) (h_a0_demand.ext R0) (h_a0_cost.ext R0) hr5) ?_)
            rintro _ w12 ⟨rfl, E6⟩
            refine ⟨_, rfl, ?_⟩
            replace H := H.grow E6
            replace R0 := H.ext
            refine LW.pure rfl rfl (RV.move rfl) ?_
            refine LW.pure rfl rfl (RV.extract rfl rfl) ?_
            refine LW.pure rfl rfl (RV.extract rfl rfl) ?_
            refine LW.pure rfl rfl (RV.assign rfl) ?_
            refine LW.pure rfl rfl (RV.assign rfl) ?_
            refine LW.nil (hK35 _ _ ?_)
            refine CW.seq fun K36 hK36 => ?_
            obtain ⟨x5, hbx5, hx5, F⟩ := ix_some F
            obtain ⟨r6, hr6, F⟩ := bnd_some F
            obtain ⟨hg9, F⟩ := gd_some F
            refine CW.draw [] (fun _ => True) (.cons 0 1 (.cons 1 1 (.cons 2 1 (.cons 3 1 (.cons 4 1 (.cons 5 1 (.cons 6 0 (.cons 7 1 (.cons 8 1 .nil))))))))) mixed (by kernel_rfl) fun w13 E7 => ?_
            replace H := H.grow E7
            replace R0 := H.ext
            refine DW.fix rfl rfl rfl (fun _ EQ => RV.move rfl) ?_
            refine DW.fix rfl rfl rfl (fun _ EQ => RV.move rfl) ?_
            refine DW.fix rfl rfl rfl (fun _ EQ => RV.indexAddr Ts22 rfl rfl hbx5 ⟨_, rfl⟩) ?_
            refine DW.fix rfl rfl rfl (fun _ EQ => RV.load1 Tk3 rfl (((H.grow EQ).own 0 rfl).sl.at_ hx5) rfl) ?_
            refine DW.fix rfl rfl rfl (fun _ EQ => RV.move rfl) ?_
            refine DW.fix rfl rfl rfl (fun _ EQ => RV.loadA [.slice A_a0_supply a0.supply.length c_a0_supply, .slice A_a0_demand a0.demand.length c_a0_demand, .slice A_a0_cost a0.cost.length c_a0_cost] Tk25 rfl ((H.grow EQ).blk 3 rfl).cells rfl rfl) ?_
            refine DW.sole rfl rfl rfl (OW.invoke rfl rfl (Step_cost_ok (x := x4) (a1 := a0) ⟨fun y w => by kernel_rfl, fun y w => by kernel_rfl⟩ (h_a0_supply.ext R0) (h_a0_demand.ext R0) (h_a0_cost.ext R0) hr6) ?_)
            rintro _ w14 ⟨rfl, E8⟩
            refine ⟨_, rfl, fun _ => E8, ModX.ext E8, ?_⟩
            replace H := H.grow E8
            replace R0 := H.ext
            refine DW.fix rfl rfl rfl (fun _ EQ => RV.add rfl rfl hg9) ?_
            refine DW.fix rfl rfl rfl (fun _ EQ => RV.assign rfl) ?_
            refine DW.nil (hK36 _ _ ?_)
            refine CW.seq fun K37 hK37 => ?_
            obtain ⟨x6, hbx6, hx6, F⟩ := ix_some F
            refine CW.region ?_
            refine LW.pure rfl rfl (RV.move rfl) ?_
            refine LW.pure rfl rfl (RV.move rfl) ?_
            refine LW.pure rfl rfl (RV.move rfl) ?_
            refine LW.pure rfl rfl (RV.indexAddr Ts22 rfl rfl hbx6 ⟨_, rfl⟩) ?_
            refine LW.pure rfl rfl (RV.load1 Tk3 rfl ((H.own 0 rfl).sl.at_ hx6) rfl) ?_
            refine LW.pure rfl rfl (RV.lss rfl rfl) ?_
            refine LW.nil (hK37 _ _ ?_)
            by_cases hp7 : (x5 + r6) < x6
            ·
              replace F := ite_y hp7 F
              have hq7 := dec_t hp7
              refine CW.condT rfl hq7 ?_
              obtain ⟨x7, hbx7, hx7, F⟩ := ix_some F
              obtain ⟨x8, hbx8, hx8, F⟩ := ix_some F
              refine CW.region ?_
              refine LW.pure rfl rfl (RV.move rfl) ?_
              refine LW.pure rfl rfl (RV.move rfl) ?_
              refine LW.pure rfl rfl (RV.move rfl) ?_
              refine LW.pure rfl rfl (RV.move rfl) ?_
              refine LW.pure rfl rfl (RV.move rfl) ?_
              refine LW.pure rfl rfl (RV.move rfl) ?_
              refine LW.pure rfl rfl (RV.move rfl) ?_
              refine LW.pure rfl rfl (RV.indexAddr Ts22 rfl rfl hbx7 ⟨_, rfl⟩) ?_
              refine LW.go rfl rfl (OW.storeO (enc := encN) (vs := [.int .i64 (x5 + r6)]) 0 (x5 + r6) Tk3 rfl rfl (H.own 0 rfl) (fun _ => rfl) rfl hx7 rfl rfl (by decide) rfl rfl fun w15 M2 O2 => ?_)
              replace H : Hp w w15 [.own (some ⟨b2, 0, none⟩) (((List.replicate (Int.toNat (((a0.supply.length : Int)) + ((a0.demand.length : Int)))) (0 : Int))).length) 3 1 (List.map encN ((l9.set (Int.toNat r5.2) (x5 + r6)))), .own (some ⟨b3, 0, none⟩) (((List.replicate (Int.toNat (((a0.supply.length : Int)) + ((a0.demand.length : Int)))) (Step.nil : Step))).length) 96 1 (List.map encStep l10), .own A160_0 c160_0 96 1 (List.map encStep r4), .blk b1 25 [.slice A_a0_supply a0.supply.length c_a0_supply, .slice A_a0_demand a0.demand.length c_a0_demand, .slice A_a0_cost a0.cost.length c_a0_cost]] := H.mod 0 rfl M2 O2 (.inl rfl)
              replace R0 := H.ext
              refine LW.pure rfl rfl (RV.indexAddr Ts82 rfl rfl hbx8 ⟨_, rfl⟩) ?_
              refine LW.go rfl rfl (OW.storeO (enc := encStep) (vs := [encStepV x4]) 0 (x4) Tk96 rfl rfl (H.own 1 rfl) (fun _ => rfl) rfl hx8 (by generalize x4 = q; cases q <;> rfl) rfl (by decide) (by generalize x4 = q; cases q <;> rfl) rfl fun w16 M3 O3 => ?_)
              replace H : Hp w w16 [.own (some ⟨b2, 0, none⟩) (((List.replicate (Int.toNat (((a0.supply.length : Int)) + ((a0.demand.length : Int)))) (0 : Int))).length) 3 1 (List.map encN ((l9.set (Int.toNat r5.2) (x5 + r6)))), .own (some ⟨b3, 0, none⟩) (((List.replicate (Int.toNat (((a0.supply.length : Int)) + ((a0.demand.length : Int)))) (Step.nil : Step))).length) 96 1 (List.map encStep ((l10.set (Int.toNat r5.2) x4))), .own A160_0 c160_0 96 1 (List.map encStep r4), .blk b1 25 [.slice A_a0_supply a0.supply.length c_a0_supply, .slice A_a0_demand a0.demand.length c_a0_demand, .slice A_a0_cost a0.cost.length c_a0_cost]] := H.mod 1 rfl M3 O3 (.inl rfl)
              replace R0 := H.ext
              refine LW.pure rfl rfl (RV.assign rfl) ?_
              refine LW.nil (jK988 _ _ ⟨_, ?_, ⟨r5.2, ((l9.set (Int.toNat r5.2) (x5 + r6))), ((l10.set (Int.toNat r5.2) x4)), F, rfl, H⟩⟩)
              exact ⟨rfl, rfl, rfl, rfl, (look_slice rfl (by first | rfl | (simp; done) | (simp; omega))), (look_slice rfl (by first | rfl | (simp; done) | (simp; omega))), (look_slice rfl (by first | rfl | (simp; done) | (simp; omega))), rfl, rfl, rfl, (look_slice rfl (by first | rfl | (simp; done) | (simp; omega))), rfl, rfl, trivial⟩
            ·
              replace F := ite_n hp7 F
              have hq7 := dec_f hp7
              refine CW.condF rfl hq7 ?_
              refine CW.skip (jK988 _ _ ⟨_, ?_, ⟨t10_4, l9, l10, F, rfl, H⟩⟩)
              exact ⟨rfl, rfl, rfl, rfl, (look_slice rfl (by first | rfl | (simp; done) | (simp; omega))), (look_slice rfl (by first | rfl | (simp; done) | (simp; omega))), (look_slice rfl (by first | rfl | (simp; done) | (simp; omega))), rfl, rfl, rfl, (look_slice rfl (by first | rfl | (simp; done) | (simp; omega))), rfl, rfl, trivial⟩
        ·
          replace F := ite_n hp6 F
          have hq6 := dec_f hp6
          refine CW.condF rfl hq6 ?_
          refine CW.exit (jK957 _ _ ⟨_, ?_, ⟨t10_4, l9, l10, F, rfl, H⟩⟩)
          exact ⟨rfl, rfl, rfl, rfl, (look_slice rfl (by first | rfl | (simp; done) | (simp; omega))), (look_slice rfl (by first | rfl | (simp; done) | (simp; omega))), (look_slice rfl (by first | rfl | (simp; done) | (simp; omega))), rfl, rfl, rfl, trivial⟩
    ·
      replace F := ite_n hp5 F
      have hq5 := dec_f hp5
      refine CW.condF rfl hq5 ?_
      replace H := H.pick (L' := [.own (some ⟨b2, 0, none⟩) (((List.replicate (Int.toNat (((a0.supply.length : Int)) + ((a0.demand.length : Int)))) (0 : Int))).length) 3 1 (List.map encN l11), .own (some ⟨b3, 0, none⟩) (((List.replicate (Int.toNat (((a0.supply.length : Int)) + ((a0.demand.length : Int)))) (Step.nil : Step))).length) 96 1 (List.map encStep l12), .blk b1 25 [.slice A_a0_supply a0.supply.length c_a0_supply, .slice A_a0_demand a0.demand.length c_a0_demand, .slice A_a0_cost a0.cost.length c_a0_cost]]) [0, 1, 3] (by decide) rfl
      replace R0 := H.ext
      refine CW.exit (jK772 _ _ ⟨_, ?_, ⟨t10_5, l11, l12, F, rfl, H⟩⟩)
      exact ⟨rfl, rfl, rfl, rfl, (look_slice rfl (by first | rfl | (simp; done) | (simp; omega))), (look_slice rfl (by first | rfl | (simp; done) | (simp; omega))), rfl, trivial⟩
end Go.D7

set_option linter.unusedVariables false
set_option linter.unusedSimpArgs false
namespace Go.D7
open Go.Tb Go.Proofs Go.RowKit
theorem Tc95 : callable Try.prog 95 = true := by kernel_rfl
theorem Tc96 : callable Try.prog 96 = true := by kernel_rfl
theorem Tc99 : callable Try.prog 99 = true := by kernel_rfl
theorem Tk50 : tyK Try.prog 50 = some (false, 1) := by kernel_rfl
theorem Tk86 : tyK Try.prog 86 = some (true, 2) := by kernel_rfl
theorem Ts109 : tyS Try.prog 109 = some (50, 1, 24, [.slice none 0 0]) := by kernel_rfl
theorem Ts50 : tyS Try.prog 50 = some (86, 2, 16, [.int .i64 0, .int .i64 0]) := by kernel_rfl
theorem Tu3 : Try.prog.underlying 3 = some (.int .i64) := by kernel_rfl
set_option maxRecDepth 20000 in
set_option maxHeartbeats 1000000 in
theorem slices_Reverse_2_int_2_int_ok {a0 : List Arr2} {A_a0 : Option Addr} {c_a0 : Nat} {wb : World} {R : List Ck} {w : World} {res : (List Arr2)} (H : Hp wb w ([.own A_a0 c_a0 86 2 (List.map encArr2 a0)] ++ R)) (F : slices_Reverse_2_int_2_int a0 = some res) : Calls Try.prog 95 #[.slice A_a0 a0.length c_a0] w (fun e w' => e = .returned (.tuple #[]) ∧ res.length = a0.length ∧ Hp wb w' ([.own A_a0 c_a0 86 2 (List.map encArr2 res)] ++ R)) := by
  refine calls_of_cw (args := [.slice A_a0 a0.length c_a0]) Try.func95 rfl rfl rfl rfl ?_
  have R0 := H.ext
  unfold slices_Reverse_2_int_2_int at F
  refine CW.seq fun K1 hK1 => ?_
  obtain ⟨hg1, F⟩ := gd_some F
  refine CW.region ?_
  refine LW.pure rfl rfl (RV.move rfl) ?_
  refine LW.pure rfl rfl (RV.len Ts50 rfl) ?_
  refine LW.pure rfl rfl (RV.sub rfl rfl hg1) ?_
  refine LW.pure rfl rfl (RV.assign rfl) ?_
  refine LW.pure rfl rfl (RV.assign rfl) ?_
  refine LW.nil (hK1 _ _ ?_)
  refine CW.block ?_
  refine CW.loop (fun meas ρ wl1 => ∃ (t2_1 : Int) (t3_1 : Int) (l1 : List Arr2), slices_Reverse_2_int_2_int_L1 meas t2_1 t3_1 l1 = some res ∧ ρ = [(0, .slice A_a0 l1.length c_a0), (2, .int .i64 t2_1), (3, .int .i64 t3_1)] ∧ Hp wb wl1 ([.own A_a0 c_a0 86 2 (List.map encArr2 l1)] ++ R) ∧ l1.length = a0.length) FU ⟨_, ?_, ((0 : Int)), (((a0.length : Int)) - 1), a0, F, rfl, H, (show a0.length = a0.length by first | rfl | assumption | omega | (simp; done) | (simp; assumption) | (simp; omega))⟩ ?_
  · exact ⟨(look_slice rfl (by first | rfl | (simp; done) | (simp; omega))), rfl, rfl, trivial⟩
  rintro mk1 _ wl1 ⟨t2_1, t3_1, l1, F, rfl, H, hl1⟩
  have R0 := H.ext
  replace F := slices_Reverse_2_int_2_int_L1_s F
  obtain ⟨mk1, rfl, F⟩ := F
  generalize hrec1 : slices_Reverse_2_int_2_int_L1 mk1 = rec1 at F
  unfold slices_Reverse_2_int_2_int_B1 at F
  refine CW.seq fun K2 hK2 => ?_
  refine CW.seq fun K3 hK3 => ?_
  refine CW.region ?_
  refine LW.pure rfl rfl (RV.move rfl) ?_
  refine LW.pure rfl rfl (RV.move rfl) ?_
  refine LW.pure rfl rfl (RV.lss rfl rfl) ?_
  refine LW.nil (hK3 _ _ ?_)
  by_cases hp1 : t2_1 < t3_1
  ·
    replace F := ite_y hp1 F
    have hq1 := dec_t hp1
    refine CW.condT rfl hq1 ?_
    refine CW.skip (hK2 _ _ ?_)
    refine CW.seq fun K4 hK4 => ?_
    refine CW.block ?_
    obtain ⟨x1, hbx1, hx1, F⟩ := ix_some F
    obtain ⟨x2, hbx2, hx2, F⟩ := ix_some F
    obtain ⟨x3, hbx3, hx3, F⟩ := ix_some F
    obtain ⟨x4, hbx4, hx4, F⟩ := ix_some F
    refine CW.draw [13, 15] (fun _ => True) (.cons 0 1 (.cons 1 1 (.cons 4 1 (.cons 5 1 (.cons 6 1 (.cons 7 1 (.cons 2 2 (.cons 3 2 (.cons 8 2 (.cons 9 2 (.cons 10 2 (.cons 11 1 (.cons 12 1 (.cons 13 0 (.cons 14 2 (.cons 15 0 .nil)))))))))))))))) mixed (by kernel_rfl) fun w1 E1 => ?_
    replace H := H.grow E1
    replace R0 := H.ext
    refine DW.fix rfl rfl rfl (fun _ EQ => RV.move rfl) ?_
    refine DW.fix rfl rfl rfl (fun _ EQ => RV.move rfl) ?_
    refine DW.fix rfl rfl rfl (fun _ EQ => RV.move rfl) ?_
    refine DW.fix rfl rfl rfl (fun _ EQ => RV.move rfl) ?_
    refine DW.fix rfl rfl rfl (fun _ EQ => RV.indexAddr Ts50 rfl rfl hbx1 ((H.own 0 rfl).sl.addr_ hx1)) ?_
    refine DW.fix rfl rfl rfl (fun _ EQ => RV.loadA [.int .i64 x1.at0, .int .i64 x1.at1] Tk86 rfl (((H.grow EQ).own 0 rfl).sl.at_ hx1) rfl rfl) ?_
    refine DW.thru rfl rfl rfl (fun _ EQ => RV.move rfl) ?_
    refine DW.thru rfl rfl rfl (fun _ EQ => RV.move rfl) ?_
    refine DW.thru rfl rfl rfl (fun _ EQ => RV.move rfl) ?_
    refine DW.thru rfl rfl rfl (fun _ EQ => RV.move rfl) ?_
    refine DW.thru rfl rfl rfl (fun _ EQ => RV.indexAddr Ts50 rfl rfl hbx2 ((H.own 0 rfl).sl.addr_ hx2)) ?_
    refine DW.fix rfl rfl rfl (fun _ EQ => RV.loadA [.int .i64 x2.at0, .int .i64 x2.at1] Tk86 rfl (((H.grow EQ).own 0 rfl).sl.at_ hx2) rfl rfl) ?_
    refine DW.fix rfl rfl rfl (fun _ EQ => RV.indexAddr Ts50 rfl rfl hbx3 ((H.own 0 rfl).sl.addr_ hx3)) ?_
    refine DW.sole rfl rfl rfl (OW.storeO (enc := encArr2) (vs := [.int .i64 x1.at0, .int .i64 x1.at1]) 0 (x1) Tk86 rfl rfl (H.own 0 rfl) (fun _ => rfl) rfl hx3 rfl rfl (by decide) rfl rfl fun w2 M1 O1 => ?_)
    refine ⟨fun h => absurd h (by decide), M1.modx (fun _ _ => trivial), ?_⟩
    replace H : Hp wb w2 ([.own A_a0 c_a0 86 2 (List.map encArr2 ((l1.set (Int.toNat t2_1) x1)))] ++ R) := H.mod 0 rfl M1 O1 (.inl rfl)
    replace R0 := H.ext
    refine DW.thru rfl rfl rfl (fun _ EQ => RV.indexAddr Ts50 rfl rfl (by first | exact hbx4 | (simp at hbx4 ⊢; omega)) ((H.own 0 rfl).sl.addr_ hx4)) ?_
    refine DW.sole rfl rfl rfl (OW.storeO (enc := encArr2) (vs := [.int .i64 x2.at0, .int .i64 x2.at1]) 0 (x2) Tk86 rfl rfl (H.own 0 rfl) (fun _ => rfl) rfl hx4 rfl rfl (by decide) rfl rfl fun w3 M2 O2 => ?_)
    refine ⟨fun h => absurd h (by decide), M2.modx (fun _ _ => trivial), ?_⟩
    replace H : Hp wb w3 ([.own A_a0 c_a0 86 2 (List.map encArr2 ((((l1.set (Int.toNat t2_1) x1)).set (Int.toNat t3_1) x2)))] ++ R) := H.mod 0 rfl M2 O2 (.inl rfl)
    replace R0 := H.ext
    refine DW.nil (hK4 _ _ ?_)
    obtain ⟨hg2, F⟩ := gd_some F
    obtain ⟨hg3, F⟩ := gd_some F
    refine CW.region ?_
    refine LW.pure rfl rfl (RV.move rfl) ?_
    refine LW.pure rfl rfl (RV.add rfl rfl hg2) ?_
    refine LW.pure rfl rfl (RV.move rfl) ?_
    refine LW.pure rfl rfl (RV.sub rfl rfl hg3) ?_
    refine LW.pure rfl rfl (RV.assign rfl) ?_
    refine LW.pure rfl rfl (RV.assign rfl) ?_
    refine LW.nil ?_
    subst hrec1
    refine ⟨mk1, Nat.lt_succ_self _, _, ?_, (t2_1 + 1), (t3_1 - 1), ((((l1.set (Int.toNat t2_1) x1)).set (Int.toNat t3_1) x2)), F, rfl, H, (show ((((l1.set (Int.toNat t2_1) x1)).set (Int.toNat t3_1) x2)).length = a0.length by first | rfl | assumption | omega | (simp; done) | (simp; assumption) | (simp; omega))⟩
    exact ⟨(look_slice rfl (by first | rfl | (simp; done) | (simp; omega))), rfl, rfl, trivial⟩
  ·
    replace F := ite_n hp1 F
    have hq1 := dec_f hp1
    refine CW.condF rfl hq1 ?_
    refine CW.exit ?_
    obtain rfl := Option.some.inj F
    refine ⟨_, ResOK.none_, ?_⟩
    exact ⟨(by first | rfl | (simp; done) | (simp; omega)), (by first | rfl | assumption | omega | (simp; done) | (simp; assumption) | (simp; omega)), H⟩
set_option maxRecDepth 20000 in
set_option maxHeartbeats 1000000 in
theorem slices_Grow_2_int_2_int_ok {a1 : Int} {w : World} {res : (List Arr2)} (F : slices_Grow_2_int_2_int a1 = some res) : Calls Try.prog 99 #[.slice none 0 0, .int .i64 a1] w (fun e w' => ∃ (A0 : Option Addr) (c1 : Nat), e = .returned (.slice A0 res.length c1) ∧ Hp w w' [.own A0 c1 86 2 (List.map encArr2 res)]) := by
  refine calls_of_cw (args := [.slice none 0 0, .int .i64 a1]) Try.func99 rfl rfl rfl rfl ?_
  have H := Hp.start w
  have R0 := H.ext
  unfold slices_Grow_2_int_2_int at F
  refine CW.seq fun K1 hK1 => ?_
  refine CW.region ?_
  refine LW.pure rfl rfl (RV.assign rfl) ?_
  refine LW.nil (hK1 _ _ ?_)
  refine CW.seq fun K2 hK2 => ?_
  refine CW.seq fun K3 hK3 => ?_
  refine CW.region ?_
  refine LW.pure rfl rfl (RV.move rfl) ?_
  refine LW.pure rfl rfl (RV.lss rfl rfl) ?_
  refine LW.nil (hK3 _ _ ?_)
  by_cases hp1 : a1 < 0
  ·
    replace F := ite_y hp1 F
    have hq1 := dec_t hp1
    refine CW.condT rfl hq1 ?_
    cases F
  ·
    replace F := ite_n hp1 F
    have hq1 := dec_f hp1
    refine CW.condF rfl hq1 ?_
    refine CW.skip (hK2 _ _ ?_)
    refine CW.seqJ (fun ρ wl1 => (∃ (l1 : List Arr2) (Al1 : Option Addr) (cl1 : Nat), slices_Grow_2_int_2_int_k1 l1 = some res ∧ ρ = [(0, .slice Al1 l1.length cl1), (4, .slice none 0 0)] ∧ Hp w wl1 [.own Al1 cl1 86 2 (List.map encArr2 l1)])) ?_ ?_
    ·
      rintro _ wl1 ⟨l1, Al1, cl1, F, rfl, H⟩
      have R0 := H.ext
      unfold slices_Grow_2_int_2_int_k1 at F
      refine CW.seq fun K4 hK4 => ?_
      refine CW.region ?_
      refine LW.pure rfl rfl (RV.move rfl) ?_
      refine LW.pure rfl rfl (RV.assign rfl) ?_
      refine LW.nil (hK4 _ _ ?_)
      refine CW.ret ?_
      obtain rfl := Option.some.inj F
      refine ⟨_, (ResOK.one rfl), ?_⟩
      exact ⟨Al1, cl1, (by first | rfl | (simp; done) | (simp; omega)), H⟩
    ·
      intro K5 hK5 jK18
      refine CW.seq fun K6 hK6 => ?_
      obtain ⟨hg1, F⟩ := gd_some F
      obtain ⟨hg2, F⟩ := gd_some F
      refine CW.region ?_
      refine LW.pure rfl rfl (RV.move rfl) ?_
      refine LW.pure rfl rfl (RV.move rfl) ?_
      refine LW.pure rfl rfl (RV.cap Ts50 rfl) ?_
      refine LW.pure rfl rfl (RV.move rfl) ?_
      refine LW.pure rfl rfl (RV.len Ts50 rfl) ?_
      refine LW.pure rfl rfl (RV.sub rfl rfl hg1) ?_
      refine LW.pure rfl rfl (RV.sub rfl rfl hg2) ?_
      refine LW.pure rfl rfl (RV.assign rfl) ?_
      refine LW.nil (hK6 _ _ ?_)
      refine CW.seq fun K7 hK7 => ?_
      refine CW.region ?_
      refine LW.pure rfl rfl (RV.move rfl) ?_
      refine LW.pure rfl rfl (RV.gtr rfl rfl) ?_
      refine LW.nil (hK7 _ _ ?_)
      by_cases hp2 : (0 : Int) < (a1 - (0 - 0))
      ·
        replace F := ite_y hp2 F
        have hq2 := dec_t hp2
        refine CW.condT rfl hq2 ?_
        obtain ⟨hg3, F⟩ := gd_some F
        obtain ⟨hg4, F⟩ := gd_some F
        refine CW.region ?_
        refine LW.pure rfl rfl (RV.move rfl) ?_
        refine LW.pure rfl rfl (RV.move rfl) ?_
        refine LW.pure rfl rfl (RV.cap Ts50 rfl) ?_
        refine LW.pure rfl rfl (RV.sliceHi Ts50 rfl rfl (by decide)) ?_
        refine LW.pure rfl rfl (RV.move rfl) ?_
        refine LW.go rfl rfl (OW.appendZ (enc := encArr2) ((⟨0, 0⟩ : Arr2) : Arr2) Ts50 Tu3 rfl rfl rfl rfl (fun _ => rfl) rfl hg3 (by decide) fun b1 c2 w1 O1 N1 E1 => ?_)
        replace H : Hp w w1 [.own (some ⟨b1, 0, none⟩) c2 86 2 (List.map encArr2 ((List.replicate (Int.toNat (a1 - (0 - 0))) ((⟨0, 0⟩ : Arr2) : Arr2))))] := H.newOwn E1 O1 (by intro a ha; cases ha; exact Nat.le_of_eq N1.symm)
        replace R0 := H.ext
        refine LW.pure rfl rfl (RV.move rfl) ?_
        refine LW.pure rfl rfl (RV.len Ts50 rfl) ?_
        refine LW.pure rfl rfl (RV.cutH (l := (List.replicate (Int.toNat (a1 - (0 - 0))) ((⟨0, 0⟩ : Arr2) : Arr2))) Ts50 rfl rfl hg4 (H.own 0 rfl).sl.le rfl) ?_
        replace H : Hp w w1 [.own (some ⟨b1, 0, none⟩) c2 86 2 (List.map encArr2 ((List.take 0 ((List.replicate (Int.toNat (a1 - (0 - 0))) ((⟨0, 0⟩ : Arr2) : Arr2))))))] := H.weaken 0 rfl (y := .own (some ⟨b1, 0, none⟩) c2 86 2 (List.map encArr2 ((List.take 0 ((List.replicate (Int.toNat (a1 - (0 - 0))) ((⟨0, 0⟩ : Arr2) : Arr2))))))) (Own.shrink (rows := List.map encArr2 (List.take 0 ((List.replicate (Int.toNat (a1 - (0 - 0))) ((⟨0, 0⟩ : Arr2) : Arr2))))) (news := List.map encArr2 (List.drop 0 ((List.replicate (Int.toNat (a1 - (0 - 0))) ((⟨0, 0⟩ : Arr2) : Arr2))))) (by rw [← List.map_append, List.take_append_drop]; exact (H.own 0 rfl)) (by simp)) (fun _ h => h)
        replace R0 := H.ext
        refine LW.pure rfl rfl (RV.assign rfl) ?_
        refine LW.nil (jK18 _ _ ⟨_, ?_, ⟨((List.take 0 ((List.replicate (Int.toNat (a1 - (0 - 0))) ((⟨0, 0⟩ : Arr2) : Arr2))))), (some ⟨b1, 0, none⟩), c2, F, rfl, H⟩⟩)
        exact ⟨(look_slice rfl (by first | rfl | (simp; done) | (simp; omega))), rfl, trivial⟩
      ·
        replace F := ite_n hp2 F
        have hq2 := dec_f hp2
        refine CW.condF rfl hq2 ?_
        replace H := H.nilOwn 86 2
        replace R0 := H.ext
        refine CW.skip (jK18 _ _ ⟨_, ?_, ⟨(([] : List Arr2)), none, 0, F, rfl, H⟩⟩)
        exact ⟨(look_slice rfl (by first | rfl | (simp; done) | (simp; omega))), rfl, trivial⟩
set_option maxRecDepth 20000 in
set_option maxHeartbeats 1000000 in
theorem slices_Concat_2_int_2_int_ok {a0 : List (List Arr2)} {A_a0 : Option Addr} {c_a0 : Nat} {w : World} {res : (List Arr2)} (h_a0 : Sl2 w A_a0 c_a0 2 encArr2 a0) (F : slices_Concat_2_int_2_int a0 = some res) : Calls Try.prog 96 #[.slice A_a0 a0.length c_a0] w (fun e w' => ∃ (A1 : Option Addr) (c1 : Nat), e = .returned (.slice A1 res.length c1) ∧ Hp w w' [.own A1 c1 86 2 (List.map encArr2 res)]) := by
  refine calls_of_cw (args := [.slice A_a0 a0.length c_a0]) Try.func96 rfl rfl rfl rfl ?_
  have H := Hp.start w
  have R0 := H.ext
  unfold slices_Concat_2_int_2_int at F
  refine CW.seq fun K1 hK1 => ?_
  refine CW.region ?_
  refine LW.pure rfl rfl (RV.assign rfl) ?_
  refine LW.nil (hK1 _ _ ?_)
  refine CW.seq fun K2 hK2 => ?_
  refine CW.region ?_
  refine LW.pure rfl rfl (RV.assign rfl) ?_
  refine LW.nil (hK2 _ _ ?_)
  refine CW.seqJ (fun ρ wl1 => (∃ (t3_1 : Int), slices_Concat_2_int_2_int_k2 a0 t3_1 = some res ∧ ρ = [(0, .slice A_a0 a0.length c_a0), (2, .slice none 0 0), (3, .int .i64 t3_1)] ∧ Hp w wl1 [])) ?_ ?_
  ·
    rintro _ wl1 ⟨t3_1, F, rfl, H⟩
    have R0 := H.ext
    unfold slices_Concat_2_int_2_int_k2 at F
    refine CW.seq fun K3 hK3 => ?_
    obtain ⟨r1, hr1, F⟩ := bnd_some F
    refine CW.region ?_
    refine LW.pure rfl rfl (RV.move rfl) ?_
    refine LW.go rfl rfl (OW.call Tc99 rfl (slices_Grow_2_int_2_int_ok (a1 := t3_1) hr1) ?_)
    rintro _ w1 ⟨A3_0, c3_0, rfl, E1⟩
    refine ⟨_, rfl, ?_⟩
    replace H : Hp w w1 [.own A3_0 c3_0 86 2 (List.map encArr2 r1)] := H.append E1
    replace R0 := H.ext
    refine LW.pure rfl rfl (RV.assign rfl) ?_
    refine LW.nil (hK3 _ _ ?_)
    refine CW.seqJ (fun ρ wl2 => (∃ (l1 : List Arr2) (Al1 : Option Addr) (cl1 : Nat), slices_Concat_2_int_2_int_k1 l1 = some res ∧ ρ = [(2, .slice none 0 0), (6, .slice Al1 l1.length cl1)] ∧ Hp w wl2 [.own Al1 cl1 86 2 (List.map encArr2 l1)])) ?_ ?_
    ·
      rintro _ wl2 ⟨l1, Al1, cl1, F, rfl, H⟩
      have R0 := H.ext
      unfold slices_Concat_2_int_2_int_k1 at F
      refine CW.seq fun K4 hK4 => ?_
      refine CW.region ?_
      refine LW.pure rfl rfl (RV.move rfl) ?_
      refine LW.pure rfl rfl (RV.assign rfl) ?_
      refine LW.nil (hK4 _ _ ?_)
      refine CW.ret ?_
      obtain rfl := Option.some.inj F
      refine ⟨_, (ResOK.one rfl), ?_⟩
      exact ⟨Al1, cl1, (by first | rfl | (simp; done) | (simp; omega)), H⟩
    ·
      intro K5 hK5 jK134
      refine CW.seq fun K6 hK6 => ?_
      refine CW.region ?_
      refine LW.pure rfl rfl (RV.move rfl) ?_
      refine LW.pure rfl rfl (RV.len Ts109 rfl) ?_
      refine LW.pure rfl rfl (RV.move rfl) ?_
      refine LW.nil (hK6 _ _ ?_)
      refine CW.block ?_
      refine CW.loop (fun meas ρ wl3 => ∃ (t27_1 : Int) (l2 : List Arr2) (Al2 : Option Addr) (cl2 : Nat), slices_Concat_2_int_2_int_L1 a0 meas t27_1 l2 = some res ∧ ρ = [(2, .slice none 0 0), (6, .slice Al2 l2.length cl2), (25, .slice A_a0 a0.length c_a0), (26, .int .i64 ((a0.length : Int))), (27, .int .i64 t27_1)] ∧ Hp w wl3 [.own Al2 cl2 86 2 (List.map encArr2 l2)]) FU ⟨_, ?_, ((0 : Int)), r1, A3_0, c3_0, F, rfl, H⟩ ?_
      · exact ⟨rfl, (look_slice rfl (by first | rfl | (simp; done) | (simp; omega))), rfl, rfl, rfl, trivial⟩
      rintro mk1 _ wl3 ⟨t27_1, l2, Al2, cl2, F, rfl, H⟩
      have R0 := H.ext
      replace F := slices_Concat_2_int_2_int_L1_s F
      obtain ⟨mk1, rfl, F⟩ := F
      generalize hrec1 : slices_Concat_2_int_2_int_L1 a0 mk1 = rec1 at F
      unfold slices_Concat_2_int_2_int_B1 at F
      refine CW.seq fun K7 hK7 => ?_
      refine CW.region ?_
      refine LW.pure rfl rfl (RV.lss rfl rfl) ?_
      refine LW.nil (hK7 _ _ ?_)
      refine CW.seq fun K8 hK8 => ?_
      by_cases hp1 : t27_1 < ((a0.length : Int))
      ·
        replace F := ite_y hp1 F
        have hq1 := dec_t hp1
        refine CW.condT rfl hq1 ?_
        refine CW.skip (hK8 _ _ ?_)
        refine CW.seq fun K9 hK9 => ?_
        refine CW.block ?_
        refine CW.seq fun K10 hK10 => ?_
        obtain ⟨x1, hbx1, hx1, F⟩ := ix_some F
        refine CW.region ?_
        obtain ⟨A2, c2, hC1, hS1⟩ := h_a0.at_ hx1
        refine LW.pure rfl rfl (RV.indexAddr Ts109 rfl rfl hbx1 (h_a0.addr hbx1)) ?_
        refine LW.pure rfl rfl (RV.load1 Tk50 rfl (hC1.ext R0) rfl) ?_
        refine LW.pure rfl rfl (RV.assign rfl) ?_
        refine LW.nil (hK10 _ _ ?_)
        obtain ⟨hg1, F⟩ := gd_some F
        refine CW.region ?_
        refine LW.pure rfl rfl (RV.move rfl) ?_
        refine LW.pure rfl rfl (RV.move rfl) ?_
        refine LW.go rfl rfl (OW.appendG (enc := encArr2) (l := l2) (xs := x1) Ts50 rfl rfl (H.own 0 rfl) (hS1.ext R0) (fun _ => rfl) rfl rfl hg1 (by decide) fun A3 c3 w2 O1 M1 D1 => ?_)
        replace H : Hp w w2 [.own A3 c3 86 2 (List.map encArr2 ((l2 ++ x1)))] := H.mod 0 rfl M1 O1 D1
        replace R0 := H.ext
        refine LW.pure rfl rfl (RV.assign rfl) ?_
        refine LW.nil (hK9 _ _ ?_)
        obtain ⟨hg2, F⟩ := gd_some F
        refine CW.region ?_
        refine LW.pure rfl rfl (RV.add rfl rfl hg2) ?_
        refine LW.pure rfl rfl (RV.move rfl) ?_
        refine LW.nil ?_
        subst hrec1
        refine ⟨mk1, Nat.lt_succ_self _, _, ?_, (t27_1 + 1), ((l2 ++ x1)), A3, c3, F, rfl, H⟩
        exact ⟨rfl, (look_slice rfl (by first | rfl | (simp; done) | (simp; omega))), rfl, rfl, rfl, trivial⟩
      ·
        replace F := ite_n hp1 F
        have hq1 := dec_f hp1
        refine CW.condF rfl hq1 ?_
        refine CW.exit (jK134 _ _ ⟨_, ?_, ⟨l2, Al2, cl2, F, rfl, H⟩⟩)
        exact ⟨rfl, (look_slice rfl (by first | rfl | (simp; done) | (simp; omega))), trivial⟩
  ·
    intro K11 hK11 jK148
    refine CW.seq fun K12 hK12 => ?_
    refine CW.region ?_
    refine LW.pure rfl rfl (RV.move rfl) ?_
    refine LW.pure rfl rfl (RV.len Ts109 rfl) ?_
    refine LW.pure rfl rfl (RV.move rfl) ?_
    refine LW.nil (hK12 _ _ ?_)
    refine CW.block ?_
    refine CW.loop (fun meas ρ wl4 => ∃ (t3_2 : Int) (t11_1 : Int), slices_Concat_2_int_2_int_L2 a0 meas t3_2 t11_1 = some res ∧ ρ = [(0, .slice A_a0 a0.length c_a0), (2, .slice none 0 0), (3, .int .i64 t3_2), (9, .slice A_a0 a0.length c_a0), (10, .int .i64 ((a0.length : Int))), (11, .int .i64 t11_1)] ∧ Hp w wl4 []) FU ⟨_, ?_, ((0 : Int)), ((0 : Int)), F, rfl, H⟩ ?_
    · exact ⟨rfl, rfl, rfl, rfl, rfl, rfl, trivial⟩
    rintro mk2 _ wl4 ⟨t3_2, t11_1, F, rfl, H⟩
    have R0 := H.ext
    replace F := slices_Concat_2_int_2_int_L2_s F
    obtain ⟨mk2, rfl, F⟩ := F
    generalize hrec2 : slices_Concat_2_int_2_int_L2 a0 mk2 = rec2 at F
    unfold slices_Concat_2_int_2_int_B2 at F
    refine CW.seq fun K13 hK13 => ?_
    refine CW.region ?_
    refine LW.pure rfl rfl (RV.lss rfl rfl) ?_
    refine LW.nil (hK13 _ _ ?_)
    refine CW.seq fun K14 hK14 => ?_
    by_cases hp2 : t11_1 < ((a0.length : Int))
    ·
      replace F := ite_y hp2 F
      have hq2 := dec_t hp2
      refine CW.condT rfl hq2 ?_
      refine CW.skip (hK14 _ _ ?_)
      refine CW.seq fun K15 hK15 => ?_
      refine CW.block ?_
      refine CW.seq fun K16 hK16 => ?_
      obtain ⟨x2, hbx2, hx2, F⟩ := ix_some F
      refine CW.region ?_
      obtain ⟨A4, c4, hC2, hS2⟩ := h_a0.at_ hx2
      refine LW.pure rfl rfl (RV.indexAddr Ts109 rfl rfl hbx2 (h_a0.addr hbx2)) ?_
      refine LW.pure rfl rfl (RV.load1 Tk50 rfl (hC2.ext R0) rfl) ?_
      refine LW.pure rfl rfl (RV.assign rfl) ?_
      refine LW.nil (hK16 _ _ ?_)
      refine CW.seq fun K17 hK17 => ?_
      obtain ⟨hg3, F⟩ := gd_some F
      refine CW.region ?_
      refine LW.pure rfl rfl (RV.move rfl) ?_
      refine LW.pure rfl rfl (RV.move rfl) ?_
      refine LW.pure rfl rfl (RV.len Ts50 rfl) ?_
      refine LW.pure rfl rfl (RV.add rfl rfl hg3) ?_
      refine LW.pure rfl rfl (RV.assign rfl) ?_
      refine LW.nil (hK17 _ _ ?_)
      refine CW.seq fun K18 hK18 => ?_
      refine CW.region ?_
      refine LW.pure rfl rfl (RV.move rfl) ?_
      refine LW.pure rfl rfl (RV.lss rfl rfl) ?_
      refine LW.nil (hK18 _ _ ?_)
      by_cases hp3 : (t3_2 + ((x2.length : Int))) < 0
      ·
        replace F := ite_y hp3 F
        have hq3 := dec_t hp3
        refine CW.condT rfl hq3 ?_
        cases F
      ·
        replace F := ite_n hp3 F
        have hq3 := dec_f hp3
        refine CW.condF rfl hq3 ?_
        refine CW.skip (hK15 _ _ ?_)
        obtain ⟨hg4, F⟩ := gd_some F
        refine CW.region ?_
        refine LW.pure rfl rfl (RV.add rfl rfl hg4) ?_
        refine LW.pure rfl rfl (RV.move rfl) ?_
        refine LW.nil ?_
        subst hrec2
        refine ⟨mk2, Nat.lt_succ_self _, _, ?_, (t3_2 + ((x2.length : Int))), (t11_1 + 1), F, rfl, H⟩
        exact ⟨rfl, rfl, rfl, rfl, rfl, rfl, trivial⟩
    ·
      replace F := ite_n hp2 F
      have hq2 := dec_f hp2
      refine CW.condF rfl hq2 ?_
      refine CW.exit (jK148 _ _ ⟨_, ?_, ⟨t3_2, F, rfl, H⟩⟩)
      exact ⟨rfl, rfl, rfl, trivial⟩
set_option maxRecDepth 20000 in
set_option maxHeartbeats 1000000 in
theorem bulk_pairs_ok {a0 : List Step} {A_a0 : Option Addr} {c_a0 : Nat} {w : World} {res : (List Arr2)} (h_a0 : Sl w A_a0 c_a0 1 (a0.map encStep)) (F : bulk_pairs a0 = some res) : Calls Try.prog 80 #[.slice A_a0 a0.length c_a0] w (fun e w' => ∃ (A1 : Option Addr) (c1 : Nat), e = .returned (.slice A1 res.length c1) ∧ Hp w w' [.own A1 c1 86 2 (List.map encArr2 res)]) := by
  refine calls_of_cw (args := [.slice A_a0 a0.length c_a0]) Try.func80 rfl rfl rfl rfl ?_
  have H := Hp.start w
  have R0 := H.ext
  unfold bulk_pairs at F
  refine CW.seq fun K1 hK1 => ?_
  refine CW.region ?_
  refine LW.pure rfl rfl (RV.assign rfl) ?_
  refine LW.nil (hK1 _ _ ?_)
  refine CW.seq fun K2 hK2 => ?_
  refine CW.region ?_
  refine LW.pure rfl rfl (RV.assign rfl) ?_
  refine LW.nil (hK2 _ _ ?_)
  refine CW.seqJ (fun ρ wl1 => (∃ (l1 : List Arr2) (Al1 : Option Addr) (cl1 : Nat), bulk_pairs_k1 l1 = some res ∧ ρ = [(2, .slice none 0 0), (3, .slice Al1 l1.length cl1)] ∧ Hp w wl1 [.own Al1 cl1 86 2 (List.map encArr2 l1)])) ?_ ?_
  ·
    rintro _ wl1 ⟨l1, Al1, cl1, F, rfl, H⟩
    have R0 := H.ext
    unfold bulk_pairs_k1 at F
    refine CW.seq fun K3 hK3 => ?_
    obtain ⟨r1, hr1, F⟩ := bnd_some F
    refine CW.region ?_
    refine LW.pure rfl rfl (RV.move rfl) ?_
    replace H := H.pick (L' := [.own Al1 cl1 86 2 (List.map encArr2 l1)]) [0] (by decide) rfl
    replace R0 := H.ext
    refine LW.go rfl rfl (OW.call Tc95 rfl (slices_Reverse_2_int_2_int_ok (a0 := l1) (R := []) H hr1) ?_)
    rintro _ w1 ⟨rfl, hlm4_a0, Hq1⟩
    refine ⟨_, rfl, ?_⟩
    replace H : Hp w w1 [.own Al1 cl1 86 2 (List.map encArr2 r1)] := Hq1
    replace R0 := H.ext
    refine LW.nil (hK3 _ _ ?_)
    refine CW.seq fun K4 hK4 => ?_
    obtain ⟨hg1, F⟩ := gd_some F
    obtain ⟨hg2, F⟩ := gd_some F
    obtain ⟨hg3, F⟩ := gd_some F
    obtain ⟨hg4, F⟩ := gd_some F
    obtain ⟨r2, hr2, F⟩ := bnd_some F
    refine CW.draw [] (fun _ => True) (.cons 0 1 (.cons 1 1 (.cons 2 1 (.cons 3 1 (.cons 4 1 (.cons 5 1 (.cons 6 1 (.cons 7 1 (.cons 8 1 (.cons 9 1 (.cons 10 0 (.cons 11 0 (.cons 12 1 .nil))))))))))))) mixed (by kernel_rfl) fun w2 E1 => ?_
    replace H := H.grow E1
    replace R0 := H.ext
    refine DW.fix rfl rfl rfl (fun _ EQ => RV.move rfl) ?_
    refine DW.fix rfl rfl rfl (fun _ EQ => RV.move rfl) ?_
    refine DW.fix rfl rfl rfl (fun _ EQ => RV.len Ts50 rfl) ?_
    refine DW.fix rfl rfl rfl (fun _ EQ => RV.sub rfl rfl hg1) ?_
    refine DW.fix rfl rfl rfl (fun _ EQ => RV.cutL (l := r1) Ts50 rfl rfl hg2 (H.own 0 rfl).sl.le (by first | rfl | assumption | (symm; assumption) | omega | (simp; done) | (simp; omega))) ?_
    refine DW.fix rfl rfl rfl (fun _ EQ => RV.move rfl) ?_
    refine DW.fix rfl rfl rfl (fun _ EQ => RV.move rfl) ?_
    refine DW.fix rfl rfl rfl (fun _ EQ => RV.len Ts50 rfl) ?_
    refine DW.fix rfl rfl rfl (fun _ EQ => RV.sub rfl rfl hg3) ?_
    refine DW.fix rfl rfl rfl (fun _ EQ => RV.cutH (l := r1) Ts50 rfl rfl hg4 (H.own 0 rfl).sl.le (by first | rfl | assumption | (symm; assumption) | omega | (simp; done) | (simp; omega))) ?_
    refine DW.sole rfl rfl rfl (OW.buildSlice (e := 50) (vs := [.slice ((cutA Al1 cl1 2 (Int.toNat (((l1.length : Int)) - 1)))) ((List.drop (Int.toNat (((l1.length : Int)) - 1)) r1).length) ((cl1 - (Int.toNat (((l1.length : Int)) - 1)))), .slice Al1 ((List.take (Int.toNat (((l1.length : Int)) - 1)) r1).length) cl1]) (cs := [.slice ((cutA Al1 cl1 2 (Int.toNat (((l1.length : Int)) - 1)))) ((List.drop (Int.toNat (((l1.length : Int)) - 1)) r1).length) ((cl1 - (Int.toNat (((l1.length : Int)) - 1)))), .slice Al1 ((List.take (Int.toNat (((l1.length : Int)) - 1)) r1).length) cl1]) rfl (fun _ => by kernel_rfl) fun b1 w3 N1 => ?_)
    refine ⟨fun _ => N1.ext, ModX.ext N1.ext, ?_⟩
    replace H := H.made' (k := 1) (t := 50) (enc := encH) (l := ([(((cutA Al1 cl1 2 (Int.toNat (((l1.length : Int)) - 1))), (cl1 - (Int.toNat (((l1.length : Int)) - 1)))), (List.drop (Int.toNat (((l1.length : Int)) - 1)) r1)), ((Al1, cl1), (List.take (Int.toNat (((l1.length : Int)) - 1)) r1))] : List ((Option Addr × Nat) × List Arr2))) N1 (by have q := N1.blk; simp only [List.flatMap_cons, List.flatMap_nil, encH, List.length_nil, List.append_nil, List.cons_append, List.nil_append]; first | done | exact q) (fun _ => rfl) rfl (by first | decide | omega | (simp; done) | (simp; omega))
    replace R0 := H.ext
    have hS1 : Sl2 w3 (some ⟨b1, 0, none⟩) 2 2 encArr2 [(List.drop (Int.toNat (((l1.length : Int)) - 1)) r1), (List.take (Int.toNat (((l1.length : Int)) - 1)) r1)] := Sl2.two (H.own 0 rfl).sl ((H.own 1 rfl).sl.cutL hg2) ((H.own 1 rfl).sl.cutH hg4)
    refine DW.sole rfl rfl rfl (OW.call Tc96 (evs_cast rfl (by first | rfl | (simp; done) | (simp; omega))) (slices_Concat_2_int_2_int_ok (a0 := ([(List.drop (Int.toNat (((l1.length : Int)) - 1)) r1), (List.take (Int.toNat (((l1.length : Int)) - 1)) r1)] : List (List Arr2))) hS1 hr2) ?_)
    rintro _ w4 ⟨A6_0, c6_0, rfl, E2⟩
    refine ⟨_, rfl, fun _ => E2.ext, ModX.ext E2.ext, ?_⟩
    have hS1 := hS1.ext E2.ext
    replace H : Hp w w4 [.own A6_0 c6_0 86 2 (List.map encArr2 r2), .own (some ⟨b1, 0, none⟩) ((([(((cutA Al1 cl1 2 (Int.toNat (((l1.length : Int)) - 1))), (cl1 - (Int.toNat (((l1.length : Int)) - 1)))), (List.drop (Int.toNat (((l1.length : Int)) - 1)) r1)), ((Al1, cl1), (List.take (Int.toNat (((l1.length : Int)) - 1)) r1))] : List ((Option Addr × Nat) × List Arr2))).length) 50 1 (List.map encH (([(((cutA Al1 cl1 2 (Int.toNat (((l1.length : Int)) - 1))), (cl1 - (Int.toNat (((l1.length : Int)) - 1)))), (List.drop (Int.toNat (((l1.length : Int)) - 1)) r1)), ((Al1, cl1), (List.take (Int.toNat (((l1.length : Int)) - 1)) r1))] : List ((Option Addr × Nat) × List Arr2)))), .own Al1 cl1 86 2 (List.map encArr2 r1)] := H.append E2
    replace R0 := H.ext
    refine DW.fix rfl rfl rfl (fun _ EQ => RV.assign rfl) ?_
    refine DW.nil (hK4 _ _ ?_)
    refine CW.ret ?_
    obtain rfl := Option.some.inj F
    refine ⟨_, (ResOK.one rfl), ?_⟩
    replace H := H.pick (L' := [.own A6_0 c6_0 86 2 (List.map encArr2 r2)]) [0] (by decide) rfl
    replace R0 := H.ext
    exact ⟨A6_0, c6_0, (by first | rfl | (simp; done) | (simp; omega)), H⟩
  ·
    intro K5 hK5 jK1804
    refine CW.seq fun K6 hK6 => ?_
    refine CW.region ?_
    refine LW.pure rfl rfl (RV.move rfl) ?_
    refine LW.pure rfl rfl (RV.len Ts82 rfl) ?_
    refine LW.pure rfl rfl (RV.move rfl) ?_
    refine LW.nil (hK6 _ _ ?_)
    refine CW.block ?_
    refine CW.loop (fun meas ρ wl2 => ∃ (t12_1 : Int), bulk_pairs_L2 a0 meas t12_1 = some res ∧ ρ = [(0, .slice A_a0 a0.length c_a0), (2, .slice none 0 0), (3, .slice none 0 0), (11, .int .i64 ((a0.length : Int))), (12, .int .i64 t12_1)] ∧ Hp w wl2 []) FU ⟨_, ?_, ((0 : Int)), F, rfl, H⟩ ?_
    · exact ⟨rfl, rfl, rfl, rfl, rfl, trivial⟩
    rintro mk1 _ wl2 ⟨t12_1, F, rfl, H⟩
    have R0 := H.ext
    replace F := bulk_pairs_L2_s F
    obtain ⟨mk1, rfl, F⟩ := F
    generalize hrec1 : bulk_pairs_L2 a0 mk1 = rec1 at F
    unfold bulk_pairs_B2 at F
    refine CW.seq fun K7 hK7 => ?_
    refine CW.region ?_
    refine LW.pure rfl rfl (RV.lss rfl rfl) ?_
    refine LW.nil (hK7 _ _ ?_)
    refine CW.seq fun K8 hK8 => ?_
    by_cases hp1 : t12_1 < ((a0.length : Int))
    ·
      replace F := ite_y hp1 F
      have hq1 := dec_t hp1
      refine CW.condT rfl hq1 ?_
      refine CW.skip (hK8 _ _ ?_)
      refine CW.seqJ (fun ρ wl3 => (bulk_pairs_k2 t12_1 rec1 = some res ∧ ρ = [(0, .slice A_a0 a0.length c_a0), (2, .slice none 0 0), (3, .slice none 0 0), (11, .int .i64 ((a0.length : Int))), (12, .int .i64 t12_1)] ∧ Hp w wl3 [])) ?_ ?_
      ·
        rintro _ wl3 ⟨F, rfl, H⟩
        have R0 := H.ext
        unfold bulk_pairs_k2 at F
        obtain ⟨hg5, F⟩ := gd_some F
        refine CW.region ?_
        refine LW.pure rfl rfl (RV.add rfl rfl hg5) ?_
        refine LW.pure rfl rfl (RV.move rfl) ?_
        refine LW.nil ?_
        subst hrec1
        refine ⟨mk1, Nat.lt_succ_self _, _, ?_, (t12_1 + 1), F, rfl, H⟩
        exact ⟨rfl, rfl, rfl, rfl, rfl, trivial⟩
      ·
        intro K9 hK9 jK2304
        refine CW.block ?_
        refine CW.seq fun K10 hK10 => ?_
        refine CW.region ?_
        refine LW.pure rfl rfl (RV.move rfl) ?_
        refine LW.pure rfl rfl (RV.assign rfl) ?_
        refine LW.nil (hK10 _ _ ?_)
        refine CW.seq fun K11 hK11 => ?_
        refine CW.seq fun K12 hK12 => ?_
        obtain ⟨x2, hbx2, hx2, F⟩ := ix_some F
        refine CW.region ?_
        refine LW.pure rfl rfl (RV.move rfl) ?_
        refine LW.pure rfl rfl (RV.move rfl) ?_
        refine LW.pure rfl rfl (RV.indexAddr Ts82 rfl rfl hbx2 (h_a0.addr_ hx2)) ?_
        refine LW.pure rfl rfl (RV.load1 Tk96 rfl ((h_a0.at_ hx2).ext R0) rfl) ?_
        refine LW.pure rfl rfl (RV.assertM rfl (AI96_102 x2)) ?_
        refine LW.pure rfl rfl (RV.move rfl) ?_
        refine LW.pure rfl rfl (RV.extract rfl rfl) ?_
        refine LW.pure rfl rfl (RV.extract rfl rfl) ?_
        refine LW.go rfl rfl (OW.alloc Tz102 fun b2 w5 N2 => ?_)
        replace H := H.new N2 N2.blk
        replace R0 := H.ext
        refine LW.go rfl rfl (OW.store Tk102 rfl rfl (H.blk 0 rfl) (off := 0) (vs := [.int .i64 (((Step.asLess x2)).store), .int .i64 (((Step.asLess x2)).buyer)]) rfl rfl rfl rfl rfl fun w6 S2 => ?_)
        replace H : Hp w w6 [.blk b2 102 [.int .i64 (((Step.asLess x2)).store), .int .i64 (((Step.asLess x2)).buyer)]] := H.stored 0 rfl S2
        replace R0 := H.ext
        refine LW.pure rfl rfl (RV.assign rfl) ?_
        refine LW.nil (hK12 _ _ ?_)
        refine CW.seq fun K13 hK13 => ?_
        refine CW.region ?_
        refine LW.pure rfl rfl (RV.move rfl) ?_
        refine LW.nil (hK13 _ _ ?_)
        by_cases hp2 : ((Step.isLess x2)) = true
        ·
          replace F := ite_y hp2 F
          have hq2 : ((Step.isLess x2)) = true := hp2
          refine CW.condT rfl hq2 ?_
          replace H := H.pick (L' := []) [] (by decide) rfl
          replace R0 := H.ext
          refine CW.exit (jK2304 _ _ ⟨_, ?_, ⟨F, rfl, H⟩⟩)
          exact ⟨rfl, rfl, rfl, rfl, rfl, trivial⟩
        ·
          replace F := ite_n hp2 F
          have hq2 : ((Step.isLess x2)) = false := raw_f hp2
          refine CW.condF rfl hq2 ?_
          refine CW.skip (hK11 _ _ ?_)
          refine CW.seq fun K14 hK14 => ?_
          refine CW.region ?_
          refine LW.pure rfl rfl (RV.move rfl) ?_
          refine LW.pure rfl rfl (RV.sliceHi Ts50 rfl rfl (by decide)) ?_
          refine LW.pure rfl rfl (RV.assign rfl) ?_
          refine LW.nil (hK14 _ _ ?_)
          refine CW.seqJ (fun ρ wl4 => (∃ (l2 : List Arr2) (Al2 : Option Addr) (cl2 : Nat), bulk_pairs_k3 l2 = some res ∧ ρ = [(0, .slice A_a0 a0.length c_a0), (2, .slice none 0 0), (3, .slice Al2 l2.length cl2), (11, .int .i64 ((a0.length : Int))), (12, .int .i64 t12_1)] ∧ Hp w wl4 [.own Al2 cl2 86 2 (List.map encArr2 l2)])) ?_ ?_
          ·
            rintro _ wl4 ⟨l2, Al2, cl2, F, rfl, H⟩
            have R0 := H.ext
            unfold bulk_pairs_k3 at F
            refine CW.exit (jK1804 _ _ ⟨_, ?_, ⟨l2, Al2, cl2, F, rfl, H⟩⟩)
            exact ⟨rfl, (look_slice rfl (by first | rfl | (simp; done) | (simp; omega))), trivial⟩
          ·
            intro K15 hK15 jK2356
            refine CW.seq fun K16 hK16 => ?_
            refine CW.region ?_
            refine LW.pure rfl rfl (RV.move rfl) ?_
            refine LW.pure rfl rfl (RV.len Ts82 rfl) ?_
            refine LW.pure rfl rfl (RV.move rfl) ?_
            refine LW.nil (hK16 _ _ ?_)
            refine CW.block ?_
            replace H := H.nilOwn 86 2
            replace R0 := H.ext
            replace H := H.pick (L' := [.own none 0 86 2 (List.map encArr2 (([] : List Arr2)))]) [0] (by decide) rfl
            replace R0 := H.ext
            refine CW.loop (fun meas ρ wl5 => ∃ (t28_1 : Int) (l4 : List Arr2) (Al4 : Option Addr) (cl4 : Nat), bulk_pairs_L1 a0 t12_1 meas t28_1 l4 = some res ∧ ρ = [(0, .slice A_a0 a0.length c_a0), (2, .slice none 0 0), (3, .slice Al4 l4.length cl4), (4, .int .i64 t12_1), (11, .int .i64 ((a0.length : Int))), (12, .int .i64 t12_1), (27, .int .i64 ((a0.length : Int))), (28, .int .i64 t28_1)] ∧ Hp w wl5 [.own Al4 cl4 86 2 (List.map encArr2 l4)]) FU ⟨_, ?_, ((0 : Int)), (([] : List Arr2)), none, 0, F, rfl, H⟩ ?_
            · exact ⟨rfl, rfl, (look_slice rfl (by first | rfl | (simp; done) | (simp; omega))), rfl, rfl, rfl, rfl, rfl, trivial⟩
            rintro mk2 _ wl5 ⟨t28_1, l4, Al4, cl4, F, rfl, H⟩
            have R0 := H.ext
            replace F := bulk_pairs_L1_s F
            obtain ⟨mk2, rfl, F⟩ := F
            generalize hrec2 : bulk_pairs_L1 a0 t12_1 mk2 = rec2 at F
            unfold bulk_pairs_B1 at F
            refine CW.seq fun K17 hK17 => ?_
            refine CW.region ?_
            refine LW.pure rfl rfl (RV.lss rfl rfl) ?_
            refine LW.nil (hK17 _ _ ?_)
            refine CW.seq fun K18 hK18 => ?_
            by_cases hp3 : t28_1 < ((a0.length : Int))
            ·
              replace F := ite_y hp3 F
              have hq3 := dec_t hp3
              refine CW.condT rfl hq3 ?_
              refine CW.skip (hK18 _ _ ?_)
              refine CW.seqJ (fun ρ wl6 => (∃ (l3 : List Arr2) (Al3 : Option Addr) (cl3 : Nat), bulk_pairs_k4 t28_1 rec2 l3 = some res ∧ ρ = [(0, .slice A_a0 a0.length c_a0), (2, .slice none 0 0), (3, .slice Al3 l3.length cl3), (4, .int .i64 t12_1), (11, .int .i64 ((a0.length : Int))), (12, .int .i64 t12_1), (27, .int .i64 ((a0.length : Int))), (28, .int .i64 t28_1)] ∧ Hp w wl6 [.own Al3 cl3 86 2 (List.map encArr2 l3)])) ?_ ?_
              ·
                rintro _ wl6 ⟨l3, Al3, cl3, F, rfl, H⟩
                have R0 := H.ext
                unfold bulk_pairs_k4 at F
                obtain ⟨hg6, F⟩ := gd_some F
                refine CW.region ?_
                refine LW.pure rfl rfl (RV.add rfl rfl hg6) ?_
                refine LW.pure rfl rfl (RV.move rfl) ?_
                refine LW.nil ?_
                subst hrec2
                refine ⟨mk2, Nat.lt_succ_self _, _, ?_, (t28_1 + 1), l3, Al3, cl3, F, rfl, H⟩
                exact ⟨rfl, rfl, (look_slice rfl (by first | rfl | (simp; done) | (simp; omega))), rfl, rfl, rfl, rfl, rfl, trivial⟩
              ·
                intro K19 hK19 jK2396
                refine CW.block ?_
                refine CW.seq fun K20 hK20 => ?_
                refine CW.region ?_
                refine LW.pure rfl rfl (RV.move rfl) ?_
                refine LW.pure rfl rfl (RV.assign rfl) ?_
                refine LW.nil (hK20 _ _ ?_)
                refine CW.seq fun K21 hK21 => ?_
                obtain ⟨hg7, F⟩ := gd_some F
                obtain ⟨hg8, F⟩ := gd_some F
                obtain ⟨x1, hbx1, hx1, F⟩ := ix_some F
                refine CW.region ?_
                refine LW.pure rfl rfl (RV.move rfl) ?_
                refine LW.pure rfl rfl (RV.move rfl) ?_
                refine LW.pure rfl rfl (RV.move rfl) ?_
                refine LW.pure rfl rfl (RV.add rfl rfl hg7) ?_
                refine LW.pure rfl rfl (RV.move rfl) ?_
                refine LW.pure rfl rfl (RV.len Ts82 rfl) ?_
                refine LW.pure rfl rfl (RV.rem rfl rfl hg8) ?_
                refine LW.pure rfl rfl (RV.indexAddr Ts82 rfl rfl hbx1 (h_a0.addr_ hx1)) ?_
                refine LW.pure rfl rfl (RV.load1 Tk96 rfl ((h_a0.at_ hx1).ext R0) rfl) ?_
                refine LW.nil (hK21 _ _ ?_)
                refine CW.block ?_
                refine CW.seq fun K22 hK22 => ?_
                refine CW.region ?_
                refine LW.pure rfl rfl (RV.assertM rfl (AI96_104 x1)) ?_
                refine LW.pure rfl rfl (RV.extract rfl rfl) ?_
                refine LW.pure rfl rfl (RV.extract rfl rfl) ?_
                refine LW.nil (hK22 _ _ ?_)
                by_cases hp4 : ((Step.isMore x1)) = true
                ·
                  replace F := ite_y hp4 F
                  have hq4 : ((Step.isMore x1)) = true := hp4
                  refine CW.condT rfl hq4 ?_
                  refine CW.seq fun K23 hK23 => ?_
                  refine CW.region ?_
                  refine LW.go rfl rfl (OW.alloc Tz104 fun b3 w7 N3 => ?_)
                  replace H := H.new N3 N3.blk
                  replace R0 := H.ext
                  refine LW.go rfl rfl (OW.store Tk104 rfl rfl (H.blk 0 rfl) (off := 0) (vs := [.int .i64 (((Step.asMore x1)).store), .int .i64 (((Step.asMore x1)).buyer)]) rfl rfl rfl rfl rfl fun w8 S3 => ?_)
                  replace H : Hp w w8 [.blk b3 104 [.int .i64 (((Step.asMore x1)).store), .int .i64 (((Step.asMore x1)).buyer)], .own Al4 cl4 86 2 (List.map encArr2 l4)] := H.stored 0 rfl S3
                  replace R0 := H.ext
                  refine LW.nil (hK23 _ _ ?_)
                  obtain ⟨hg9, F⟩ := gd_some F
                  refine CW.region ?_
                  refine LW.pure rfl rfl (RV.move rfl) ?_
                  refine LW.pure rfl rfl (RV.fieldAddr Tf104_0 rfl) ?_
                  refine LW.pure rfl rfl (RV.load1 Tk3 rfl ((H.blk 0 rfl).cells.off 0) rfl) ?_
                  refine LW.pure rfl rfl (RV.fieldAddr Tf104_1 rfl) ?_
                  refine LW.pure rfl rfl (RV.load1 Tk3 rfl ((H.blk 0 rfl).cells.off 1) rfl) ?_
                  refine LW.pure rfl rfl (RV.build (vs := [.int .i64 (((Step.asMore x1)).store), .int .i64 (((Step.asMore x1)).buyer)]) (cs := [.int .i64 (((Step.asMore x1)).store), .int .i64 (((Step.asMore x1)).buyer)]) rfl (fun _ => by kernel_rfl)) ?_
                  refine LW.go rfl rfl (OW.buildSlice (e := 86) (vs := [.agg #[.int .i64 (((Step.asMore x1)).store), .int .i64 (((Step.asMore x1)).buyer)]]) (cs := [.int .i64 (((Step.asMore x1)).store), .int .i64 (((Step.asMore x1)).buyer)]) rfl (fun _ => by kernel_rfl) fun b4 w9 N4 => ?_)
                  replace H := H.made' (k := 2) (t := 86) (enc := encArr2) (l := ([(⟨((Step.asMore x1)).store, ((Step.asMore x1)).buyer⟩ : Arr2)] : List Arr2)) N4 N4.blk (fun _ => rfl) rfl (by first | decide | omega | (simp; done) | (simp; omega))
                  replace R0 := H.ext
                  refine LW.go rfl rfl (OW.appendG (enc := encArr2) (l := l4) (xs := ([(⟨((Step.asMore x1)).store, ((Step.asMore x1)).buyer⟩ : Arr2)] : List Arr2)) Ts50 rfl (look_slice rfl (by first | rfl | (simp; done) | (simp; omega))) (H.own 2 rfl) (H.own 0 rfl).sl (fun _ => rfl) rfl rfl hg9 (by decide) fun A2 c2 w10 O1 M1 D1 => ?_)
                  replace H : Hp w w10 [.own (some ⟨b4, 0, none⟩) ((([(⟨((Step.asMore x1)).store, ((Step.asMore x1)).buyer⟩ : Arr2)] : List Arr2)).length) 86 2 (List.map encArr2 (([(⟨((Step.asMore x1)).store, ((Step.asMore x1)).buyer⟩ : Arr2)] : List Arr2))), .blk b3 104 [.int .i64 (((Step.asMore x1)).store), .int .i64 (((Step.asMore x1)).buyer)], .own A2 c2 86 2 (List.map encArr2 ((l4 ++ ([(⟨((Step.asMore x1)).store, ((Step.asMore x1)).buyer⟩ : Arr2)] : List Arr2))))] := H.mod 2 rfl M1 O1 D1
                  replace R0 := H.ext
                  refine LW.pure rfl rfl (RV.assign rfl) ?_
                  replace H := H.pick (L' := [.own A2 c2 86 2 (List.map encArr2 ((l4 ++ ([(⟨((Step.asMore x1)).store, ((Step.asMore x1)).buyer⟩ : Arr2)] : List Arr2))))]) [2] (by decide) rfl
                  replace R0 := H.ext
                  refine LW.nil (jK2396 _ _ ⟨_, ?_, ⟨((l4 ++ ([(⟨((Step.asMore x1)).store, ((Step.asMore x1)).buyer⟩ : Arr2)] : List Arr2))), A2, c2, F, rfl, H⟩⟩)
                  exact ⟨rfl, rfl, (look_slice rfl (by first | rfl | (simp; done) | (simp; omega))), rfl, rfl, rfl, rfl, rfl, trivial⟩
                ·
                  replace F := ite_n hp4 F
                  have hq4 : ((Step.isMore x1)) = false := raw_f hp4
                  refine CW.condF rfl hq4 ?_
                  refine CW.seq fun K24 hK24 => ?_
                  refine CW.region ?_
                  refine LW.pure rfl rfl (RV.assertM rfl (AI96_102 x1)) ?_
                  refine LW.pure rfl rfl (RV.extract rfl rfl) ?_
                  refine LW.pure rfl rfl (RV.extract rfl rfl) ?_
                  refine LW.nil (hK24 _ _ ?_)
                  by_cases hp5 : ((Step.isLess x1)) = true
                  ·
                    replace F := ite_y hp5 F
                    have hq5 : ((Step.isLess x1)) = true := hp5
                    refine CW.condT rfl hq5 ?_
                    refine CW.seq fun K25 hK25 => ?_
                    refine CW.region ?_
                    refine LW.go rfl rfl (OW.alloc Tz102 fun b5 w11 N5 => ?_)
                    replace H := H.new N5 N5.blk
                    replace R0 := H.ext
                    refine LW.go rfl rfl (OW.store Tk102 rfl rfl (H.blk 0 rfl) (off := 0) (vs := [.int .i64 (((Step.asLess x1)).store), .int .i64 (((Step.asLess x1)).buyer)]) rfl rfl rfl rfl rfl fun w12 S4 => ?_)
                    replace H : Hp w w12 [.blk b5 102 [.int .i64 (((Step.asLess x1)).store), .int .i64 (((Step.asLess x1)).buyer)], .own Al4 cl4 86 2 (List.map encArr2 l4)] := H.stored 0 rfl S4
                    replace R0 := H.ext
                    refine LW.nil (hK25 _ _ ?_)
                    obtain ⟨hg10, F⟩ := gd_some F
                    refine CW.region ?_
                    refine LW.pure rfl rfl (RV.move rfl) ?_
                    refine LW.pure rfl rfl (RV.fieldAddr Tf102_0 rfl) ?_
                    refine LW.pure rfl rfl (RV.load1 Tk3 rfl ((H.blk 0 rfl).cells.off 0) rfl) ?_
                    refine LW.pure rfl rfl (RV.fieldAddr Tf102_1 rfl) ?_
                    refine LW.pure rfl rfl (RV.load1 Tk3 rfl ((H.blk 0 rfl).cells.off 1) rfl) ?_
                    refine LW.pure rfl rfl (RV.build (vs := [.int .i64 (((Step.asLess x1)).store), .int .i64 (((Step.asLess x1)).buyer)]) (cs := [.int .i64 (((Step.asLess x1)).store), .int .i64 (((Step.asLess x1)).buyer)]) rfl (fun _ => by kernel_rfl)) ?_
                    refine LW.go rfl rfl (OW.buildSlice (e := 86) (vs := [.agg #[.int .i64 (((Step.asLess x1)).store), .int .i64 (((Step.asLess x1)).buyer)]]) (cs := [.int .i64 (((Step.asLess x1)).store), .int .i64 (((Step.asLess x1)).buyer)]) rfl (fun _ => by kernel_rfl) fun b6 w13 N6 => ?_)
                    replace H := H.made' (k := 2) (t := 86) (enc := encArr2) (l := ([(⟨((Step.asLess x1)).store, ((Step.asLess x1)).buyer⟩ : Arr2)] : List Arr2)) N6 N6.blk (fun _ => rfl) rfl (by first | decide | omega | (simp; done) | (simp; omega))
                    replace R0 := H.ext
                    refine LW.go rfl rfl (OW.appendG (enc := encArr2) (l := l4) (xs := ([(⟨((Step.asLess x1)).store, ((Step.asLess x1)).buyer⟩ : Arr2)] : List Arr2)) Ts50 rfl (look_slice rfl (by first | rfl | (simp; done) | (simp; omega))) (H.own 2 rfl) (H.own 0 rfl).sl (fun _ => rfl) rfl rfl hg10 (by decide) fun A3 c3 w14 O2 M2 D2 => ?_)
                    replace H : Hp w w14 [.own (some ⟨b6, 0, none⟩) ((([(⟨((Step.asLess x1)).store, ((Step.asLess x1)).buyer⟩ : Arr2)] : List Arr2)).length) 86 2 (List.map encArr2 (([(⟨((Step.asLess x1)).store, ((Step.asLess x1)).buyer⟩ : Arr2)] : List Arr2))), .blk b5 102 [.int .i64 (((Step.asLess x1)).store), .int .i64 (((Step.asLess x1)).buyer)], .own A3 c3 86 2 (List.map encArr2 ((l4 ++ ([(⟨((Step.asLess x1)).store, ((Step.asLess x1)).buyer⟩ : Arr2)] : List Arr2))))] := H.mod 2 rfl M2 O2 D2
                    replace R0 := H.ext
                    refine LW.pure rfl rfl (RV.assign rfl) ?_
                    replace H := H.pick (L' := [.own A3 c3 86 2 (List.map encArr2 ((l4 ++ ([(⟨((Step.asLess x1)).store, ((Step.asLess x1)).buyer⟩ : Arr2)] : List Arr2))))]) [2] (by decide) rfl
                    replace R0 := H.ext
                    refine LW.nil (jK2396 _ _ ⟨_, ?_, ⟨((l4 ++ ([(⟨((Step.asLess x1)).store, ((Step.asLess x1)).buyer⟩ : Arr2)] : List Arr2))), A3, c3, F, rfl, H⟩⟩)
                    exact ⟨rfl, rfl, (look_slice rfl (by first | rfl | (simp; done) | (simp; omega))), rfl, rfl, rfl, rfl, rfl, trivial⟩
                  ·
                    replace F := ite_n hp5 F
                    have hq5 : ((Step.isLess x1)) = false := raw_f hp5
                    refine CW.condF rfl hq5 ?_
                    refine CW.skip (jK2396 _ _ ⟨_, ?_, ⟨l4, Al4, cl4, F, rfl, H⟩⟩)
                    exact ⟨rfl, rfl, (look_slice rfl (by first | rfl | (simp; done) | (simp; omega))), rfl, rfl, rfl, rfl, rfl, trivial⟩
            ·
              replace F := ite_n hp3 F
              have hq3 := dec_f hp3
              refine CW.condF rfl hq3 ?_
              refine CW.exit (jK2356 _ _ ⟨_, ?_, ⟨l4, Al4, cl4, F, rfl, H⟩⟩)
              exact ⟨rfl, rfl, (look_slice rfl (by first | rfl | (simp; done) | (simp; omega))), rfl, rfl, trivial⟩
    ·
      replace F := ite_n hp1 F
      have hq1 := dec_f hp1
      refine CW.condF rfl hq1 ?_
      replace H := H.nilOwn 86 2
      replace R0 := H.ext
      refine CW.exit (jK1804 _ _ ⟨_, ?_, ⟨(([] : List Arr2)), none, 0, F, rfl, H⟩⟩)
      exact ⟨rfl, (look_slice rfl (by first | rfl | (simp; done) | (simp; omega))), trivial⟩
end Go.D7

set_option linter.unusedVariables false
set_option linter.unusedSimpArgs false
namespace Go.D7
open Go.Tb Go.Proofs Go.RowKit
theorem Ta86 : tyA Try.prog 86 = some (3, 2, 1) := by kernel_rfl
theorem Tc55 : callable Try.prog 55 = true := by kernel_rfl
theorem Tc56 : callable Try.prog 56 = true := by kernel_rfl
theorem Tc79 : callable Try.prog 79 = true := by kernel_rfl
theorem Tc80 : callable Try.prog 80 = true := by kernel_rfl
theorem Tc85 : callable Try.prog 85 = true := by kernel_rfl
theorem Tc88 : callable Try.prog 88 = true := by kernel_rfl
theorem Tz86 : tyZ Try.prog 86 = some (.agg #[.int .i64 0, .int .i64 0]) := by kernel_rfl
set_option maxRecDepth 20000 in
set_option maxHeartbeats 1000000 in
theorem bulk_clone_ok {a0 : List (List Int)} {A_a0 : Option Addr} {c_a0 : Nat} {w : World} {res : (List (List Int))} (h_a0 : Sl2 w A_a0 c_a0 1 encN a0) (F : bulk_clone a0 = some res) : Calls Try.prog 88 #[.slice A_a0 a0.length c_a0] w (fun e w' => ∃ (A1 : Option Addr) (c1 : Nat) (hs0 : List (Option Addr × Nat)), e = .returned (.slice A1 res.length c1) ∧ Hp w w' [.tab A1 c1 22 hs0 3 1 (encM encN res)]) := by
  refine calls_of_cw (args := [.slice A_a0 a0.length c_a0]) Try.func88 rfl rfl rfl rfl ?_
  have H := Hp.start w
  have R0 := H.ext
  unfold bulk_clone at F
  refine CW.seq fun K1 hK1 => ?_
  refine CW.region ?_
  refine LW.pure rfl rfl (RV.assign rfl) ?_
  refine LW.nil (hK1 _ _ ?_)
  refine CW.seq fun K2 hK2 => ?_
  refine CW.region ?_
  refine LW.pure rfl rfl (RV.assign rfl) ?_
  refine LW.nil (hK2 _ _ ?_)
  refine CW.seqJ (fun ρ wl1 => (∃ (m1 : List (List Int)) (hsm1 : List (Option Addr × Nat)) (Am1 : Option Addr) (cm1 : Nat), bulk_clone_k1 m1 = some res ∧ ρ = [(2, .slice none 0 0), (3, .slice Am1 m1.length cm1)] ∧ Hp w wl1 [.tab Am1 cm1 22 hsm1 3 1 (encM encN m1)])) ?_ ?_
  ·
    rintro _ wl1 ⟨m1, hsm1, Am1, cm1, F, rfl, H⟩
    have R0 := H.ext
    unfold bulk_clone_k1 at F
    refine CW.seq fun K3 hK3 => ?_
    refine CW.region ?_
    refine LW.pure rfl rfl (RV.move rfl) ?_
    refine LW.pure rfl rfl (RV.assign rfl) ?_
    refine LW.nil (hK3 _ _ ?_)
    refine CW.ret ?_
    obtain rfl := Option.some.inj F
    refine ⟨_, (ResOK.one rfl), ?_⟩
    exact ⟨Am1, cm1, hsm1, (by first | rfl | (simp; done) | (simp; omega)), H⟩
  ·
    intro K4 hK4 jK47
    refine CW.seq fun K5 hK5 => ?_
    refine CW.region ?_
    refine LW.pure rfl rfl (RV.move rfl) ?_
    refine LW.pure rfl rfl (RV.len Ts23 rfl) ?_
    refine LW.pure rfl rfl (RV.move rfl) ?_
    refine LW.nil (hK5 _ _ ?_)
    refine CW.block ?_
    replace H := H.nilTab encN 22 3 1
    replace R0 := H.ext
    refine CW.loop (fun meas ρ wl2 => ∃ (t8_1 : Int) (m2 : List (List Int)) (hsm2 : List (Option Addr × Nat)) (Am2 : Option Addr) (cm2 : Nat), bulk_clone_L1 a0 meas t8_1 m2 = some res ∧ ρ = [(2, .slice none 0 0), (3, .slice Am2 m2.length cm2), (6, .slice A_a0 a0.length c_a0), (7, .int .i64 ((a0.length : Int))), (8, .int .i64 t8_1)] ∧ Hp w wl2 [.tab Am2 cm2 22 hsm2 3 1 (encM encN m2)]) FU ⟨_, ?_, ((0 : Int)), (([] : List (List Int))), ([]), none, 0, F, rfl, H⟩ ?_
    · exact ⟨rfl, (look_slice rfl (by first | rfl | (simp; done) | (simp; omega))), rfl, rfl, rfl, trivial⟩
    rintro mk1 _ wl2 ⟨t8_1, m2, hsm2, Am2, cm2, F, rfl, H⟩
    have R0 := H.ext
    replace F := bulk_clone_L1_s F
    obtain ⟨mk1, rfl, F⟩ := F
    generalize hrec1 : bulk_clone_L1 a0 mk1 = rec1 at F
    unfold bulk_clone_B1 at F
    refine CW.seq fun K6 hK6 => ?_
    refine CW.region ?_
    refine LW.pure rfl rfl (RV.lss rfl rfl) ?_
    refine LW.nil (hK6 _ _ ?_)
    refine CW.seq fun K7 hK7 => ?_
    by_cases hp1 : t8_1 < ((a0.length : Int))
    ·
      replace F := ite_y hp1 F
      have hq1 := dec_t hp1
      refine CW.condT rfl hq1 ?_
      refine CW.skip (hK7 _ _ ?_)
      refine CW.seq fun K8 hK8 => ?_
      refine CW.block ?_
      refine CW.seq fun K9 hK9 => ?_
      obtain ⟨x1, hbx1, hx1, F⟩ := ix_some F
      refine CW.region ?_
      obtain ⟨A2, c2, hC1, hS1⟩ := h_a0.at_ hx1
      refine LW.pure rfl rfl (RV.indexAddr Ts23 rfl rfl hbx1 (h_a0.addr hbx1)) ?_
      refine LW.pure rfl rfl (RV.load1 Tk22 rfl (hC1.ext R0) rfl) ?_
      refine LW.pure rfl rfl (RV.assign rfl) ?_
      refine LW.nil (hK9 _ _ ?_)
      obtain ⟨r1, hr1, F⟩ := bnd_some F
      obtain ⟨hg1, F⟩ := gd_some F
      refine CW.region ?_
      refine LW.pure rfl rfl (RV.move rfl) ?_
      refine LW.pure rfl rfl (RV.move rfl) ?_
      refine LW.go rfl rfl (OW.call Tc83 rfl (slices_Clone_int_ok (a0 := x1) (hS1.ext R0) hr1) ?_)
      rintro _ w1 ⟨A13_0, c13_0, rfl, E1⟩
      refine ⟨_, rfl, ?_⟩
      replace H : Hp w w1 [.own A13_0 c13_0 3 1 (List.map encN r1), .tab Am2 cm2 22 hsm2 3 1 (encM encN m2)] := H.append E1
      replace R0 := H.ext
      refine LW.go rfl rfl (OW.buildSlice (e := 22) (vs := [.slice A13_0 r1.length c13_0]) (cs := [.slice A13_0 r1.length c13_0]) rfl (fun _ => by kernel_rfl) fun b1 w2 N1 => ?_)
      replace H := H.made' (k := 1) (t := 22) (enc := encH) (l := ([((A13_0, c13_0), List.map encN r1)] : List ((Option Addr × Nat) × List (List Value)))) N1 (by have q := N1.blk; simp only [List.flatMap_cons, List.flatMap_nil, encH, List.length_map, List.append_nil, List.cons_append, List.nil_append]; first | done | exact q) (fun _ => rfl) rfl (by first | decide | omega | (simp; done) | (simp; omega))
      replace R0 := H.ext
      refine LW.go rfl rfl (OW.appendT (enc := encN) (m := m2) (l := r1) Ts23 rfl rfl (H.tab 2 rfl) (H.own 0 rfl).sl rfl hg1 (by decide) fun A3 c3 w3 O1 M1 D1 => ?_)
      replace H : Hp w w3 [.own (some ⟨b1, 0, none⟩) ((([((A13_0, c13_0), List.map encN r1)] : List ((Option Addr × Nat) × List (List Value)))).length) 22 1 (List.map encH (([((A13_0, c13_0), List.map encN r1)] : List ((Option Addr × Nat) × List (List Value))))), .tab A3 c3 22 ((hsm2 ++ [(A13_0, c13_0)])) 3 1 (encM encN ((m2 ++ [r1])))] := H.tabPush 2 1 (by decide) rfl rfl M1 D1 O1
      replace R0 := H.ext
      refine LW.pure rfl rfl (RV.assign rfl) ?_
      refine LW.nil (hK8 _ _ ?_)
      obtain ⟨hg2, F⟩ := gd_some F
      refine CW.region ?_
      refine LW.pure rfl rfl (RV.add rfl rfl hg2) ?_
      refine LW.pure rfl rfl (RV.move rfl) ?_
      refine LW.nil ?_
      replace H := H.pick (L' := [.tab A3 c3 22 ((hsm2 ++ [(A13_0, c13_0)])) 3 1 (encM encN ((m2 ++ [r1])))]) [1] (by decide) rfl
      replace R0 := H.ext
      subst hrec1
      refine ⟨mk1, Nat.lt_succ_self _, _, ?_, (t8_1 + 1), ((m2 ++ [r1])), ((hsm2 ++ [(A13_0, c13_0)])), A3, c3, F, rfl, H⟩
      exact ⟨rfl, (look_slice rfl (by first | rfl | (simp; done) | (simp; omega))), rfl, rfl, rfl, trivial⟩
    ·
      replace F := ite_n hp1 F
      have hq1 := dec_f hp1
      refine CW.condF rfl hq1 ?_
      refine CW.exit (jK47 _ _ ⟨_, ?_, ⟨m2, hsm2, Am2, cm2, F, rfl, H⟩⟩)
      exact ⟨rfl, (look_slice rfl (by first | rfl | (simp; done) | (simp; omega))), trivial⟩
set_option maxRecDepth 20000 in
set_option maxHeartbeats 1000000 in
theorem bulk_along_ok {a0 : List (List Int)} {a1 : List Arr2} {A_a0 : Option Addr} {c_a0 : Nat} {A_a1 : Option Addr} {c_a1 : Nat} {w : World} {res : (List (List Int)) × Int} (h_a0 : Sl2 w A_a0 c_a0 1 encN a0) (h_a1 : Sl w A_a1 c_a1 2 (a1.map encArr2)) (F : bulk_along a0 a1 = some res) : Calls Try.prog 85 #[.slice A_a0 a0.length c_a0, .slice A_a1 a1.length c_a1] w (fun e w' => ∃ (A0 : Option Addr) (c0 : Nat) (hs0 : List (Option Addr × Nat)), e = .returned (.tuple #[.slice A0 res.1.length c0, .int .i64 res.2]) ∧ Hp w w' [.tab A0 c0 22 hs0 3 1 (encM encN res.1)]) := by
  refine calls_of_cw (args := [.slice A_a0 a0.length c_a0, .slice A_a1 a1.length c_a1]) Try.func85 rfl rfl rfl rfl ?_
  have H := Hp.start w
  have R0 := H.ext
  unfold bulk_along at F
  refine CW.seq fun K1 hK1 => ?_
  refine CW.region ?_
  refine LW.pure rfl rfl (RV.assign rfl) ?_
  refine LW.pure rfl rfl (RV.assign rfl) ?_
  refine LW.nil (hK1 _ _ ?_)
  refine CW.seq fun K2 hK2 => ?_
  obtain ⟨r1, hr1, F⟩ := bnd_some F
  refine CW.region ?_
  refine LW.pure rfl rfl (RV.move rfl) ?_
  refine LW.go rfl rfl (OW.call Tc88 rfl (bulk_clone_ok (a0 := a0) (h_a0.ext R0) hr1) ?_)
  rintro _ w1 ⟨A3_0, c3_0, hs3_0, rfl, E1⟩
  refine ⟨_, rfl, ?_⟩
  replace H : Hp w w1 [.tab A3_0 c3_0 22 hs3_0 3 1 (encM encN r1)] := H.append E1
  replace R0 := H.ext
  refine LW.pure rfl rfl (RV.assign rfl) ?_
  refine LW.nil (hK2 _ _ ?_)
  refine CW.seq fun K3 hK3 => ?_
  obtain ⟨x12, hbx12, hx12, F⟩ := ix_some F
  obtain ⟨x13, hbx13, hx13, F⟩ := ix_some F
  obtain ⟨x14, hbx14, hx14, F⟩ := ix_some F
  obtain ⟨x15, hbx15, hx15, F⟩ := ix_some F
  refine CW.draw [] (fun _ => True) (.cons 0 1 (.cons 1 1 (.cons 2 1 (.cons 3 1 (.cons 4 1 (.cons 5 1 (.cons 6 1 (.cons 7 1 (.cons 8 1 (.cons 9 1 (.cons 10 1 (.cons 11 1 (.cons 12 1 (.cons 13 1 .nil)))))))))))))) mixed (by kernel_rfl) fun w2 E2 => ?_
  replace H := H.grow E2
  replace R0 := H.ext
  refine DW.fix rfl rfl rfl (fun _ EQ => RV.move rfl) ?_
  refine DW.fix rfl rfl rfl (fun _ EQ => RV.move rfl) ?_
  refine DW.fix rfl rfl rfl (fun _ EQ => RV.indexAddr Ts50 rfl rfl hbx12 (h_a1.addr_ hx12)) ?_
  refine DW.fix rfl rfl rfl (fun _ EQ => RV.indexArr Ta86 rfl rfl (by decide)) ?_
  refine DW.fix rfl rfl rfl (fun _ EQ => RV.load1 Tk3 rfl (Cells.arr (e := fun q => .int .i64 q) (l := [x12.at0, x12.at1]) (j := 0) ((h_a1.at_ hx12).ext (R0.trans EQ)) rfl) rfl) ?_
  obtain ⟨B1, e1, hh1⟩ := (H.tab 0 rfl).hd hx13
  refine DW.fix rfl rfl rfl (fun _ EQ => RV.indexAddr Ts23 rfl rfl hbx13 ((H.tab 0 rfl).addr_ hx13)) ?_
  refine DW.fix rfl rfl rfl (fun _ EQ => RV.load1 Tk22 rfl (((H.grow EQ).tab 0 rfl).cell hx13 hh1) rfl) ?_
  refine DW.fix rfl rfl rfl (fun _ EQ => RV.move rfl) ?_
  refine DW.fix rfl rfl rfl (fun _ EQ => RV.indexAddr Ts50 rfl rfl hbx14 (h_a1.addr_ hx14)) ?_
  refine DW.fix rfl rfl rfl (fun _ EQ => RV.indexArr Ta86 rfl rfl (by decide)) ?_
  refine DW.fix rfl rfl rfl (fun _ EQ => RV.load1 Tk3 rfl (Cells.arr (e := fun q => .int .i64 q) (l := [x14.at0, x14.at1]) (j := 1) ((h_a1.at_ hx14).ext (R0.trans EQ)) rfl) rfl) ?_
  refine DW.fix rfl rfl rfl (fun _ EQ => RV.indexAddr Ts22 rfl rfl hbx15 (((H.tab 0 rfl).rowO hx13 hh1).sl.addr_ hx15)) ?_
  refine DW.fix rfl rfl rfl (fun _ EQ => RV.load1 Tk3 rfl ((((H.grow EQ).tab 0 rfl).rowO hx13 hh1).sl.at_ hx15) rfl) ?_
  refine DW.fix rfl rfl rfl (fun _ EQ => RV.assign rfl) ?_
  refine DW.nil (hK3 _ _ ?_)
  refine CW.seqJ (fun ρ wl1 => (∃ (t7_1 : Int), bulk_along_k2 a1 r1 t7_1 = some res ∧ ρ = [(1, .slice A_a1 a1.length c_a1), (4, .slice none 0 0), (5, .int .i64 0), (6, .slice A3_0 r1.length c3_0), (7, .int .i64 t7_1)] ∧ Hp w wl1 [.tab A3_0 c3_0 22 hs3_0 3 1 (encM encN r1)])) ?_ ?_
  ·
    rintro _ wl1 ⟨t7_1, F, rfl, H⟩
    have R0 := H.ext
    unfold bulk_along_k2 at F
    refine CW.seqJ (fun ρ wl2 => (∃ (m1 : List (List Int)), bulk_along_k1 t7_1 m1 = some res ∧ ρ = [(4, .slice none 0 0), (5, .int .i64 0), (6, .slice A3_0 m1.length c3_0), (7, .int .i64 t7_1)] ∧ Hp w wl2 [.tab A3_0 c3_0 22 hs3_0 3 1 (encM encN m1)])) ?_ ?_
    ·
      rintro _ wl2 ⟨m1, F, rfl, H⟩
      have R0 := H.ext
      unfold bulk_along_k1 at F
      refine CW.seq fun K4 hK4 => ?_
      refine CW.region ?_
      refine LW.pure rfl rfl (RV.move rfl) ?_
      refine LW.pure rfl rfl (RV.move rfl) ?_
      refine LW.pure rfl rfl (RV.assign rfl) ?_
      refine LW.pure rfl rfl (RV.assign rfl) ?_
      refine LW.nil (hK4 _ _ ?_)
      refine CW.ret ?_
      obtain rfl := Option.some.inj F
      refine ⟨_, (ResOK.two rfl rfl), ?_⟩
      exact ⟨A3_0, c3_0, hs3_0, (by first | rfl | (simp; done) | (simp; omega)), H⟩
    ·
      intro K5 hK5 jK116
      refine CW.seq fun K6 hK6 => ?_
      refine CW.region ?_
      refine LW.pure rfl rfl (RV.move rfl) ?_
      refine LW.pure rfl rfl (RV.len Ts50 rfl) ?_
      refine LW.pure rfl rfl (RV.move rfl) ?_
      refine LW.nil (hK6 _ _ ?_)
      refine CW.block ?_
      refine CW.loop (fun meas ρ wl3 => ∃ (t51_1 : Int) (m2 : List (List Int)), bulk_along_L1 a1 t7_1 meas t51_1 m2 = some res ∧ ρ = [(4, .slice none 0 0), (5, .int .i64 0), (6, .slice A3_0 m2.length c3_0), (7, .int .i64 t7_1), (49, .slice A_a1 a1.length c_a1), (50, .int .i64 ((a1.length : Int))), (51, .int .i64 t51_1)] ∧ Hp w wl3 [.tab A3_0 c3_0 22 hs3_0 3 1 (encM encN m2)]) FU ⟨_, ?_, ((0 : Int)), r1, F, rfl, H⟩ ?_
      · exact ⟨rfl, rfl, (look_slice rfl (by first | rfl | (simp; done) | (simp; omega))), rfl, rfl, rfl, rfl, trivial⟩
      rintro mk1 _ wl3 ⟨t51_1, m2, F, rfl, H⟩
      have R0 := H.ext
      replace F := bulk_along_L1_s F
      obtain ⟨mk1, rfl, F⟩ := F
      generalize hrec1 : bulk_along_L1 a1 t7_1 mk1 = rec1 at F
      unfold bulk_along_B1 at F
      refine CW.seq fun K7 hK7 => ?_
      refine CW.region ?_
      refine LW.pure rfl rfl (RV.lss rfl rfl) ?_
      refine LW.nil (hK7 _ _ ?_)
      refine CW.seq fun K8 hK8 => ?_
      by_cases hp1 : t51_1 < ((a1.length : Int))
      ·
        replace F := ite_y hp1 F
        have hq1 := dec_t hp1
        refine CW.condT rfl hq1 ?_
        refine CW.skip (hK8 _ _ ?_)
        refine CW.seq fun K9 hK9 => ?_
        refine CW.block ?_
        refine CW.seq fun K10 hK10 => ?_
        obtain ⟨x1, hbx1, hx1, F⟩ := ix_some F
        refine CW.region ?_
        refine LW.pure rfl rfl (RV.move rfl) ?_
        refine LW.pure rfl rfl (RV.indexAddr Ts50 rfl rfl hbx1 (h_a1.addr_ hx1)) ?_
        refine LW.pure rfl rfl (RV.loadA [.int .i64 x1.at0, .int .i64 x1.at1] Tk86 rfl ((h_a1.at_ hx1).ext R0) rfl rfl) ?_
        refine LW.go rfl rfl (OW.alloc Tz86 fun b1 w3 N1 => ?_)
        replace H := H.made' (k := 1) (t := 86) (enc := encN) (l := ([0, 0] : List Int)) N1 N1.blk (fun _ => rfl) rfl (by first | decide | (simp; done) | (simp; omega))
        replace R0 := H.ext
        refine LW.pure rfl rfl (RV.assign rfl) ?_
        refine LW.go rfl rfl (OW.storeArr (l' := ([x1.at0, x1.at1] : List Int)) (vs := [.int .i64 x1.at0, .int .i64 x1.at1]) Tk86 rfl rfl (H.own 0 rfl) (fun _ => rfl) (by first | rfl | omega | (simp; done) | (simp; omega)) rfl rfl rfl rfl fun w4 M1 O1 => ?_)
        replace H : Hp w w4 [.own (some ⟨b1, 0, none⟩) 2 86 1 (List.map encN (([x1.at0, x1.at1] : List Int))), .tab A3_0 c3_0 22 hs3_0 3 1 (encM encN m2)] := H.mod 0 rfl M1 O1 (.inl rfl)
        replace R0 := H.ext
        refine LW.nil (hK10 _ _ ?_)
        obtain ⟨x2, hbx2, hx2, F⟩ := ix_some F
        obtain ⟨x3, hbx3, hx3, F⟩ := ix_some F
        obtain ⟨x4, hbx4, hx4, F⟩ := ix_some F
        obtain ⟨x5, hbx5, hx5, F⟩ := ix_some F
        obtain ⟨hg1, F⟩ := gd_some F
        obtain ⟨hg2, F⟩ := gd_some F
        obtain ⟨hg3, F⟩ := gd_some F
        obtain ⟨hg4, F⟩ := gd_some F
        obtain ⟨hg5, F⟩ := gd_some F
        obtain ⟨x6, hbx6, hx6, F⟩ := ix_some F
        refine CW.draw [18] (fun _ => True) (.cons 0 1 (.cons 1 1 (.cons 2 1 (.cons 3 1 (.cons 4 1 (.cons 5 1 (.cons 6 1 (.cons 7 1 (.cons 8 1 (.cons 9 1 (.cons 10 1 (.cons 11 1 (.cons 12 1 (.cons 13 1 (.cons 14 1 (.cons 15 1 (.cons 16 1 (.cons 17 1 (.cons 18 0 .nil))))))))))))))))))) mixed (by kernel_rfl) fun w5 E3 => ?_
        replace H := H.grow E3
        replace R0 := H.ext
        refine DW.fix rfl rfl rfl (fun _ EQ => RV.move rfl) ?_
        refine DW.fix rfl rfl rfl (fun _ EQ => RV.indexArr Ta86 rfl rfl ⟨hbx2.1, (by first | exact hbx2.2 | omega | (have q := hbx2.2; simp at q; omega))⟩) ?_
        refine DW.fix rfl rfl rfl (fun _ EQ => RV.load1 Tk3 rfl (((H.grow EQ).own 0 rfl).sl.at_ hx2) rfl) ?_
        obtain ⟨B2, e2, hh2⟩ := (H.tab 1 rfl).hd hx3
        refine DW.fix rfl rfl rfl (fun _ EQ => RV.indexAddr Ts23 rfl rfl hbx3 ((H.tab 1 rfl).addr_ hx3)) ?_
        refine DW.fix rfl rfl rfl (fun _ EQ => RV.load1 Tk22 rfl (((H.grow EQ).tab 1 rfl).cell hx3 hh2) rfl) ?_
        refine DW.fix rfl rfl rfl (fun _ EQ => RV.indexArr Ta86 rfl rfl ⟨hbx4.1, (by first | exact hbx4.2 | omega | (have q := hbx4.2; simp at q; omega))⟩) ?_
        refine DW.fix rfl rfl rfl (fun _ EQ => RV.load1 Tk3 rfl (((H.grow EQ).own 0 rfl).sl.at_ hx4) rfl) ?_
        refine DW.fix rfl rfl rfl (fun _ EQ => RV.indexAddr Ts22 rfl rfl hbx5 (((H.tab 1 rfl).rowO hx3 hh2).sl.addr_ hx5)) ?_
        refine DW.fix rfl rfl rfl (fun _ EQ => RV.load1 Tk3 rfl ((((H.grow EQ).tab 1 rfl).rowO hx3 hh2).sl.at_ hx5) rfl) ?_
        refine DW.fix rfl rfl rfl (fun _ EQ => RV.move rfl) ?_
        refine DW.fix rfl rfl rfl (fun _ EQ => RV.move rfl) ?_
        refine DW.fix rfl rfl rfl (fun _ EQ => RV.mul rfl rfl hg1) ?_
        refine DW.fix rfl rfl rfl (fun _ EQ => RV.move rfl) ?_
        refine DW.fix rfl rfl rfl (fun _ EQ => RV.rem rfl rfl hg2) ?_
        refine DW.fix rfl rfl rfl (fun _ EQ => RV.mul rfl rfl hg3) ?_
        refine DW.fix rfl rfl rfl (fun _ EQ => RV.sub rfl rfl hg4) ?_
        refine DW.fix rfl rfl rfl (fun _ EQ => RV.add rfl rfl hg5) ?_
        refine DW.fix rfl rfl rfl (fun _ EQ => RV.indexAddr Ts22 rfl rfl hbx6 (((H.tab 1 rfl).rowO hx3 hh2).sl.addr_ hx6)) ?_
        refine DW.sole rfl rfl rfl (OW.storeO (enc := encN) (vs := [.int .i64 (x5 + (t7_1 - ((2 * t7_1) * (Int.tmod t51_1 2))))]) 0 (x5 + (t7_1 - ((2 * t7_1) * (Int.tmod t51_1 2)))) Tk3 rfl rfl ((H.tab 1 rfl).rowO hx3 hh2) (fun _ => rfl) rfl hx6 rfl rfl (by decide) rfl rfl fun w6 M2 O2 => ?_)
        refine ⟨fun h => absurd h (by decide), M2.modx (fun _ _ => trivial), ?_⟩
        replace H : Hp w w6 [.own (some ⟨b1, 0, none⟩) 2 86 1 (List.map encN (([x1.at0, x1.at1] : List Int))), .tab A3_0 c3_0 22 hs3_0 3 1 (encM encN ((m2.set (Int.toNat x2) (x3.set (Int.toNat x4) (x5 + (t7_1 - ((2 * t7_1) * (Int.tmod t51_1 2))))))))] := H.tabRow 1 rfl hh2 hx3 (by simp) M2 O2
        replace R0 := H.ext
        have hrw1 : ((m2.set (Int.toNat x2) (x3.set (Int.toNat x4) (x5 + (t7_1 - ((2 * t7_1) * (Int.tmod t51_1 2)))))))[Int.toNat x2]? = some (x3.set (Int.toNat x4) (x5 + (t7_1 - ((2 * t7_1) * (Int.tmod t51_1 2))))) := List.getElem?_set_self (lt_of_at hx3)
        refine DW.nil (hK9 _ _ ?_)
        obtain ⟨hg6, F⟩ := gd_some F
        refine CW.region ?_
        refine LW.pure rfl rfl (RV.add rfl rfl hg6) ?_
        refine LW.pure rfl rfl (RV.move rfl) ?_
        refine LW.nil ?_
        replace H := H.pick (L' := [.tab A3_0 c3_0 22 hs3_0 3 1 (encM encN ((m2.set (Int.toNat x2) (x3.set (Int.toNat x4) (x5 + (t7_1 - ((2 * t7_1) * (Int.tmod t51_1 2))))))))]) [1] (by decide) rfl
        replace R0 := H.ext
        subst hrec1
        refine ⟨mk1, Nat.lt_succ_self _, _, ?_, (t51_1 + 1), ((m2.set (Int.toNat x2) (x3.set (Int.toNat x4) (x5 + (t7_1 - ((2 * t7_1) * (Int.tmod t51_1 2))))))), F, rfl, H⟩
        exact ⟨rfl, rfl, (look_slice rfl (by first | rfl | (simp; done) | (simp; omega))), rfl, rfl, rfl, rfl, trivial⟩
      ·
        replace F := ite_n hp1 F
        have hq1 := dec_f hp1
        refine CW.condF rfl hq1 ?_
        refine CW.exit (jK116 _ _ ⟨_, ?_, ⟨m2, F, rfl, H⟩⟩)
        exact ⟨rfl, rfl, (look_slice rfl (by first | rfl | (simp; done) | (simp; omega))), rfl, trivial⟩
  ·
    intro K11 hK11 jK130
    refine CW.seq fun K12 hK12 => ?_
    refine CW.region ?_
    refine LW.pure rfl rfl (RV.move rfl) ?_
    refine LW.pure rfl rfl (RV.len Ts50 rfl) ?_
    refine LW.pure rfl rfl (RV.move rfl) ?_
    refine LW.nil (hK12 _ _ ?_)
    refine CW.block ?_
    refine CW.loop (fun meas ρ wl4 => ∃ (t7_3 : Int) (t29_1 : Int), bulk_along_L2 a1 r1 meas t7_3 t29_1 = some res ∧ ρ = [(1, .slice A_a1 a1.length c_a1), (4, .slice none 0 0), (5, .int .i64 0), (6, .slice A3_0 r1.length c3_0), (7, .int .i64 t7_3), (27, .slice A_a1 a1.length c_a1), (28, .int .i64 ((a1.length : Int))), (29, .int .i64 t29_1)] ∧ Hp w wl4 [.tab A3_0 c3_0 22 hs3_0 3 1 (encM encN r1)]) FU ⟨_, ?_, x15, ((0 : Int)), F, rfl, H⟩ ?_
    · exact ⟨rfl, rfl, rfl, (look_slice rfl (by first | rfl | (simp; done) | (simp; omega))), rfl, rfl, rfl, rfl, trivial⟩
    rintro mk2 _ wl4 ⟨t7_3, t29_1, F, rfl, H⟩
    have R0 := H.ext
    replace F := bulk_along_L2_s F
    obtain ⟨mk2, rfl, F⟩ := F
    generalize hrec2 : bulk_along_L2 a1 r1 mk2 = rec2 at F
    unfold bulk_along_B2 at F
    refine CW.seq fun K13 hK13 => ?_
    refine CW.region ?_
    refine LW.pure rfl rfl (RV.lss rfl rfl) ?_
    refine LW.nil (hK13 _ _ ?_)
    refine CW.seq fun K14 hK14 => ?_
    by_cases hp2 : t29_1 < ((a1.length : Int))
    ·
      replace F := ite_y hp2 F
      have hq2 := dec_t hp2
      refine CW.condT rfl hq2 ?_
      refine CW.skip (hK14 _ _ ?_)
      refine CW.seqJ (fun ρ wl5 => (∃ (t7_2 : Int), bulk_along_k3 t29_1 rec2 t7_2 = some res ∧ ρ = [(1, .slice A_a1 a1.length c_a1), (4, .slice none 0 0), (5, .int .i64 0), (6, .slice A3_0 r1.length c3_0), (7, .int .i64 t7_2), (27, .slice A_a1 a1.length c_a1), (28, .int .i64 ((a1.length : Int))), (29, .int .i64 t29_1)] ∧ Hp w wl5 [.tab A3_0 c3_0 22 hs3_0 3 1 (encM encN r1)])) ?_ ?_
      ·
        rintro _ wl5 ⟨t7_2, F, rfl, H⟩
        have R0 := H.ext
        unfold bulk_along_k3 at F
        obtain ⟨hg7, F⟩ := gd_some F
        refine CW.region ?_
        refine LW.pure rfl rfl (RV.add rfl rfl hg7) ?_
        refine LW.pure rfl rfl (RV.move rfl) ?_
        refine LW.nil ?_
        subst hrec2
        refine ⟨mk2, Nat.lt_succ_self _, _, ?_, t7_2, (t29_1 + 1), F, rfl, H⟩
        exact ⟨rfl, rfl, rfl, (look_slice rfl (by first | rfl | (simp; done) | (simp; omega))), rfl, rfl, rfl, rfl, trivial⟩
      ·
        intro K15 hK15 jK150
        refine CW.block ?_
        refine CW.seq fun K16 hK16 => ?_
        obtain ⟨x7, hbx7, hx7, F⟩ := ix_some F
        refine CW.region ?_
        refine LW.pure rfl rfl (RV.move rfl) ?_
        refine LW.pure rfl rfl (RV.indexAddr Ts50 rfl rfl hbx7 (h_a1.addr_ hx7)) ?_
        refine LW.pure rfl rfl (RV.loadA [.int .i64 x7.at0, .int .i64 x7.at1] Tk86 rfl ((h_a1.at_ hx7).ext R0) rfl rfl) ?_
        refine LW.go rfl rfl (OW.alloc Tz86 fun b2 w7 N2 => ?_)
        replace H := H.made' (k := 1) (t := 86) (enc := encN) (l := ([0, 0] : List Int)) N2 N2.blk (fun _ => rfl) rfl (by first | decide | (simp; done) | (simp; omega))
        replace R0 := H.ext
        refine LW.pure rfl rfl (RV.assign rfl) ?_
        refine LW.go rfl rfl (OW.storeArr (l' := ([x7.at0, x7.at1] : List Int)) (vs := [.int .i64 x7.at0, .int .i64 x7.at1]) Tk86 rfl rfl (H.own 0 rfl) (fun _ => rfl) (by first | rfl | omega | (simp; done) | (simp; omega)) rfl rfl rfl rfl fun w8 M3 O3 => ?_)
        replace H : Hp w w8 [.own (some ⟨b2, 0, none⟩) 2 86 1 (List.map encN (([x7.at0, x7.at1] : List Int))), .tab A3_0 c3_0 22 hs3_0 3 1 (encM encN r1)] := H.mod 0 rfl M3 O3 (.inl rfl)
        replace R0 := H.ext
        refine LW.nil (hK16 _ _ ?_)
        refine CW.seq fun K17 hK17 => ?_
        obtain ⟨hg8, F⟩ := gd_some F
        refine CW.region ?_
        refine LW.pure rfl rfl (RV.move rfl) ?_
        refine LW.pure rfl rfl (RV.rem rfl rfl hg8) ?_
        refine LW.pure rfl rfl (RV.eqi rfl rfl) ?_
        refine LW.nil (hK17 _ _ ?_)
        by_cases hp3 : (Int.tmod t29_1 2) = 1
        ·
          replace F := ite_y hp3 F
          have hq3 := dec_t hp3
          refine CW.condT rfl hq3 ?_
          obtain ⟨x8, hbx8, hx8, F⟩ := ix_some F
          obtain ⟨x9, hbx9, hx9, F⟩ := ix_some F
          obtain ⟨x10, hbx10, hx10, F⟩ := ix_some F
          obtain ⟨x11, hbx11, hx11, F⟩ := ix_some F
          refine CW.draw [] (fun _ => True) (.cons 0 1 (.cons 1 1 (.cons 2 1 (.cons 3 1 (.cons 4 1 (.cons 5 1 (.cons 6 1 (.cons 7 1 (.cons 8 1 (.cons 9 1 (.cons 10 1 (.cons 11 1 .nil)))))))))))) mixed (by kernel_rfl) fun w9 E4 => ?_
          replace H := H.grow E4
          replace R0 := H.ext
          refine DW.fix rfl rfl rfl (fun _ EQ => RV.move rfl) ?_
          refine DW.fix rfl rfl rfl (fun _ EQ => RV.move rfl) ?_
          refine DW.fix rfl rfl rfl (fun _ EQ => RV.indexArr Ta86 rfl rfl ⟨hbx8.1, (by first | exact hbx8.2 | omega | (have q := hbx8.2; simp at q; omega))⟩) ?_
          refine DW.fix rfl rfl rfl (fun _ EQ => RV.load1 Tk3 rfl (((H.grow EQ).own 0 rfl).sl.at_ hx8) rfl) ?_
          obtain ⟨B3, e3, hh3⟩ := (H.tab 1 rfl).hd hx9
          refine DW.fix rfl rfl rfl (fun _ EQ => RV.indexAddr Ts23 rfl rfl hbx9 ((H.tab 1 rfl).addr_ hx9)) ?_
          refine DW.fix rfl rfl rfl (fun _ EQ => RV.load1 Tk22 rfl (((H.grow EQ).tab 1 rfl).cell hx9 hh3) rfl) ?_
          refine DW.fix rfl rfl rfl (fun _ EQ => RV.indexArr Ta86 rfl rfl ⟨hbx10.1, (by first | exact hbx10.2 | omega | (have q := hbx10.2; simp at q; omega))⟩) ?_
          refine DW.fix rfl rfl rfl (fun _ EQ => RV.load1 Tk3 rfl (((H.grow EQ).own 0 rfl).sl.at_ hx10) rfl) ?_
          refine DW.fix rfl rfl rfl (fun _ EQ => RV.indexAddr Ts22 rfl rfl hbx11 (((H.tab 1 rfl).rowO hx9 hh3).sl.addr_ hx11)) ?_
          refine DW.fix rfl rfl rfl (fun _ EQ => RV.load1 Tk3 rfl ((((H.grow EQ).tab 1 rfl).rowO hx9 hh3).sl.at_ hx11) rfl) ?_
          refine DW.fix rfl rfl rfl (fun _ EQ => RV.min2 rfl rfl) ?_
          refine DW.fix rfl rfl rfl (fun _ EQ => RV.assign rfl) ?_
          replace H := H.pick (L' := [.tab A3_0 c3_0 22 hs3_0 3 1 (encM encN r1)]) [1] (by decide) rfl
          replace R0 := H.ext
          refine DW.nil (jK150 _ _ ⟨_, ?_, ⟨(min t7_3 x11), F, rfl, H⟩⟩)
          exact ⟨rfl, rfl, rfl, (look_slice rfl (by first | rfl | (simp; done) | (simp; omega))), rfl, rfl, rfl, rfl, trivial⟩
        ·
          replace F := ite_n hp3 F
          have hq3 := dec_f hp3
          refine CW.condF rfl hq3 ?_
          replace H := H.pick (L' := [.tab A3_0 c3_0 22 hs3_0 3 1 (encM encN r1)]) [1] (by decide) rfl
          replace R0 := H.ext
          refine CW.skip (jK150 _ _ ⟨_, ?_, ⟨t7_3, F, rfl, H⟩⟩)
          exact ⟨rfl, rfl, rfl, (look_slice rfl (by first | rfl | (simp; done) | (simp; omega))), rfl, rfl, rfl, rfl, trivial⟩
    ·
      replace F := ite_n hp2 F
      have hq2 := dec_f hp2
      refine CW.condF rfl hq2 ?_
      refine CW.exit (jK130 _ _ ⟨_, ?_, ⟨t7_3, F, rfl, H⟩⟩)
      exact ⟨rfl, rfl, rfl, (look_slice rfl (by first | rfl | (simp; done) | (simp; omega))), rfl, trivial⟩
set_option maxRecDepth 20000 in
set_option maxHeartbeats 1000000 in
theorem bulk_best_ok {a0 : Trade} {A_a0_supply : Option Addr} {c_a0_supply : Nat} {A_a0_demand : Option Addr} {c_a0_demand : Nat} {A_a0_cost : Option Addr} {c_a0_cost : Nat} {w : World} {res : (List (List Int)) × (List Int)} (h_a0_supply : Sl w A_a0_supply c_a0_supply 1 (a0.supply.map encN)) (h_a0_demand : Sl w A_a0_demand c_a0_demand 1 (a0.demand.map encN)) (h_a0_cost : Sl2 w A_a0_cost c_a0_cost 1 encN a0.cost) (F : bulk_best a0 = some res) : Calls Try.prog 55 #[.agg #[.slice A_a0_supply a0.supply.length c_a0_supply, .slice A_a0_demand a0.demand.length c_a0_demand, .slice A_a0_cost a0.cost.length c_a0_cost]] w (fun e w' => ∃ (A0 : Option Addr) (c0 : Nat) (hs0 : List (Option Addr × Nat)) (A1 : Option Addr) (c1 : Nat), e = .returned (.tuple #[.slice A0 res.1.length c0, .slice A1 res.2.length c1]) ∧ Hp w w' [.tab A0 c0 22 hs0 3 1 (encM encN res.1), .own A1 c1 3 1 (List.map encN res.2)]) := by
  refine calls_of_cw (args := [.agg #[.slice A_a0_supply a0.supply.length c_a0_supply, .slice A_a0_demand a0.demand.length c_a0_demand, .slice A_a0_cost a0.cost.length c_a0_cost]]) Try.func55 rfl rfl rfl rfl ?_
  have H := Hp.start w
  have R0 := H.ext
  unfold bulk_best at F
  refine CW.seq fun K1 hK1 => ?_
  refine CW.region ?_
  refine LW.go rfl rfl (OW.box rfl fun b1 w1 N1 => ?_)
  replace H := H.new N1 N1.blk
  replace R0 := H.ext
  refine LW.pure rfl rfl (RV.assign rfl) ?_
  refine LW.pure rfl rfl (RV.assign rfl) ?_
  refine LW.nil (hK1 _ _ ?_)
  refine CW.seq fun K2 hK2 => ?_
  obtain ⟨r4, hr4, F⟩ := bnd_some F
  refine CW.region ?_
  refine LW.pure rfl rfl (RV.loadA [.slice A_a0_supply a0.supply.length c_a0_supply, .slice A_a0_demand a0.demand.length c_a0_demand, .slice A_a0_cost a0.cost.length c_a0_cost] Tk25 rfl (H.blk 0 rfl).cells rfl rfl) ?_
  refine LW.go rfl rfl (OW.call Tc68 rfl (bulk_corner_ok (a0 := a0) (h_a0_supply.ext R0) (h_a0_demand.ext R0) (h_a0_cost.ext R0) hr4) ?_)
  rintro _ w2 ⟨A12_0, c12_0, hs12_0, rfl, E1⟩
  refine ⟨_, rfl, ?_⟩
  replace H : Hp w w2 [.tab A12_0 c12_0 22 hs12_0 3 1 (encM encN r4), .blk b1 25 [.slice A_a0_supply a0.supply.length c_a0_supply, .slice A_a0_demand a0.demand.length c_a0_demand, .slice A_a0_cost a0.cost.length c_a0_cost]] := H.append E1
  replace R0 := H.ext
  refine LW.pure rfl rfl (RV.assign rfl) ?_
  refine LW.nil (hK2 _ _ ?_)
  refine CW.block ?_
  refine CW.loop (fun meas ρ wl1 => ∃ (m1 : List (List Int)) (hsm1 : List (Option Addr × Nat)) (Am1 : Option Addr) (cm1 : Nat), bulk_best_L1 a0 meas m1 = some res ∧ ρ = [(1, .pointer (some (⟨b1, 0, none⟩))), (2, .slice none 0 0), (3, .slice none 0 0), (4, .slice Am1 m1.length cm1)] ∧ Hp w wl1 [.tab Am1 cm1 22 hsm1 3 1 (encM encN m1), .blk b1 25 [.slice A_a0_supply a0.supply.length c_a0_supply, .slice A_a0_demand a0.demand.length c_a0_demand, .slice A_a0_cost a0.cost.length c_a0_cost]]) FU ⟨_, ?_, r4, hs12_0, A12_0, c12_0, F, rfl, H⟩ ?_
  · exact ⟨rfl, rfl, rfl, (look_slice rfl (by first | rfl | (simp; done) | (simp; omega))), trivial⟩
  rintro mk1 _ wl1 ⟨m1, hsm1, Am1, cm1, F, rfl, H⟩
  have R0 := H.ext
  replace F := bulk_best_L1_s F
  obtain ⟨mk1, rfl, F⟩ := F
  generalize hrec1 : bulk_best_L1 a0 mk1 = rec1 at F
  unfold bulk_best_B1 at F
  refine CW.block ?_
  refine CW.seq fun K3 hK3 => ?_
  obtain ⟨r1, hr1, F⟩ := bnd_some F
  refine CW.region ?_
  refine LW.pure rfl rfl (RV.loadA [.slice A_a0_supply a0.supply.length c_a0_supply, .slice A_a0_demand a0.demand.length c_a0_demand, .slice A_a0_cost a0.cost.length c_a0_cost] Tk25 rfl (H.blk 1 rfl).cells rfl rfl) ?_
  refine LW.pure rfl rfl (RV.move rfl) ?_
  refine LW.go rfl rfl (OW.call Tc79 rfl (bulk_search_ok (a0 := a0) (a1 := m1) (h_a0_supply.ext R0) (h_a0_demand.ext R0) (h_a0_cost.ext R0) (H.tab 0 rfl).sl2 hr1) ?_)
  rintro _ w3 ⟨A20_0, c20_0, A20_1, c20_1, rfl, hnl20_1, E2⟩
  refine ⟨_, rfl, ?_⟩
  replace H : Hp w w3 [.own A20_0 c20_0 3 1 (List.map encN r1.1), .own A20_1 c20_1 96 1 (List.map encStep r1.2), .tab Am1 cm1 22 hsm1 3 1 (encM encN m1), .blk b1 25 [.slice A_a0_supply a0.supply.length c_a0_supply, .slice A_a0_demand a0.demand.length c_a0_demand, .slice A_a0_cost a0.cost.length c_a0_cost]] := H.append E2
  replace R0 := H.ext
  refine LW.pure rfl rfl (RV.move rfl) ?_
  refine LW.pure rfl rfl (RV.extract rfl rfl) ?_
  refine LW.pure rfl rfl (RV.extract rfl rfl) ?_
  refine LW.pure rfl rfl (RV.assign rfl) ?_
  refine LW.pure rfl rfl (RV.assign rfl) ?_
  refine LW.nil (hK3 _ _ ?_)
  refine CW.seq fun K4 hK4 => ?_
  refine CW.seq fun K5 hK5 => ?_
  refine CW.region ?_
  refine LW.pure rfl rfl (RV.move rfl) ?_
  refine LW.pure rfl rfl (RV.eqnilL (l := r1.2) Ts82 rfl rfl hnl20_1) ?_
  refine LW.nil (hK5 _ _ ?_)
  by_cases hp1 : r1.2 = []
  ·
    replace F := ite_y hp1 F
    have hq1 := dec_t hp1
    refine CW.condT rfl hq1 ?_
    refine CW.seq fun K6 hK6 => ?_
    refine CW.region ?_
    refine LW.pure rfl rfl (RV.move rfl) ?_
    refine LW.pure rfl rfl (RV.move rfl) ?_
    refine LW.pure rfl rfl (RV.assign rfl) ?_
    refine LW.pure rfl rfl (RV.assign rfl) ?_
    refine LW.nil (hK6 _ _ ?_)
    refine CW.ret ?_
    obtain rfl := Option.some.inj F
    refine ⟨_, (ResOK.two rfl rfl), ?_⟩
    replace H := H.pick (L' := [.tab Am1 cm1 22 hsm1 3 1 (encM encN m1), .own A20_0 c20_0 3 1 (List.map encN r1.1)]) [2, 0] (by decide) rfl
    replace R0 := H.ext
    exact ⟨Am1, cm1, hsm1, A20_0, c20_0, (by first | rfl | (simp; done) | (simp; omega)), H⟩
  ·
    replace F := ite_n hp1 F
    have hq1 := dec_f hp1
    refine CW.condF rfl hq1 ?_
    refine CW.skip (hK4 _ _ ?_)
    obtain ⟨r2, hr2, F⟩ := bnd_some F
    obtain ⟨r3, hr3, F⟩ := bnd_some F
    refine CW.region ?_
    refine LW.pure rfl rfl (RV.move rfl) ?_
    refine LW.pure rfl rfl (RV.move rfl) ?_
    refine LW.go rfl rfl (OW.call Tc80 rfl (bulk_pairs_ok (a0 := r1.2) (H.own 1 rfl).sl hr2) ?_)
    rintro _ w4 ⟨A23_0, c23_0, rfl, E3⟩
    refine ⟨_, rfl, ?_⟩
    replace H : Hp w w4 [.own A23_0 c23_0 86 2 (List.map encArr2 r2), .own A20_0 c20_0 3 1 (List.map encN r1.1), .own A20_1 c20_1 96 1 (List.map encStep r1.2), .tab Am1 cm1 22 hsm1 3 1 (encM encN m1), .blk b1 25 [.slice A_a0_supply a0.supply.length c_a0_supply, .slice A_a0_demand a0.demand.length c_a0_demand, .slice A_a0_cost a0.cost.length c_a0_cost]] := H.append E3
    replace R0 := H.ext
    refine LW.go rfl rfl (OW.call Tc85 rfl (bulk_along_ok (a0 := m1) (a1 := r2) (H.tab 3 rfl).sl2 (H.own 0 rfl).sl hr3) ?_)
    rintro _ w5 ⟨A24_0, c24_0, hs24_0, rfl, E4⟩
    refine ⟨_, rfl, ?_⟩
    replace H : Hp w w5 [.tab A24_0 c24_0 22 hs24_0 3 1 (encM encN r3.1), .own A23_0 c23_0 86 2 (List.map encArr2 r2), .own A20_0 c20_0 3 1 (List.map encN r1.1), .own A20_1 c20_1 96 1 (List.map encStep r1.2), .tab Am1 cm1 22 hsm1 3 1 (encM encN m1), .blk b1 25 [.slice A_a0_supply a0.supply.length c_a0_supply, .slice A_a0_demand a0.demand.length c_a0_demand, .slice A_a0_cost a0.cost.length c_a0_cost]] := H.append E4
    replace R0 := H.ext
    refine LW.pure rfl rfl (RV.move rfl) ?_
    refine LW.pure rfl rfl (RV.extract rfl rfl) ?_
    refine LW.pure rfl rfl (RV.extract rfl rfl) ?_
    refine LW.pure rfl rfl (RV.assign rfl) ?_
    refine LW.nil ?_
    replace H := H.pick (L' := [.tab A24_0 c24_0 22 hs24_0 3 1 (encM encN r3.1), .blk b1 25 [.slice A_a0_supply a0.supply.length c_a0_supply, .slice A_a0_demand a0.demand.length c_a0_demand, .slice A_a0_cost a0.cost.length c_a0_cost]]) [0, 5] (by decide) rfl
    replace R0 := H.ext
    subst hrec1
    refine ⟨mk1, Nat.lt_succ_self _, _, ?_, r3.1, hs24_0, A24_0, c24_0, F, rfl, H⟩
    exact ⟨rfl, rfl, rfl, (look_slice rfl (by first | rfl | (simp; done) | (simp; omega))), trivial⟩
set_option maxRecDepth 20000 in
set_option maxHeartbeats 1000000 in
theorem bulk_cost_ok {a0 : Trade} {a1 : List (List Int)} {A_a0_supply : Option Addr} {c_a0_supply : Nat} {A_a0_demand : Option Addr} {c_a0_demand : Nat} {A_a0_cost : Option Addr} {c_a0_cost : Nat} {A_a1 : Option Addr} {c_a1 : Nat} {w : World} {res : Int} (h_a0_supply : Sl w A_a0_supply c_a0_supply 1 (a0.supply.map encN)) (h_a0_demand : Sl w A_a0_demand c_a0_demand 1 (a0.demand.map encN)) (h_a0_cost : Sl2 w A_a0_cost c_a0_cost 1 encN a0.cost) (h_a1 : Sl2 w A_a1 c_a1 1 encN a1) (F : bulk_cost a0 a1 = some res) : Calls Try.prog 56 #[.agg #[.slice A_a0_supply a0.supply.length c_a0_supply, .slice A_a0_demand a0.demand.length c_a0_demand, .slice A_a0_cost a0.cost.length c_a0_cost], .slice A_a1 a1.length c_a1] w (Rt w (.int .i64 res)) := by
  refine calls_of_cw (args := [.agg #[.slice A_a0_supply a0.supply.length c_a0_supply, .slice A_a0_demand a0.demand.length c_a0_demand, .slice A_a0_cost a0.cost.length c_a0_cost], .slice A_a1 a1.length c_a1]) Try.func56 rfl rfl rfl rfl ?_
  have H := Hp.start w
  have R0 := H.ext
  unfold bulk_cost at F
  refine CW.seq fun K1 hK1 => ?_
  refine CW.region ?_
  refine LW.go rfl rfl (OW.box rfl fun b1 w1 N1 => ?_)
  replace H := H.new N1 N1.blk
  replace R0 := H.ext
  refine LW.pure rfl rfl (RV.assign rfl) ?_
  refine LW.nil (hK1 _ _ ?_)
  refine CW.seq fun K2 hK2 => ?_
  refine CW.region ?_
  refine LW.pure rfl rfl (RV.assign rfl) ?_
  refine LW.nil (hK2 _ _ ?_)
  refine CW.seqJ (fun ρ wl1 => (∃ (t5_1 : Int), bulk_cost_k1 t5_1 = some res ∧ ρ = [(4, .int .i64 0), (5, .int .i64 t5_1)] ∧ Hp w wl1 [])) ?_ ?_
  ·
    rintro _ wl1 ⟨t5_1, F, rfl, H⟩
    have R0 := H.ext
    unfold bulk_cost_k1 at F
    refine CW.seq fun K3 hK3 => ?_
    refine CW.region ?_
    refine LW.pure rfl rfl (RV.move rfl) ?_
    refine LW.pure rfl rfl (RV.assign rfl) ?_
    refine LW.nil (hK3 _ _ ?_)
    refine CW.ret ?_
    obtain rfl := Option.some.inj F
    refine ⟨_, (ResOK.one rfl), ?_⟩
    refine ⟨(by first | rfl | simp), R0⟩
  ·
    intro K4 hK4 jK290
    refine CW.seq fun K5 hK5 => ?_
    refine CW.region ?_
    refine LW.pure rfl rfl (RV.move rfl) ?_
    refine LW.pure rfl rfl (RV.len Ts23 rfl) ?_
    refine LW.pure rfl rfl (RV.move rfl) ?_
    refine LW.nil (hK5 _ _ ?_)
    refine CW.block ?_
    refine CW.loop (fun meas ρ wl2 => ∃ (t5_4 : Int) (t12_1 : Int), bulk_cost_L2 a0 a1 meas t5_4 t12_1 = some res ∧ ρ = [(2, .pointer (some (⟨b1, 0, none⟩))), (4, .int .i64 0), (5, .int .i64 t5_4), (10, .slice A_a1 a1.length c_a1), (11, .int .i64 ((a1.length : Int))), (12, .int .i64 t12_1)] ∧ Hp w wl2 [.blk b1 25 [.slice A_a0_supply a0.supply.length c_a0_supply, .slice A_a0_demand a0.demand.length c_a0_demand, .slice A_a0_cost a0.cost.length c_a0_cost]]) FU ⟨_, ?_, ((0 : Int)), ((0 : Int)), F, rfl, H⟩ ?_
    · exact ⟨rfl, rfl, rfl, rfl, rfl, rfl, trivial⟩
    rintro mk1 _ wl2 ⟨t5_4, t12_1, F, rfl, H⟩
    have R0 := H.ext
    replace F := bulk_cost_L2_s F
    obtain ⟨mk1, rfl, F⟩ := F
    generalize hrec1 : bulk_cost_L2 a0 a1 mk1 = rec1 at F
    unfold bulk_cost_B2 at F
    refine CW.seq fun K6 hK6 => ?_
    refine CW.region ?_
    refine LW.pure rfl rfl (RV.lss rfl rfl) ?_
    refine LW.nil (hK6 _ _ ?_)
    refine CW.seq fun K7 hK7 => ?_
    by_cases hp1 : t12_1 < ((a1.length : Int))
    ·
      replace F := ite_y hp1 F
      have hq1 := dec_t hp1
      refine CW.condT rfl hq1 ?_
      refine CW.skip (hK7 _ _ ?_)
      refine CW.seqJ (fun ρ wl3 => (∃ (t5_2 : Int), bulk_cost_k2 t12_1 rec1 t5_2 = some res ∧ ρ = [(2, .pointer (some (⟨b1, 0, none⟩))), (4, .int .i64 0), (5, .int .i64 t5_2), (10, .slice A_a1 a1.length c_a1), (11, .int .i64 ((a1.length : Int))), (12, .int .i64 t12_1)] ∧ Hp w wl3 [.blk b1 25 [.slice A_a0_supply a0.supply.length c_a0_supply, .slice A_a0_demand a0.demand.length c_a0_demand, .slice A_a0_cost a0.cost.length c_a0_cost]])) ?_ ?_
      ·
        rintro _ wl3 ⟨t5_2, F, rfl, H⟩
        have R0 := H.ext
        unfold bulk_cost_k2 at F
        obtain ⟨hg1, F⟩ := gd_some F
        refine CW.region ?_
        refine LW.pure rfl rfl (RV.add rfl rfl hg1) ?_
        refine LW.pure rfl rfl (RV.move rfl) ?_
        refine LW.nil ?_
        subst hrec1
        refine ⟨mk1, Nat.lt_succ_self _, _, ?_, t5_2, (t12_1 + 1), F, rfl, H⟩
        exact ⟨rfl, rfl, rfl, rfl, rfl, rfl, trivial⟩
      ·
        intro K8 hK8 jK370
        refine CW.block ?_
        refine CW.seq fun K9 hK9 => ?_
        obtain ⟨x1, hbx1, hx1, F⟩ := ix_some F
        refine CW.region ?_
        refine LW.pure rfl rfl (RV.move rfl) ?_
        obtain ⟨A1, c1, hC1, hS1⟩ := h_a1.at_ hx1
        refine LW.pure rfl rfl (RV.indexAddr Ts23 rfl rfl hbx1 (h_a1.addr hbx1)) ?_
        refine LW.pure rfl rfl (RV.load1 Tk22 rfl (hC1.ext R0) rfl) ?_
        refine LW.pure rfl rfl (RV.assign rfl) ?_
        refine LW.pure rfl rfl (RV.assign rfl) ?_
        refine LW.nil (hK9 _ _ ?_)
        refine CW.seq fun K10 hK10 => ?_
        refine CW.region ?_
        refine LW.pure rfl rfl (RV.move rfl) ?_
        refine LW.pure rfl rfl (RV.len Ts22 rfl) ?_
        refine LW.pure rfl rfl (RV.move rfl) ?_
        refine LW.nil (hK10 _ _ ?_)
        refine CW.block ?_
        refine CW.loop (fun meas ρ wl4 => ∃ (t5_3 : Int) (t19_1 : Int), bulk_cost_L1 a0 t12_1 rec1 x1 meas t5_3 t19_1 = some res ∧ ρ = [(2, .pointer (some (⟨b1, 0, none⟩))), (4, .int .i64 0), (5, .int .i64 t5_3), (6, .int .i64 t12_1), (10, .slice A_a1 a1.length c_a1), (11, .int .i64 ((a1.length : Int))), (12, .int .i64 t12_1), (17, .slice A1 x1.length c1), (18, .int .i64 ((x1.length : Int))), (19, .int .i64 t19_1)] ∧ Hp w wl4 [.blk b1 25 [.slice A_a0_supply a0.supply.length c_a0_supply, .slice A_a0_demand a0.demand.length c_a0_demand, .slice A_a0_cost a0.cost.length c_a0_cost]]) FU ⟨_, ?_, t5_4, ((0 : Int)), F, rfl, H⟩ ?_
        · exact ⟨rfl, rfl, rfl, rfl, rfl, rfl, rfl, rfl, rfl, rfl, trivial⟩
        rintro mk2 _ wl4 ⟨t5_3, t19_1, F, rfl, H⟩
        have R0 := H.ext
        replace F := bulk_cost_L1_s F
        obtain ⟨mk2, rfl, F⟩ := F
        generalize hrec2 : bulk_cost_L1 a0 t12_1 rec1 x1 mk2 = rec2 at F
        unfold bulk_cost_B1 at F
        refine CW.seq fun K11 hK11 => ?_
        refine CW.region ?_
        refine LW.pure rfl rfl (RV.lss rfl rfl) ?_
        refine LW.nil (hK11 _ _ ?_)
        refine CW.seq fun K12 hK12 => ?_
        by_cases hp2 : t19_1 < ((x1.length : Int))
        ·
          replace F := ite_y hp2 F
          have hq2 := dec_t hp2
          refine CW.condT rfl hq2 ?_
          refine CW.skip (hK12 _ _ ?_)
          refine CW.seq fun K13 hK13 => ?_
          refine CW.block ?_
          refine CW.seq fun K14 hK14 => ?_
          obtain ⟨x2, hbx2, hx2, F⟩ := ix_some F
          refine CW.region ?_
          refine LW.pure rfl rfl (RV.move rfl) ?_
          refine LW.pure rfl rfl (RV.indexAddr Ts22 rfl rfl hbx2 (hS1.addr_ hx2)) ?_
          refine LW.pure rfl rfl (RV.load1 Tk3 rfl ((hS1.at_ hx2).ext R0) rfl) ?_
          refine LW.pure rfl rfl (RV.assign rfl) ?_
          refine LW.pure rfl rfl (RV.assign rfl) ?_
          refine LW.nil (hK14 _ _ ?_)
          obtain ⟨x3, hbx3, hx3, F⟩ := ix_some F
          obtain ⟨x4, hbx4, hx4, F⟩ := ix_some F
          obtain ⟨hg2, F⟩ := gd_some F
          obtain ⟨hg3, F⟩ := gd_some F
          refine CW.region ?_
          refine LW.pure rfl rfl (RV.move rfl) ?_
          refine LW.pure rfl rfl (RV.move rfl) ?_
          refine LW.pure rfl rfl (RV.fieldAddr Tf25_2 rfl) ?_
          refine LW.pure rfl rfl (RV.load1 Tk23 rfl ((H.blk 0 rfl).cells.off 2) rfl) ?_
          refine LW.pure rfl rfl (RV.move rfl) ?_
          obtain ⟨A2, c2, hC2, hS2⟩ := h_a0_cost.at_ hx3
          refine LW.pure rfl rfl (RV.indexAddr Ts23 rfl rfl hbx3 (h_a0_cost.addr hbx3)) ?_
          refine LW.pure rfl rfl (RV.load1 Tk22 rfl (hC2.ext R0) rfl) ?_
          refine LW.pure rfl rfl (RV.move rfl) ?_
          refine LW.pure rfl rfl (RV.indexAddr Ts22 rfl rfl hbx4 (hS2.addr_ hx4)) ?_
          refine LW.pure rfl rfl (RV.load1 Tk3 rfl ((hS2.at_ hx4).ext R0) rfl) ?_
          refine LW.pure rfl rfl (RV.mul rfl rfl hg2) ?_
          refine LW.pure rfl rfl (RV.add rfl rfl hg3) ?_
          refine LW.pure rfl rfl (RV.assign rfl) ?_
          refine LW.nil (hK13 _ _ ?_)
          obtain ⟨hg4, F⟩ := gd_some F
          refine CW.region ?_
          refine LW.pure rfl rfl (RV.add rfl rfl hg4) ?_
          refine LW.pure rfl rfl (RV.move rfl) ?_
          refine LW.nil ?_
          subst hrec2
          refine ⟨mk2, Nat.lt_succ_self _, _, ?_, (t5_3 + (x2 * x4)), (t19_1 + 1), F, rfl, H⟩
          exact ⟨rfl, rfl, rfl, rfl, rfl, rfl, rfl, rfl, rfl, rfl, trivial⟩
        ·
          replace F := ite_n hp2 F
          have hq2 := dec_f hp2
          refine CW.condF rfl hq2 ?_
          refine CW.exit (jK370 _ _ ⟨_, ?_, ⟨t5_3, F, rfl, H⟩⟩)
          exact ⟨rfl, rfl, rfl, rfl, rfl, rfl, trivial⟩
    ·
      replace F := ite_n hp1 F
      have hq1 := dec_f hp1
      refine CW.condF rfl hq1 ?_
      replace H := H.pick (L' := []) [] (by decide) rfl
      replace R0 := H.ext
      refine CW.exit (jK290 _ _ ⟨_, ?_, ⟨t5_4, F, rfl, H⟩⟩)
      exact ⟨rfl, rfl, trivial⟩
set_option maxRecDepth 20000 in
set_option maxHeartbeats 1000000 in
theorem bulk_Least_ok {a0 : Trade} {A_a0_supply : Option Addr} {c_a0_supply : Nat} {A_a0_demand : Option Addr} {c_a0_demand : Nat} {A_a0_cost : Option Addr} {c_a0_cost : Nat} {w : World} {res : Int × Int} (h_a0_supply : Sl w A_a0_supply c_a0_supply 1 (a0.supply.map encN)) (h_a0_demand : Sl w A_a0_demand c_a0_demand 1 (a0.demand.map encN)) (h_a0_cost : Sl2 w A_a0_cost c_a0_cost 1 encN a0.cost) (F : bulk_Least a0 = some res) : Calls Try.prog 21 #[.agg #[.slice A_a0_supply a0.supply.length c_a0_supply, .slice A_a0_demand a0.demand.length c_a0_demand, .slice A_a0_cost a0.cost.length c_a0_cost]] w (Rt w (.tuple #[.int .i64 res.1, .int .i64 res.2])) := by
  refine calls_of_cw (args := [.agg #[.slice A_a0_supply a0.supply.length c_a0_supply, .slice A_a0_demand a0.demand.length c_a0_demand, .slice A_a0_cost a0.cost.length c_a0_cost]]) Try.func21 rfl rfl rfl rfl ?_
  have H := Hp.start w
  have R0 := H.ext
  unfold bulk_Least at F
  refine CW.seq fun K1 hK1 => ?_
  refine CW.region ?_
  refine LW.go rfl rfl (OW.box rfl fun b1 w1 N1 => ?_)
  replace H := H.new N1 N1.blk
  replace R0 := H.ext
  refine LW.pure rfl rfl (RV.assign rfl) ?_
  refine LW.pure rfl rfl (RV.assign rfl) ?_
  refine LW.nil (hK1 _ _ ?_)
  refine CW.seq fun K2 hK2 => ?_
  refine CW.seq fun K3 hK3 => ?_
  obtain ⟨r1, hr1, F⟩ := bnd_some F
  refine CW.region ?_
  refine LW.pure rfl rfl (RV.loadA [.slice A_a0_supply a0.supply.length c_a0_supply, .slice A_a0_demand a0.demand.length c_a0_demand, .slice A_a0_cost a0.cost.length c_a0_cost] Tk25 rfl (H.blk 0 rfl).cells rfl rfl) ?_
  refine LW.go rfl rfl (OW.call Tc38 rfl (bulk_Validate_ok (a0 := a0) (h_a0_supply.ext R0) (h_a0_demand.ext R0) (h_a0_cost.ext R0) hr1) ?_)
  rintro _ w2 ⟨rfl, E1⟩
  refine ⟨_, rfl, ?_⟩
  replace H := H.grow E1
  replace R0 := H.ext
  refine LW.pure rfl rfl (RV.assign rfl) ?_
  refine LW.nil (hK3 _ _ ?_)
  refine CW.seq fun K4 hK4 => ?_
  refine CW.region ?_
  refine LW.pure rfl rfl (RV.move rfl) ?_
  refine LW.pure rfl rfl (RV.nei rfl rfl) ?_
  refine LW.nil (hK4 _ _ ?_)
  by_cases hp1 : r1 = 0
  ·
    replace F := ite_y hp1 F
    have hq1 := dec_t hp1
    refine CW.condF rfl (not_f hq1) ?_
    refine CW.skip (hK2 _ _ ?_)
    refine CW.seq fun K5 hK5 => ?_
    obtain ⟨r2, hr2, F⟩ := bnd_some F
    refine CW.region ?_
    refine LW.pure rfl rfl (RV.loadA [.slice A_a0_supply a0.supply.length c_a0_supply, .slice A_a0_demand a0.demand.length c_a0_demand, .slice A_a0_cost a0.cost.length c_a0_cost] Tk25 rfl (H.blk 0 rfl).cells rfl rfl) ?_
    refine LW.go rfl rfl (OW.call Tc55 rfl (bulk_best_ok (a0 := a0) (h_a0_supply.ext R0) (h_a0_demand.ext R0) (h_a0_cost.ext R0) hr2) ?_)
    rintro _ w3 ⟨A7_0, c7_0, hs7_0, A7_1, c7_1, rfl, E2⟩
    refine ⟨_, rfl, ?_⟩
    replace H : Hp w w3 [.tab A7_0 c7_0 22 hs7_0 3 1 (encM encN r2.1), .own A7_1 c7_1 3 1 (List.map encN r2.2), .blk b1 25 [.slice A_a0_supply a0.supply.length c_a0_supply, .slice A_a0_demand a0.demand.length c_a0_demand, .slice A_a0_cost a0.cost.length c_a0_cost]] := H.append E2
    replace R0 := H.ext
    refine LW.pure rfl rfl (RV.move rfl) ?_
    refine LW.pure rfl rfl (RV.extract rfl rfl) ?_
    refine LW.pure rfl rfl (RV.extract rfl rfl) ?_
    refine LW.pure rfl rfl (RV.assign rfl) ?_
    refine LW.pure rfl rfl (RV.assign rfl) ?_
    refine LW.nil (hK5 _ _ ?_)
    refine CW.seq fun K6 hK6 => ?_
    obtain ⟨r3, hr3, F⟩ := bnd_some F
    refine CW.region ?_
    refine LW.pure rfl rfl (RV.loadA [.slice A_a0_supply a0.supply.length c_a0_supply, .slice A_a0_demand a0.demand.length c_a0_demand, .slice A_a0_cost a0.cost.length c_a0_cost] Tk25 rfl (H.blk 2 rfl).cells rfl rfl) ?_
    refine LW.pure rfl rfl (RV.move rfl) ?_
    refine LW.go rfl rfl (OW.call Tc56 rfl (bulk_cost_ok (a0 := a0) (a1 := r2.1) (h_a0_supply.ext R0) (h_a0_demand.ext R0) (h_a0_cost.ext R0) (H.tab 0 rfl).sl2 hr3) ?_)
    rintro _ w4 ⟨rfl, E3⟩
    refine ⟨_, rfl, ?_⟩
    replace H := H.grow E3
    replace R0 := H.ext
    refine LW.pure rfl rfl (RV.assign rfl) ?_
    refine LW.pure rfl rfl (RV.assign rfl) ?_
    refine LW.nil (hK6 _ _ ?_)
    refine CW.ret ?_
    obtain rfl := Option.some.inj F
    refine ⟨_, (ResOK.two rfl rfl), ?_⟩
    refine ⟨(by first | rfl | simp), R0⟩
  ·
    replace F := ite_n hp1 F
    have hq1 := dec_f hp1
    refine CW.condT rfl (not_t hq1) ?_
    refine CW.seq fun K7 hK7 => ?_
    refine CW.region ?_
    refine LW.pure rfl rfl (RV.move rfl) ?_
    refine LW.pure rfl rfl (RV.assign rfl) ?_
    refine LW.pure rfl rfl (RV.assign rfl) ?_
    refine LW.nil (hK7 _ _ ?_)
    refine CW.ret ?_
    obtain rfl := Option.some.inj F
    refine ⟨_, (ResOK.two rfl rfl), ?_⟩
    refine ⟨(by first | rfl | simp), R0⟩
end Go.D7
