/- Lemmas and walks that the proof of this claim uses: D7m14, D7m15, Tb22, D7p1, D7p2, D7p3, D7p4, D7p5, D7q1. -/
import Derived.Test.YtmmefcihahcchaaBulkProves4
set_option linter.unusedVariables false
set_option linter.unusedSimpArgs false
namespace Go.D7
open Go.Tb Go.Proofs Go.RowKit
theorem Tc20 : callable Try.prog 20 = true := by kernel_rfl
theorem Tc23 : callable Try.prog 23 = true := by kernel_rfl
set_option maxRecDepth 20000 in
set_option maxHeartbeats 1000000 in
theorem ref07_CheckPrices_ok {a0 : Trade} {a1 : Prices} {A_a0_supply : Option Addr} {c_a0_supply : Nat} {A_a0_demand : Option Addr} {c_a0_demand : Nat} {A_a0_cost : Option Addr} {c_a0_cost : Nat} {A_a1_stores : Option Addr} {c_a1_stores : Nat} {A_a1_buyers : Option Addr} {c_a1_buyers : Nat} {w : World} {res : Int} (h_a0_supply : Sl w A_a0_supply c_a0_supply 1 (a0.supply.map encN)) (h_a0_demand : Sl w A_a0_demand c_a0_demand 1 (a0.demand.map encN)) (h_a0_cost : Sl2 w A_a0_cost c_a0_cost 1 encN a0.cost) (h_a1_stores : Sl w A_a1_stores c_a1_stores 1 (a1.stores.map encN)) (h_a1_buyers : Sl w A_a1_buyers c_a1_buyers 1 (a1.buyers.map encN)) (F : ref07_CheckPrices a0 a1 = some res) : Calls Try.prog 23 #[.agg #[.slice A_a0_supply a0.supply.length c_a0_supply, .slice A_a0_demand a0.demand.length c_a0_demand, .slice A_a0_cost a0.cost.length c_a0_cost], .agg #[.slice A_a1_stores a1.stores.length c_a1_stores, .slice A_a1_buyers a1.buyers.length c_a1_buyers]] w (Rt w (.int .i64 res)) := by
  refine calls_of_cw (args := [.agg #[.slice A_a0_supply a0.supply.length c_a0_supply, .slice A_a0_demand a0.demand.length c_a0_demand, .slice A_a0_cost a0.cost.length c_a0_cost], .agg #[.slice A_a1_stores a1.stores.length c_a1_stores, .slice A_a1_buyers a1.buyers.length c_a1_buyers]]) Try.func23 rfl rfl rfl rfl ?_
  have H := Hp.start w
  have R0 := H.ext
  unfold ref07_CheckPrices at F
  refine CW.seq fun K1 hK1 => ?_
  refine CW.region ?_
  refine LW.go rfl rfl (OW.box rfl fun b1 w1 N1 => ?_)
  replace H := H.new N1 N1.blk
  replace R0 := H.ext
  refine LW.go rfl rfl (OW.box rfl fun b2 w2 N2 => ?_)
  replace H := H.new N2 N2.blk
  replace R0 := H.ext
  refine LW.pure rfl rfl (RV.assign rfl) ?_
  refine LW.nil (hK1 _ _ ?_)
  refine CW.seq fun K2 hK2 => ?_
  obtain ⟨r3, hr3, F⟩ := bnd_some F
  refine CW.region ?_
  refine LW.pure rfl rfl (RV.loadA [.slice A_a0_supply a0.supply.length c_a0_supply, .slice A_a0_demand a0.demand.length c_a0_demand, .slice A_a0_cost a0.cost.length c_a0_cost] Tk25 rfl (H.blk 1 rfl).cells rfl rfl) ?_
  refine LW.go rfl rfl (OW.call Tc39 rfl (ref07_Validate_ok (a0 := a0) (h_a0_supply.ext R0) (h_a0_demand.ext R0) (h_a0_cost.ext R0) hr3) ?_)
  rintro _ w3 ⟨rfl, E1⟩
  refine ⟨_, rfl, ?_⟩
  replace H := H.grow E1
  replace R0 := H.ext
  refine LW.pure rfl rfl (RV.assign rfl) ?_
  refine LW.nil (hK2 _ _ ?_)
  refine CW.seq fun K3 hK3 => ?_
  refine CW.seq fun K4 hK4 => ?_
  refine CW.region ?_
  refine LW.pure rfl rfl (RV.move rfl) ?_
  refine LW.pure rfl rfl (RV.nei rfl rfl) ?_
  refine LW.nil (hK4 _ _ ?_)
  by_cases hp1 : r3 = 0
  ·
    replace F := ite_y hp1 F
    have hq1 := dec_t hp1
    refine CW.condF rfl (not_f hq1) ?_
    refine CW.skip (hK3 _ _ ?_)
    refine CW.seq fun K5 hK5 => ?_
    refine CW.seqJ (fun ρ wl1 => (∃ (t30_1 : Bool), ref07_CheckPrices_k5 a0 a1 t30_1 = some res ∧ ρ = [(2, .pointer (some (⟨b1, 0, none⟩))), (3, .pointer (some (⟨b2, 0, none⟩))), (4, .int .i64 0), (30, .bool t30_1)] ∧ Hp w wl1 [.blk b1 25 [.slice A_a0_supply a0.supply.length c_a0_supply, .slice A_a0_demand a0.demand.length c_a0_demand, .slice A_a0_cost a0.cost.length c_a0_cost], .blk b2 27 [.slice A_a1_stores a1.stores.length c_a1_stores, .slice A_a1_buyers a1.buyers.length c_a1_buyers]])) ?_ ?_
    ·
      rintro _ wl1 ⟨t30_1, F, rfl, H⟩
      have R0 := H.ext
      unfold ref07_CheckPrices_k5 at F
      by_cases hp2 : t30_1 = true
      ·
        replace F := ite_y hp2 F
        have hq2 : t30_1 = true := hp2
        refine CW.condT rfl hq2 ?_
        refine CW.seq fun K6 hK6 => ?_
        refine CW.region ?_
        refine LW.pure rfl rfl (RV.assign rfl) ?_
        refine LW.nil (hK6 _ _ ?_)
        refine CW.ret ?_
        obtain rfl := Option.some.inj F
        refine ⟨_, (ResOK.one rfl), ?_⟩
        refine ⟨(by first | rfl | simp), R0⟩
      ·
        replace F := ite_n hp2 F
        have hq2 : t30_1 = false := raw_f hp2
        refine CW.condF rfl hq2 ?_
        refine CW.skip (hK5 _ _ ?_)
        refine CW.seqJ (fun ρ wl2 => (ref07_CheckPrices_k4 a0 a1 = some res ∧ ρ = [(2, .pointer (some (⟨b1, 0, none⟩))), (3, .pointer (some (⟨b2, 0, none⟩))), (4, .int .i64 0)] ∧ Hp w wl2 [.blk b1 25 [.slice A_a0_supply a0.supply.length c_a0_supply, .slice A_a0_demand a0.demand.length c_a0_demand, .slice A_a0_cost a0.cost.length c_a0_cost], .blk b2 27 [.slice A_a1_stores a1.stores.length c_a1_stores, .slice A_a1_buyers a1.buyers.length c_a1_buyers]])) ?_ ?_
        ·
          rintro _ wl2 ⟨F, rfl, H⟩
          have R0 := H.ext
          unfold ref07_CheckPrices_k4 at F
          refine CW.seqJ (fun ρ wl3 => (ref07_CheckPrices_k3 a0 a1 = some res ∧ ρ = [(2, .pointer (some (⟨b1, 0, none⟩))), (3, .pointer (some (⟨b2, 0, none⟩))), (4, .int .i64 0)] ∧ Hp w wl3 [.blk b1 25 [.slice A_a0_supply a0.supply.length c_a0_supply, .slice A_a0_demand a0.demand.length c_a0_demand, .slice A_a0_cost a0.cost.length c_a0_cost], .blk b2 27 [.slice A_a1_stores a1.stores.length c_a1_stores, .slice A_a1_buyers a1.buyers.length c_a1_buyers]])) ?_ ?_
          ·
            rintro _ wl3 ⟨F, rfl, H⟩
            have R0 := H.ext
            unfold ref07_CheckPrices_k3 at F
            refine CW.seqJ (fun ρ wl4 => (ref07_CheckPrices_k1 = some res ∧ ρ = [(4, .int .i64 0)] ∧ Hp w wl4 [])) ?_ ?_
            ·
              rintro _ wl4 ⟨F, rfl, H⟩
              have R0 := H.ext
              unfold ref07_CheckPrices_k1 at F
              refine CW.seq fun K7 hK7 => ?_
              refine CW.region ?_
              refine LW.pure rfl rfl (RV.assign rfl) ?_
              refine LW.nil (hK7 _ _ ?_)
              refine CW.ret ?_
              obtain rfl := Option.some.inj F
              refine ⟨_, (ResOK.one rfl), ?_⟩
              refine ⟨(by first | rfl | simp), R0⟩
            ·
              intro K8 hK8 jK434
              refine CW.seq fun K9 hK9 => ?_
              refine CW.region ?_
              refine LW.pure rfl rfl (RV.assign rfl) ?_
              refine LW.nil (hK9 _ _ ?_)
              refine CW.block ?_
              refine CW.loop (fun meas ρ wl5 => ∃ (t8_1 : Int), ref07_CheckPrices_L2 a0 a1 meas t8_1 = some res ∧ ρ = [(2, .pointer (some (⟨b1, 0, none⟩))), (3, .pointer (some (⟨b2, 0, none⟩))), (4, .int .i64 0), (8, .int .i64 t8_1)] ∧ Hp w wl5 [.blk b1 25 [.slice A_a0_supply a0.supply.length c_a0_supply, .slice A_a0_demand a0.demand.length c_a0_demand, .slice A_a0_cost a0.cost.length c_a0_cost], .blk b2 27 [.slice A_a1_stores a1.stores.length c_a1_stores, .slice A_a1_buyers a1.buyers.length c_a1_buyers]]) FU ⟨_, ?_, ((0 : Int)), F, rfl, H⟩ ?_
              · exact ⟨rfl, rfl, rfl, rfl, trivial⟩
              rintro mk1 _ wl5 ⟨t8_1, F, rfl, H⟩
              have R0 := H.ext
              replace F := ref07_CheckPrices_L2_s F
              obtain ⟨mk1, rfl, F⟩ := F
              generalize hrec1 : ref07_CheckPrices_L2 a0 a1 mk1 = rec1 at F
              unfold ref07_CheckPrices_B2 at F
              refine CW.seq fun K10 hK10 => ?_
              refine CW.seq fun K11 hK11 => ?_
              refine CW.region ?_
              refine LW.pure rfl rfl (RV.move rfl) ?_
              refine LW.pure rfl rfl (RV.fieldAddr Tf27_0 rfl) ?_
              refine LW.pure rfl rfl (RV.load1 Tk22 rfl ((H.blk 1 rfl).cells.off 0) rfl) ?_
              refine LW.pure rfl rfl (RV.len Ts22 rfl) ?_
              refine LW.pure rfl rfl (RV.lss rfl rfl) ?_
              refine LW.nil (hK11 _ _ ?_)
              by_cases hp3 : t8_1 < ((a1.stores.length : Int))
              ·
                replace F := ite_y hp3 F
                have hq3 := dec_t hp3
                refine CW.condT rfl hq3 ?_
                refine CW.skip (hK10 _ _ ?_)
                refine CW.seqJ (fun ρ wl6 => (ref07_CheckPrices_k2 t8_1 rec1 = some res ∧ ρ = [(2, .pointer (some (⟨b1, 0, none⟩))), (3, .pointer (some (⟨b2, 0, none⟩))), (4, .int .i64 0), (8, .int .i64 t8_1)] ∧ Hp w wl6 [.blk b1 25 [.slice A_a0_supply a0.supply.length c_a0_supply, .slice A_a0_demand a0.demand.length c_a0_demand, .slice A_a0_cost a0.cost.length c_a0_cost], .blk b2 27 [.slice A_a1_stores a1.stores.length c_a1_stores, .slice A_a1_buyers a1.buyers.length c_a1_buyers]])) ?_ ?_
                ·
                  rintro _ wl6 ⟨F, rfl, H⟩
                  have R0 := H.ext
                  unfold ref07_CheckPrices_k2 at F
                  obtain ⟨hg1, F⟩ := gd_some F
                  refine CW.region ?_
                  refine LW.pure rfl rfl (RV.move rfl) ?_
                  refine LW.pure rfl rfl (RV.add rfl rfl hg1) ?_
                  refine LW.pure rfl rfl (RV.assign rfl) ?_
                  refine LW.nil ?_
                  subst hrec1
                  refine ⟨mk1, Nat.lt_succ_self _, _, ?_, (t8_1 + 1), F, rfl, H⟩
                  exact ⟨rfl, rfl, rfl, rfl, trivial⟩
                ·
                  intro K12 hK12 jK524
                  refine CW.block ?_
                  refine CW.seq fun K13 hK13 => ?_
                  refine CW.region ?_
                  refine LW.pure rfl rfl (RV.assign rfl) ?_
                  refine LW.nil (hK13 _ _ ?_)
                  refine CW.block ?_
                  refine CW.loop (fun meas ρ wl7 => ∃ (t9_1 : Int), ref07_CheckPrices_L1 a0 a1 t8_1 rec1 meas t9_1 = some res ∧ ρ = [(2, .pointer (some (⟨b1, 0, none⟩))), (3, .pointer (some (⟨b2, 0, none⟩))), (4, .int .i64 0), (8, .int .i64 t8_1), (9, .int .i64 t9_1)] ∧ Hp w wl7 [.blk b1 25 [.slice A_a0_supply a0.supply.length c_a0_supply, .slice A_a0_demand a0.demand.length c_a0_demand, .slice A_a0_cost a0.cost.length c_a0_cost], .blk b2 27 [.slice A_a1_stores a1.stores.length c_a1_stores, .slice A_a1_buyers a1.buyers.length c_a1_buyers]]) FU ⟨_, ?_, ((0 : Int)), F, rfl, H⟩ ?_
                  · exact ⟨rfl, rfl, rfl, rfl, rfl, trivial⟩
                  rintro mk2 _ wl7 ⟨t9_1, F, rfl, H⟩
                  have R0 := H.ext
                  replace F := ref07_CheckPrices_L1_s F
                  obtain ⟨mk2, rfl, F⟩ := F
                  generalize hrec2 : ref07_CheckPrices_L1 a0 a1 t8_1 rec1 mk2 = rec2 at F
                  unfold ref07_CheckPrices_B1 at F
                  refine CW.seq fun K14 hK14 => ?_
                  refine CW.seq fun K15 hK15 => ?_
                  refine CW.region ?_
                  refine LW.pure rfl rfl (RV.move rfl) ?_
                  refine LW.pure rfl rfl (RV.fieldAddr Tf27_1 rfl) ?_
                  refine LW.pure rfl rfl (RV.load1 Tk22 rfl ((H.blk 1 rfl).cells.off 1) rfl) ?_
                  refine LW.pure rfl rfl (RV.len Ts22 rfl) ?_
                  refine LW.pure rfl rfl (RV.lss rfl rfl) ?_
                  refine LW.nil (hK15 _ _ ?_)
                  by_cases hp4 : t9_1 < ((a1.buyers.length : Int))
                  ·
                    replace F := ite_y hp4 F
                    have hq4 := dec_t hp4
                    refine CW.condT rfl hq4 ?_
                    refine CW.skip (hK14 _ _ ?_)
                    refine CW.seq fun K16 hK16 => ?_
                    refine CW.block ?_
                    refine CW.seq fun K17 hK17 => ?_
                    obtain ⟨x1, hbx1, hx1, F⟩ := ix_some F
                    obtain ⟨x2, hbx2, hx2, F⟩ := ix_some F
                    obtain ⟨hg2, F⟩ := gd_some F
                    obtain ⟨x3, hbx3, hx3, F⟩ := ix_some F
                    obtain ⟨x4, hbx4, hx4, F⟩ := ix_some F
                    refine CW.draw [] (fun _ => True) (.cons 0 1 (.cons 1 1 (.cons 2 1 (.cons 3 1 (.cons 4 1 (.cons 5 1 (.cons 6 1 (.cons 7 1 (.cons 8 1 (.cons 9 1 (.cons 10 1 (.cons 11 1 (.cons 12 1 (.cons 13 1 (.cons 14 1 (.cons 15 1 (.cons 16 1 (.cons 17 1 (.cons 18 1 (.cons 19 1 .nil)))))))))))))))))))) mixed (by kernel_rfl) fun w4 E2 => ?_
                    replace H := H.grow E2
                    replace R0 := H.ext
                    refine DW.fix rfl rfl rfl (fun _ EQ => RV.fieldAddr Tf27_0 rfl) ?_
                    refine DW.fix rfl rfl rfl (fun _ EQ => RV.load1 Tk22 rfl (((H.grow EQ).blk 1 rfl).cells.off 0) rfl) ?_
                    refine DW.fix rfl rfl rfl (fun _ EQ => RV.move rfl) ?_
                    refine DW.fix rfl rfl rfl (fun _ EQ => RV.indexAddr Ts22 rfl rfl hbx1 (h_a1_stores.addr_ hx1)) ?_
                    refine DW.fix rfl rfl rfl (fun _ EQ => RV.load1 Tk3 rfl ((h_a1_stores.at_ hx1).ext (R0.trans EQ)) rfl) ?_
                    refine DW.fix rfl rfl rfl (fun _ EQ => RV.fieldAddr Tf27_1 rfl) ?_
                    refine DW.fix rfl rfl rfl (fun _ EQ => RV.load1 Tk22 rfl (((H.grow EQ).blk 1 rfl).cells.off 1) rfl) ?_
                    refine DW.fix rfl rfl rfl (fun _ EQ => RV.move rfl) ?_
                    refine DW.fix rfl rfl rfl (fun _ EQ => RV.indexAddr Ts22 rfl rfl hbx2 (h_a1_buyers.addr_ hx2)) ?_
                    refine DW.fix rfl rfl rfl (fun _ EQ => RV.load1 Tk3 rfl ((h_a1_buyers.at_ hx2).ext (R0.trans EQ)) rfl) ?_
                    refine DW.fix rfl rfl rfl (fun _ EQ => RV.add rfl rfl hg2) ?_
                    refine DW.fix rfl rfl rfl (fun _ EQ => RV.fieldAddr Tf25_2 rfl) ?_
                    refine DW.fix rfl rfl rfl (fun _ EQ => RV.load1 Tk23 rfl (((H.grow EQ).blk 0 rfl).cells.off 2) rfl) ?_
                    refine DW.fix rfl rfl rfl (fun _ EQ => RV.move rfl) ?_
                    obtain ⟨A1, c1, hC1, hS1⟩ := h_a0_cost.at_ hx3
                    refine DW.fix rfl rfl rfl (fun _ EQ => RV.indexAddr Ts23 rfl rfl hbx3 (h_a0_cost.addr hbx3)) ?_
                    refine DW.fix rfl rfl rfl (fun _ EQ => RV.load1 Tk22 rfl (hC1.ext (R0.trans EQ)) rfl) ?_
                    refine DW.fix rfl rfl rfl (fun _ EQ => RV.move rfl) ?_
                    refine DW.fix rfl rfl rfl (fun _ EQ => RV.indexAddr Ts22 rfl rfl hbx4 (hS1.addr_ hx4)) ?_
                    refine DW.fix rfl rfl rfl (fun _ EQ => RV.load1 Tk3 rfl ((hS1.at_ hx4).ext (R0.trans EQ)) rfl) ?_
                    refine DW.fix rfl rfl rfl (fun _ EQ => RV.gtr rfl rfl) ?_
                    refine DW.nil (hK17 _ _ ?_)
                    by_cases hp5 : x4 < (x1 + x2)
                    ·
                      replace F := ite_y hp5 F
                      have hq5 := dec_t hp5
                      refine CW.condT rfl hq5 ?_
                      refine CW.seq fun K18 hK18 => ?_
                      refine CW.region ?_
                      refine LW.pure rfl rfl (RV.assign rfl) ?_
                      refine LW.nil (hK18 _ _ ?_)
                      refine CW.ret ?_
                      obtain rfl := Option.some.inj F
                      refine ⟨_, (ResOK.one rfl), ?_⟩
                      refine ⟨(by first | rfl | simp), R0⟩
                    ·
                      replace F := ite_n hp5 F
                      have hq5 := dec_f hp5
                      refine CW.condF rfl hq5 ?_
                      refine CW.skip (hK16 _ _ ?_)
                      obtain ⟨hg3, F⟩ := gd_some F
                      refine CW.region ?_
                      refine LW.pure rfl rfl (RV.move rfl) ?_
                      refine LW.pure rfl rfl (RV.add rfl rfl hg3) ?_
                      refine LW.pure rfl rfl (RV.assign rfl) ?_
                      refine LW.nil ?_
                      subst hrec2
                      refine ⟨mk2, Nat.lt_succ_self _, _, ?_, (t9_1 + 1), F, rfl, H⟩
                      exact ⟨rfl, rfl, rfl, rfl, rfl, trivial⟩
                  ·
                    replace F := ite_n hp4 F
                    have hq4 := dec_f hp4
                    refine CW.condF rfl hq4 ?_
                    refine CW.exit (jK524 _ _ ⟨_, ?_, ⟨F, rfl, H⟩⟩)
                    exact ⟨rfl, rfl, rfl, rfl, trivial⟩
              ·
                replace F := ite_n hp3 F
                have hq3 := dec_f hp3
                refine CW.condF rfl hq3 ?_
                replace H := H.pick (L' := []) [] (by decide) rfl
                replace R0 := H.ext
                refine CW.exit (jK434 _ _ ⟨_, ?_, ⟨F, rfl, H⟩⟩)
                exact ⟨rfl, trivial⟩
          ·
            intro K19 hK19 jK541
            refine CW.seq fun K20 hK20 => ?_
            refine CW.region ?_
            refine LW.pure rfl rfl (RV.assign rfl) ?_
            refine LW.nil (hK20 _ _ ?_)
            refine CW.block ?_
            refine CW.loop (fun meas ρ wl8 => ∃ (t7_1 : Int), ref07_CheckPrices_L3 a0 a1 meas t7_1 = some res ∧ ρ = [(2, .pointer (some (⟨b1, 0, none⟩))), (3, .pointer (some (⟨b2, 0, none⟩))), (4, .int .i64 0), (7, .int .i64 t7_1)] ∧ Hp w wl8 [.blk b1 25 [.slice A_a0_supply a0.supply.length c_a0_supply, .slice A_a0_demand a0.demand.length c_a0_demand, .slice A_a0_cost a0.cost.length c_a0_cost], .blk b2 27 [.slice A_a1_stores a1.stores.length c_a1_stores, .slice A_a1_buyers a1.buyers.length c_a1_buyers]]) FU ⟨_, ?_, ((0 : Int)), F, rfl, H⟩ ?_
            · exact ⟨rfl, rfl, rfl, rfl, trivial⟩
            rintro mk3 _ wl8 ⟨t7_1, F, rfl, H⟩
            have R0 := H.ext
            replace F := ref07_CheckPrices_L3_s F
            obtain ⟨mk3, rfl, F⟩ := F
            generalize hrec3 : ref07_CheckPrices_L3 a0 a1 mk3 = rec3 at F
            unfold ref07_CheckPrices_B3 at F
            refine CW.seq fun K21 hK21 => ?_
            refine CW.seq fun K22 hK22 => ?_
            refine CW.region ?_
            refine LW.pure rfl rfl (RV.move rfl) ?_
            refine LW.pure rfl rfl (RV.fieldAddr Tf27_1 rfl) ?_
            refine LW.pure rfl rfl (RV.load1 Tk22 rfl ((H.blk 1 rfl).cells.off 1) rfl) ?_
            refine LW.pure rfl rfl (RV.len Ts22 rfl) ?_
            refine LW.pure rfl rfl (RV.lss rfl rfl) ?_
            refine LW.nil (hK22 _ _ ?_)
            by_cases hp6 : t7_1 < ((a1.buyers.length : Int))
            ·
              replace F := ite_y hp6 F
              have hq6 := dec_t hp6
              refine CW.condT rfl hq6 ?_
              refine CW.skip (hK21 _ _ ?_)
              refine CW.seq fun K23 hK23 => ?_
              refine CW.block ?_
              refine CW.seq fun K24 hK24 => ?_
              obtain ⟨x5, hbx5, hx5, F⟩ := ix_some F
              obtain ⟨r1, hr1, F⟩ := bnd_some F
              refine CW.region ?_
              refine LW.pure rfl rfl (RV.fieldAddr Tf27_1 rfl) ?_
              refine LW.pure rfl rfl (RV.load1 Tk22 rfl ((H.blk 1 rfl).cells.off 1) rfl) ?_
              refine LW.pure rfl rfl (RV.move rfl) ?_
              refine LW.pure rfl rfl (RV.indexAddr Ts22 rfl rfl hbx5 (h_a1_buyers.addr_ hx5)) ?_
              refine LW.pure rfl rfl (RV.load1 Tk3 rfl ((h_a1_buyers.at_ hx5).ext R0) rfl) ?_
              refine LW.go rfl rfl (OW.call Tc58 rfl (ref07_within_ok (a0 := x5) (a1 := (-1000 : Int)) (a2 := (1000 : Int)) hr1) ?_)
              rintro _ w5 ⟨rfl, E3⟩
              refine ⟨_, rfl, ?_⟩
              replace H := H.grow E3
              replace R0 := H.ext
              refine LW.pure rfl rfl (RV.not rfl) ?_
              refine LW.nil (hK24 _ _ ?_)
              by_cases hp7 : r1 = true
              ·
                replace F := ite_y hp7 F
                have hq7 : r1 = true := hp7
                refine CW.condF rfl (not_f hq7) ?_
                refine CW.skip (hK23 _ _ ?_)
                obtain ⟨hg4, F⟩ := gd_some F
                refine CW.region ?_
                refine LW.pure rfl rfl (RV.move rfl) ?_
                refine LW.pure rfl rfl (RV.add rfl rfl hg4) ?_
                refine LW.pure rfl rfl (RV.assign rfl) ?_
                refine LW.nil ?_
                subst hrec3
                refine ⟨mk3, Nat.lt_succ_self _, _, ?_, (t7_1 + 1), F, rfl, H⟩
                exact ⟨rfl, rfl, rfl, rfl, trivial⟩
              ·
                replace F := ite_n hp7 F
                have hq7 : r1 = false := raw_f hp7
                refine CW.condT rfl (not_t hq7) ?_
                refine CW.seq fun K25 hK25 => ?_
                refine CW.region ?_
                refine LW.pure rfl rfl (RV.assign rfl) ?_
                refine LW.nil (hK25 _ _ ?_)
                refine CW.ret ?_
                obtain rfl := Option.some.inj F
                refine ⟨_, (ResOK.one rfl), ?_⟩
                refine ⟨(by first | rfl | simp), R0⟩
            ·
              replace F := ite_n hp6 F
              have hq6 := dec_f hp6
              refine CW.condF rfl hq6 ?_
              refine CW.exit (jK541 _ _ ⟨_, ?_, ⟨F, rfl, H⟩⟩)
              exact ⟨rfl, rfl, rfl, trivial⟩
        ·
          intro K26 hK26 jK558
          refine CW.seq fun K27 hK27 => ?_
          refine CW.region ?_
          refine LW.pure rfl rfl (RV.assign rfl) ?_
          refine LW.nil (hK27 _ _ ?_)
          refine CW.block ?_
          refine CW.loop (fun meas ρ wl9 => ∃ (t6_1 : Int), ref07_CheckPrices_L4 a0 a1 meas t6_1 = some res ∧ ρ = [(2, .pointer (some (⟨b1, 0, none⟩))), (3, .pointer (some (⟨b2, 0, none⟩))), (4, .int .i64 0), (6, .int .i64 t6_1)] ∧ Hp w wl9 [.blk b1 25 [.slice A_a0_supply a0.supply.length c_a0_supply, .slice A_a0_demand a0.demand.length c_a0_demand, .slice A_a0_cost a0.cost.length c_a0_cost], .blk b2 27 [.slice A_a1_stores a1.stores.length c_a1_stores, .slice A_a1_buyers a1.buyers.length c_a1_buyers]]) FU ⟨_, ?_, ((0 : Int)), F, rfl, H⟩ ?_
          · exact ⟨rfl, rfl, rfl, rfl, trivial⟩
          rintro mk4 _ wl9 ⟨t6_1, F, rfl, H⟩
          have R0 := H.ext
          replace F := ref07_CheckPrices_L4_s F
          obtain ⟨mk4, rfl, F⟩ := F
          generalize hrec4 : ref07_CheckPrices_L4 a0 a1 mk4 = rec4 at F
          unfold ref07_CheckPrices_B4 at F
          refine CW.seq fun K28 hK28 => ?_
          refine CW.seq fun K29 hK29 => ?_
          refine CW.region ?_
          refine LW.pure rfl rfl (RV.move rfl) ?_
          refine LW.pure rfl rfl (RV.fieldAddr Tf27_0 rfl) ?_
          refine LW.pure rfl rfl (RV.load1 Tk22 rfl ((H.blk 1 rfl).cells.off 0) rfl) ?_
          refine LW.pure rfl rfl (RV.len Ts22 rfl) ?_
          refine LW.pure rfl rfl (RV.lss rfl rfl) ?_
          refine LW.nil (hK29 _ _ ?_)
          by_cases hp8 : t6_1 < ((a1.stores.length : Int))
          ·
            replace F := ite_y hp8 F
            have hq8 := dec_t hp8
            refine CW.condT rfl hq8 ?_
            refine CW.skip (hK28 _ _ ?_)
            refine CW.seq fun K30 hK30 => ?_
            refine CW.block ?_
            refine CW.seq fun K31 hK31 => ?_
            obtain ⟨x6, hbx6, hx6, F⟩ := ix_some F
            obtain ⟨r2, hr2, F⟩ := bnd_some F
            refine CW.region ?_
            refine LW.pure rfl rfl (RV.fieldAddr Tf27_0 rfl) ?_
            refine LW.pure rfl rfl (RV.load1 Tk22 rfl ((H.blk 1 rfl).cells.off 0) rfl) ?_
            refine LW.pure rfl rfl (RV.move rfl) ?_
            refine LW.pure rfl rfl (RV.indexAddr Ts22 rfl rfl hbx6 (h_a1_stores.addr_ hx6)) ?_
            refine LW.pure rfl rfl (RV.load1 Tk3 rfl ((h_a1_stores.at_ hx6).ext R0) rfl) ?_
            refine LW.go rfl rfl (OW.call Tc58 rfl (ref07_within_ok (a0 := x6) (a1 := (-1000 : Int)) (a2 := (1000 : Int)) hr2) ?_)
            rintro _ w6 ⟨rfl, E4⟩
            refine ⟨_, rfl, ?_⟩
            replace H := H.grow E4
            replace R0 := H.ext
            refine LW.pure rfl rfl (RV.not rfl) ?_
            refine LW.nil (hK31 _ _ ?_)
            by_cases hp9 : r2 = true
            ·
              replace F := ite_y hp9 F
              have hq9 : r2 = true := hp9
              refine CW.condF rfl (not_f hq9) ?_
              refine CW.skip (hK30 _ _ ?_)
              obtain ⟨hg5, F⟩ := gd_some F
              refine CW.region ?_
              refine LW.pure rfl rfl (RV.move rfl) ?_
              refine LW.pure rfl rfl (RV.add rfl rfl hg5) ?_
              refine LW.pure rfl rfl (RV.assign rfl) ?_
              refine LW.nil ?_
              subst hrec4
              refine ⟨mk4, Nat.lt_succ_self _, _, ?_, (t6_1 + 1), F, rfl, H⟩
              exact ⟨rfl, rfl, rfl, rfl, trivial⟩
            ·
              replace F := ite_n hp9 F
              have hq9 : r2 = false := raw_f hp9
              refine CW.condT rfl (not_t hq9) ?_
              refine CW.seq fun K32 hK32 => ?_
              refine CW.region ?_
              refine LW.pure rfl rfl (RV.assign rfl) ?_
              refine LW.nil (hK32 _ _ ?_)
              refine CW.ret ?_
              obtain rfl := Option.some.inj F
              refine ⟨_, (ResOK.one rfl), ?_⟩
              refine ⟨(by first | rfl | simp), R0⟩
          ·
            replace F := ite_n hp8 F
            have hq8 := dec_f hp8
            refine CW.condF rfl hq8 ?_
            refine CW.exit (jK558 _ _ ⟨_, ?_, ⟨F, rfl, H⟩⟩)
            exact ⟨rfl, rfl, rfl, trivial⟩
    ·
      intro K33 hK33 jK575
      by_cases hp10 : ((a1.stores.length : Int)) = ((a0.supply.length : Int))
      ·
        replace F := ite_y hp10 F
        have hq10 := dec_t hp10
        refine CW.region ?_
        refine LW.pure rfl rfl (RV.fieldAddr Tf27_0 rfl) ?_
        refine LW.pure rfl rfl (RV.load1 Tk22 rfl ((H.blk 0 rfl).cells.off 0) rfl) ?_
        refine LW.pure rfl rfl (RV.len Ts22 rfl) ?_
        refine LW.pure rfl rfl (RV.fieldAddr Tf25_0 rfl) ?_
        refine LW.pure rfl rfl (RV.load1 Tk22 rfl ((H.blk 1 rfl).cells.off 0) rfl) ?_
        refine LW.pure rfl rfl (RV.len Ts22 rfl) ?_
        refine LW.pure rfl rfl (RV.nei rfl rfl) ?_
        refine LW.pure rfl rfl (RV.move rfl) ?_
        refine LW.pureYB rfl rfl rfl rfl (not_f hq10) (RV.fieldAddr Tf27_1 rfl) ?_
        refine LW.pureYB rfl rfl rfl rfl (not_f hq10) (RV.load1 Tk22 rfl ((H.blk 0 rfl).cells.off 1) rfl) ?_
        refine LW.pureYB rfl rfl rfl rfl (not_f hq10) (RV.len Ts22 rfl) ?_
        refine LW.pureYB rfl rfl rfl rfl (not_f hq10) (RV.fieldAddr Tf25_1 rfl) ?_
        refine LW.pureYB rfl rfl rfl rfl (not_f hq10) (RV.load1 Tk22 rfl ((H.blk 1 rfl).cells.off 1) rfl) ?_
        refine LW.pureYB rfl rfl rfl rfl (not_f hq10) (RV.len Ts22 rfl) ?_
        refine LW.pureYB rfl rfl rfl rfl (not_f hq10) (RV.nei rfl rfl) ?_
        refine LW.pure rfl rfl (RV.pickFB rfl (not_f hq10) rfl) ?_
        replace H := H.pick (L' := [.blk b1 25 [.slice A_a0_supply a0.supply.length c_a0_supply, .slice A_a0_demand a0.demand.length c_a0_demand, .slice A_a0_cost a0.cost.length c_a0_cost], .blk b2 27 [.slice A_a1_stores a1.stores.length c_a1_stores, .slice A_a1_buyers a1.buyers.length c_a1_buyers]]) [1, 0] (by decide) rfl
        replace R0 := H.ext
        refine LW.nil (jK575 _ _ ⟨_, ?_, ⟨(!(decide (((a1.buyers.length : Int)) = ((a0.demand.length : Int))))), F, rfl, H⟩⟩)
        exact ⟨rfl, rfl, rfl, rfl, trivial⟩
      ·
        replace F := ite_n hp10 F
        have hq10 := dec_f hp10
        refine CW.region ?_
        refine LW.pure rfl rfl (RV.fieldAddr Tf27_0 rfl) ?_
        refine LW.pure rfl rfl (RV.load1 Tk22 rfl ((H.blk 0 rfl).cells.off 0) rfl) ?_
        refine LW.pure rfl rfl (RV.len Ts22 rfl) ?_
        refine LW.pure rfl rfl (RV.fieldAddr Tf25_0 rfl) ?_
        refine LW.pure rfl rfl (RV.load1 Tk22 rfl ((H.blk 1 rfl).cells.off 0) rfl) ?_
        refine LW.pure rfl rfl (RV.len Ts22 rfl) ?_
        refine LW.pure rfl rfl (RV.nei rfl rfl) ?_
        refine LW.pure rfl rfl (RV.move rfl) ?_
        refine LW.noB rfl rfl rfl rfl (ne_beq (v := true) (not_t hq10) rfl) ?_
        refine LW.noB rfl rfl rfl rfl (ne_beq (v := true) (not_t hq10) rfl) ?_
        refine LW.noB rfl rfl rfl rfl (ne_beq (v := true) (not_t hq10) rfl) ?_
        refine LW.noB rfl rfl rfl rfl (ne_beq (v := true) (not_t hq10) rfl) ?_
        refine LW.noB rfl rfl rfl rfl (ne_beq (v := true) (not_t hq10) rfl) ?_
        refine LW.noB rfl rfl rfl rfl (ne_beq (v := true) (not_t hq10) rfl) ?_
        refine LW.noB rfl rfl rfl rfl (ne_beq (v := true) (not_t hq10) rfl) ?_
        refine LW.pure rfl rfl (RV.pickTB rfl (not_t hq10) rfl) ?_
        replace H := H.pick (L' := [.blk b1 25 [.slice A_a0_supply a0.supply.length c_a0_supply, .slice A_a0_demand a0.demand.length c_a0_demand, .slice A_a0_cost a0.cost.length c_a0_cost], .blk b2 27 [.slice A_a1_stores a1.stores.length c_a1_stores, .slice A_a1_buyers a1.buyers.length c_a1_buyers]]) [1, 0] (by decide) rfl
        replace R0 := H.ext
        refine LW.nil (jK575 _ _ ⟨_, ?_, ⟨true, F, rfl, H⟩⟩)
        exact ⟨rfl, rfl, rfl, rfl, trivial⟩
  ·
    replace F := ite_n hp1 F
    have hq1 := dec_f hp1
    refine CW.condT rfl (not_t hq1) ?_
    refine CW.seq fun K34 hK34 => ?_
    refine CW.region ?_
    refine LW.pure rfl rfl (RV.move rfl) ?_
    refine LW.pure rfl rfl (RV.assign rfl) ?_
    refine LW.nil (hK34 _ _ ?_)
    refine CW.ret ?_
    obtain rfl := Option.some.inj F
    refine ⟨_, (ResOK.one rfl), ?_⟩
    refine ⟨(by first | rfl | simp), R0⟩
set_option maxRecDepth 20000 in
set_option maxHeartbeats 1000000 in
theorem ref07_Worth_ok {a0 : Trade} {a1 : Prices} {A_a0_supply : Option Addr} {c_a0_supply : Nat} {A_a0_demand : Option Addr} {c_a0_demand : Nat} {A_a0_cost : Option Addr} {c_a0_cost : Nat} {A_a1_stores : Option Addr} {c_a1_stores : Nat} {A_a1_buyers : Option Addr} {c_a1_buyers : Nat} {w : World} {res : Int × Int} (h_a0_supply : Sl w A_a0_supply c_a0_supply 1 (a0.supply.map encN)) (h_a0_demand : Sl w A_a0_demand c_a0_demand 1 (a0.demand.map encN)) (h_a0_cost : Sl2 w A_a0_cost c_a0_cost 1 encN a0.cost) (h_a1_stores : Sl w A_a1_stores c_a1_stores 1 (a1.stores.map encN)) (h_a1_buyers : Sl w A_a1_buyers c_a1_buyers 1 (a1.buyers.map encN)) (F : ref07_Worth a0 a1 = some res) : Calls Try.prog 20 #[.agg #[.slice A_a0_supply a0.supply.length c_a0_supply, .slice A_a0_demand a0.demand.length c_a0_demand, .slice A_a0_cost a0.cost.length c_a0_cost], .agg #[.slice A_a1_stores a1.stores.length c_a1_stores, .slice A_a1_buyers a1.buyers.length c_a1_buyers]] w (Rt w (.tuple #[.int .i64 res.1, .int .i64 res.2])) := by
  refine calls_of_cw (args := [.agg #[.slice A_a0_supply a0.supply.length c_a0_supply, .slice A_a0_demand a0.demand.length c_a0_demand, .slice A_a0_cost a0.cost.length c_a0_cost], .agg #[.slice A_a1_stores a1.stores.length c_a1_stores, .slice A_a1_buyers a1.buyers.length c_a1_buyers]]) Try.func20 rfl rfl rfl rfl ?_
  have H := Hp.start w
  have R0 := H.ext
  unfold ref07_Worth at F
  refine CW.seq fun K1 hK1 => ?_
  refine CW.region ?_
  refine LW.go rfl rfl (OW.box rfl fun b1 w1 N1 => ?_)
  replace H := H.new N1 N1.blk
  replace R0 := H.ext
  refine LW.go rfl rfl (OW.box rfl fun b2 w2 N2 => ?_)
  replace H := H.new N2 N2.blk
  replace R0 := H.ext
  refine LW.pure rfl rfl (RV.assign rfl) ?_
  refine LW.pure rfl rfl (RV.assign rfl) ?_
  refine LW.nil (hK1 _ _ ?_)
  refine CW.seq fun K2 hK2 => ?_
  obtain ⟨r1, hr1, F⟩ := bnd_some F
  refine CW.region ?_
  refine LW.pure rfl rfl (RV.loadA [.slice A_a0_supply a0.supply.length c_a0_supply, .slice A_a0_demand a0.demand.length c_a0_demand, .slice A_a0_cost a0.cost.length c_a0_cost] Tk25 rfl (H.blk 1 rfl).cells rfl rfl) ?_
  refine LW.pure rfl rfl (RV.loadA [.slice A_a1_stores a1.stores.length c_a1_stores, .slice A_a1_buyers a1.buyers.length c_a1_buyers] Tk27 rfl (H.blk 0 rfl).cells rfl rfl) ?_
  refine LW.go rfl rfl (OW.call Tc23 rfl (ref07_CheckPrices_ok (a0 := a0) (a1 := a1) (h_a0_supply.ext R0) (h_a0_demand.ext R0) (h_a0_cost.ext R0) (h_a1_stores.ext R0) (h_a1_buyers.ext R0) hr1) ?_)
  rintro _ w3 ⟨rfl, E1⟩
  refine ⟨_, rfl, ?_⟩
  replace H := H.grow E1
  replace R0 := H.ext
  refine LW.pure rfl rfl (RV.assign rfl) ?_
  refine LW.nil (hK2 _ _ ?_)
  refine CW.seq fun K3 hK3 => ?_
  refine CW.seq fun K4 hK4 => ?_
  refine CW.region ?_
  refine LW.pure rfl rfl (RV.move rfl) ?_
  refine LW.pure rfl rfl (RV.nei rfl rfl) ?_
  refine LW.nil (hK4 _ _ ?_)
  by_cases hp1 : r1 = 0
  ·
    replace F := ite_y hp1 F
    have hq1 := dec_t hp1
    refine CW.condF rfl (not_f hq1) ?_
    refine CW.skip (hK3 _ _ ?_)
    refine CW.seq fun K5 hK5 => ?_
    refine CW.region ?_
    refine LW.pure rfl rfl (RV.assign rfl) ?_
    refine LW.nil (hK5 _ _ ?_)
    refine CW.seqJ (fun ρ wl1 => (∃ (t7_3 : Int), ref07_Worth_k2 a0 a1 t7_3 = some res ∧ ρ = [(2, .pointer (some (⟨b1, 0, none⟩))), (3, .pointer (some (⟨b2, 0, none⟩))), (4, .int .i64 0), (5, .int .i64 0), (7, .int .i64 t7_3)] ∧ Hp w wl1 [.blk b1 25 [.slice A_a0_supply a0.supply.length c_a0_supply, .slice A_a0_demand a0.demand.length c_a0_demand, .slice A_a0_cost a0.cost.length c_a0_cost], .blk b2 27 [.slice A_a1_stores a1.stores.length c_a1_stores, .slice A_a1_buyers a1.buyers.length c_a1_buyers]])) ?_ ?_
    ·
      rintro _ wl1 ⟨t7_3, F, rfl, H⟩
      have R0 := H.ext
      unfold ref07_Worth_k2 at F
      refine CW.seqJ (fun ρ wl2 => (∃ (t7_1 : Int), ref07_Worth_k1 t7_1 = some res ∧ ρ = [(4, .int .i64 0), (5, .int .i64 0), (7, .int .i64 t7_1)] ∧ Hp w wl2 [])) ?_ ?_
      ·
        rintro _ wl2 ⟨t7_1, F, rfl, H⟩
        have R0 := H.ext
        unfold ref07_Worth_k1 at F
        refine CW.seq fun K6 hK6 => ?_
        refine CW.region ?_
        refine LW.pure rfl rfl (RV.move rfl) ?_
        refine LW.pure rfl rfl (RV.assign rfl) ?_
        refine LW.pure rfl rfl (RV.assign rfl) ?_
        refine LW.nil (hK6 _ _ ?_)
        refine CW.ret ?_
        obtain rfl := Option.some.inj F
        refine ⟨_, (ResOK.two rfl rfl), ?_⟩
        refine ⟨(by first | rfl | simp), R0⟩
      ·
        intro K7 hK7 jK76
        refine CW.seq fun K8 hK8 => ?_
        refine CW.region ?_
        refine LW.pure rfl rfl (RV.assign rfl) ?_
        refine LW.nil (hK8 _ _ ?_)
        refine CW.block ?_
        refine CW.loop (fun meas ρ wl3 => ∃ (t7_2 : Int) (t9_1 : Int), ref07_Worth_L1 a0 a1 meas t7_2 t9_1 = some res ∧ ρ = [(2, .pointer (some (⟨b1, 0, none⟩))), (3, .pointer (some (⟨b2, 0, none⟩))), (4, .int .i64 0), (5, .int .i64 0), (7, .int .i64 t7_2), (9, .int .i64 t9_1)] ∧ Hp w wl3 [.blk b1 25 [.slice A_a0_supply a0.supply.length c_a0_supply, .slice A_a0_demand a0.demand.length c_a0_demand, .slice A_a0_cost a0.cost.length c_a0_cost], .blk b2 27 [.slice A_a1_stores a1.stores.length c_a1_stores, .slice A_a1_buyers a1.buyers.length c_a1_buyers]]) FU ⟨_, ?_, t7_3, ((0 : Int)), F, rfl, H⟩ ?_
        · exact ⟨rfl, rfl, rfl, rfl, rfl, rfl, trivial⟩
        rintro mk1 _ wl3 ⟨t7_2, t9_1, F, rfl, H⟩
        have R0 := H.ext
        replace F := ref07_Worth_L1_s F
        obtain ⟨mk1, rfl, F⟩ := F
        generalize hrec1 : ref07_Worth_L1 a0 a1 mk1 = rec1 at F
        unfold ref07_Worth_B1 at F
        refine CW.seq fun K9 hK9 => ?_
        refine CW.seq fun K10 hK10 => ?_
        refine CW.region ?_
        refine LW.pure rfl rfl (RV.move rfl) ?_
        refine LW.pure rfl rfl (RV.fieldAddr Tf27_1 rfl) ?_
        refine LW.pure rfl rfl (RV.load1 Tk22 rfl ((H.blk 1 rfl).cells.off 1) rfl) ?_
        refine LW.pure rfl rfl (RV.len Ts22 rfl) ?_
        refine LW.pure rfl rfl (RV.lss rfl rfl) ?_
        refine LW.nil (hK10 _ _ ?_)
        by_cases hp2 : t9_1 < ((a1.buyers.length : Int))
        ·
          replace F := ite_y hp2 F
          have hq2 := dec_t hp2
          refine CW.condT rfl hq2 ?_
          refine CW.skip (hK9 _ _ ?_)
          refine CW.seq fun K11 hK11 => ?_
          refine CW.block ?_
          obtain ⟨x1, hbx1, hx1, F⟩ := ix_some F
          obtain ⟨x2, hbx2, hx2, F⟩ := ix_some F
          obtain ⟨hg1, F⟩ := gd_some F
          obtain ⟨hg2, F⟩ := gd_some F
          refine CW.draw [] (fun _ => True) (.cons 0 1 (.cons 1 1 (.cons 2 1 (.cons 3 1 (.cons 4 1 (.cons 5 1 (.cons 6 1 (.cons 7 1 (.cons 8 1 (.cons 9 1 (.cons 10 1 (.cons 11 1 (.cons 12 1 (.cons 13 1 .nil)))))))))))))) mixed (by kernel_rfl) fun w4 E2 => ?_
          replace H := H.grow E2
          replace R0 := H.ext
          refine DW.fix rfl rfl rfl (fun _ EQ => RV.move rfl) ?_
          refine DW.fix rfl rfl rfl (fun _ EQ => RV.fieldAddr Tf27_1 rfl) ?_
          refine DW.fix rfl rfl rfl (fun _ EQ => RV.load1 Tk22 rfl (((H.grow EQ).blk 1 rfl).cells.off 1) rfl) ?_
          refine DW.fix rfl rfl rfl (fun _ EQ => RV.move rfl) ?_
          refine DW.fix rfl rfl rfl (fun _ EQ => RV.indexAddr Ts22 rfl rfl hbx1 (h_a1_buyers.addr_ hx1)) ?_
          refine DW.fix rfl rfl rfl (fun _ EQ => RV.load1 Tk3 rfl ((h_a1_buyers.at_ hx1).ext (R0.trans EQ)) rfl) ?_
          refine DW.fix rfl rfl rfl (fun _ EQ => RV.fieldAddr Tf25_1 rfl) ?_
          refine DW.fix rfl rfl rfl (fun _ EQ => RV.load1 Tk22 rfl (((H.grow EQ).blk 0 rfl).cells.off 1) rfl) ?_
          refine DW.fix rfl rfl rfl (fun _ EQ => RV.move rfl) ?_
          refine DW.fix rfl rfl rfl (fun _ EQ => RV.indexAddr Ts22 rfl rfl hbx2 (h_a0_demand.addr_ hx2)) ?_
          refine DW.fix rfl rfl rfl (fun _ EQ => RV.load1 Tk3 rfl ((h_a0_demand.at_ hx2).ext (R0.trans EQ)) rfl) ?_
          refine DW.fix rfl rfl rfl (fun _ EQ => RV.mul rfl rfl hg1) ?_
          refine DW.fix rfl rfl rfl (fun _ EQ => RV.add rfl rfl hg2) ?_
          refine DW.fix rfl rfl rfl (fun _ EQ => RV.assign rfl) ?_
          refine DW.nil (hK11 _ _ ?_)
          obtain ⟨hg3, F⟩ := gd_some F
          refine CW.region ?_
          refine LW.pure rfl rfl (RV.move rfl) ?_
          refine LW.pure rfl rfl (RV.add rfl rfl hg3) ?_
          refine LW.pure rfl rfl (RV.assign rfl) ?_
          refine LW.nil ?_
          subst hrec1
          refine ⟨mk1, Nat.lt_succ_self _, _, ?_, (t7_2 + (x1 * x2)), (t9_1 + 1), F, rfl, H⟩
          exact ⟨rfl, rfl, rfl, rfl, rfl, rfl, trivial⟩
        ·
          replace F := ite_n hp2 F
          have hq2 := dec_f hp2
          refine CW.condF rfl hq2 ?_
          replace H := H.pick (L' := []) [] (by decide) rfl
          replace R0 := H.ext
          refine CW.exit (jK76 _ _ ⟨_, ?_, ⟨t7_2, F, rfl, H⟩⟩)
          exact ⟨rfl, rfl, rfl, trivial⟩
    ·
      intro K12 hK12 jK87
      refine CW.seq fun K13 hK13 => ?_
      refine CW.region ?_
      refine LW.pure rfl rfl (RV.assign rfl) ?_
      refine LW.nil (hK13 _ _ ?_)
      refine CW.block ?_
      replace H := H.pick (L' := [.blk b1 25 [.slice A_a0_supply a0.supply.length c_a0_supply, .slice A_a0_demand a0.demand.length c_a0_demand, .slice A_a0_cost a0.cost.length c_a0_cost], .blk b2 27 [.slice A_a1_stores a1.stores.length c_a1_stores, .slice A_a1_buyers a1.buyers.length c_a1_buyers]]) [1, 0] (by decide) rfl
      replace R0 := H.ext
      refine CW.loop (fun meas ρ wl4 => ∃ (t7_4 : Int) (t8_1 : Int), ref07_Worth_L2 a0 a1 meas t7_4 t8_1 = some res ∧ ρ = [(2, .pointer (some (⟨b1, 0, none⟩))), (3, .pointer (some (⟨b2, 0, none⟩))), (4, .int .i64 0), (5, .int .i64 0), (7, .int .i64 t7_4), (8, .int .i64 t8_1)] ∧ Hp w wl4 [.blk b1 25 [.slice A_a0_supply a0.supply.length c_a0_supply, .slice A_a0_demand a0.demand.length c_a0_demand, .slice A_a0_cost a0.cost.length c_a0_cost], .blk b2 27 [.slice A_a1_stores a1.stores.length c_a1_stores, .slice A_a1_buyers a1.buyers.length c_a1_buyers]]) FU ⟨_, ?_, ((0 : Int)), ((0 : Int)), F, rfl, H⟩ ?_
      · exact ⟨rfl, rfl, rfl, rfl, rfl, rfl, trivial⟩
      rintro mk2 _ wl4 ⟨t7_4, t8_1, F, rfl, H⟩
      have R0 := H.ext
      replace F := ref07_Worth_L2_s F
      obtain ⟨mk2, rfl, F⟩ := F
      generalize hrec2 : ref07_Worth_L2 a0 a1 mk2 = rec2 at F
      unfold ref07_Worth_B2 at F
      refine CW.seq fun K14 hK14 => ?_
      refine CW.seq fun K15 hK15 => ?_
      refine CW.region ?_
      refine LW.pure rfl rfl (RV.move rfl) ?_
      refine LW.pure rfl rfl (RV.fieldAddr Tf27_0 rfl) ?_
      refine LW.pure rfl rfl (RV.load1 Tk22 rfl ((H.blk 1 rfl).cells.off 0) rfl) ?_
      refine LW.pure rfl rfl (RV.len Ts22 rfl) ?_
      refine LW.pure rfl rfl (RV.lss rfl rfl) ?_
      refine LW.nil (hK15 _ _ ?_)
      by_cases hp3 : t8_1 < ((a1.stores.length : Int))
      ·
        replace F := ite_y hp3 F
        have hq3 := dec_t hp3
        refine CW.condT rfl hq3 ?_
        refine CW.skip (hK14 _ _ ?_)
        refine CW.seq fun K16 hK16 => ?_
        refine CW.block ?_
        obtain ⟨x3, hbx3, hx3, F⟩ := ix_some F
        obtain ⟨x4, hbx4, hx4, F⟩ := ix_some F
        obtain ⟨hg4, F⟩ := gd_some F
        obtain ⟨hg5, F⟩ := gd_some F
        refine CW.draw [] (fun _ => True) (.cons 0 1 (.cons 1 1 (.cons 2 1 (.cons 3 1 (.cons 4 1 (.cons 5 1 (.cons 6 1 (.cons 7 1 (.cons 8 1 (.cons 9 1 (.cons 10 1 (.cons 11 1 (.cons 12 1 (.cons 13 1 .nil)))))))))))))) mixed (by kernel_rfl) fun w5 E3 => ?_
        replace H := H.grow E3
        replace R0 := H.ext
        refine DW.fix rfl rfl rfl (fun _ EQ => RV.move rfl) ?_
        refine DW.fix rfl rfl rfl (fun _ EQ => RV.fieldAddr Tf27_0 rfl) ?_
        refine DW.fix rfl rfl rfl (fun _ EQ => RV.load1 Tk22 rfl (((H.grow EQ).blk 1 rfl).cells.off 0) rfl) ?_
        refine DW.fix rfl rfl rfl (fun _ EQ => RV.move rfl) ?_
        refine DW.fix rfl rfl rfl (fun _ EQ => RV.indexAddr Ts22 rfl rfl hbx3 (h_a1_stores.addr_ hx3)) ?_
        refine DW.fix rfl rfl rfl (fun _ EQ => RV.load1 Tk3 rfl ((h_a1_stores.at_ hx3).ext (R0.trans EQ)) rfl) ?_
        refine DW.fix rfl rfl rfl (fun _ EQ => RV.fieldAddr Tf25_0 rfl) ?_
        refine DW.fix rfl rfl rfl (fun _ EQ => RV.load1 Tk22 rfl (((H.grow EQ).blk 0 rfl).cells.off 0) rfl) ?_
        refine DW.fix rfl rfl rfl (fun _ EQ => RV.move rfl) ?_
        refine DW.fix rfl rfl rfl (fun _ EQ => RV.indexAddr Ts22 rfl rfl hbx4 (h_a0_supply.addr_ hx4)) ?_
        refine DW.fix rfl rfl rfl (fun _ EQ => RV.load1 Tk3 rfl ((h_a0_supply.at_ hx4).ext (R0.trans EQ)) rfl) ?_
        refine DW.fix rfl rfl rfl (fun _ EQ => RV.mul rfl rfl hg4) ?_
        refine DW.fix rfl rfl rfl (fun _ EQ => RV.add rfl rfl hg5) ?_
        refine DW.fix rfl rfl rfl (fun _ EQ => RV.assign rfl) ?_
        refine DW.nil (hK16 _ _ ?_)
        obtain ⟨hg6, F⟩ := gd_some F
        refine CW.region ?_
        refine LW.pure rfl rfl (RV.move rfl) ?_
        refine LW.pure rfl rfl (RV.add rfl rfl hg6) ?_
        refine LW.pure rfl rfl (RV.assign rfl) ?_
        refine LW.nil ?_
        subst hrec2
        refine ⟨mk2, Nat.lt_succ_self _, _, ?_, (t7_4 + (x3 * x4)), (t8_1 + 1), F, rfl, H⟩
        exact ⟨rfl, rfl, rfl, rfl, rfl, rfl, trivial⟩
      ·
        replace F := ite_n hp3 F
        have hq3 := dec_f hp3
        refine CW.condF rfl hq3 ?_
        refine CW.exit (jK87 _ _ ⟨_, ?_, ⟨t7_4, F, rfl, H⟩⟩)
        exact ⟨rfl, rfl, rfl, rfl, rfl, trivial⟩
  ·
    replace F := ite_n hp1 F
    have hq1 := dec_f hp1
    refine CW.condT rfl (not_t hq1) ?_
    refine CW.seq fun K17 hK17 => ?_
    refine CW.region ?_
    refine LW.pure rfl rfl (RV.move rfl) ?_
    refine LW.pure rfl rfl (RV.assign rfl) ?_
    refine LW.pure rfl rfl (RV.assign rfl) ?_
    refine LW.nil (hK17 _ _ ?_)
    refine CW.ret ?_
    obtain rfl := Option.some.inj F
    refine ⟨_, (ResOK.two rfl rfl), ?_⟩
    refine ⟨(by first | rfl | simp), R0⟩
end Go.D7

set_option linter.unusedVariables false
set_option linter.unusedSimpArgs false
namespace Go.D7
open Go.Tb Go.Proofs Go.RowKit
theorem Tc27 : callable Try.prog 27 = true := by kernel_rfl
theorem Tc61 : callable Try.prog 61 = true := by kernel_rfl
theorem Tc62 : callable Try.prog 62 = true := by kernel_rfl
theorem Tc63 : callable Try.prog 63 = true := by kernel_rfl
theorem Tf72_0 : tyF Try.prog 72 0 = some 0 := by kernel_rfl
theorem Tf72_1 : tyF Try.prog 72 1 = some 3 := by kernel_rfl
theorem Tk72 : tyK Try.prog 72 = some (true, 4) := by kernel_rfl
theorem Tz27 : tyZ Try.prog 27 = some (.agg #[.slice none 0 0, .slice none 0 0]) := by kernel_rfl
theorem Tz72 : tyZ Try.prog 72 = some (.agg #[.slice none 0 0, .slice none 0 0, .slice none 0 0, .slice none 0 0]) := by kernel_rfl
set_option maxRecDepth 20000 in
set_option maxHeartbeats 1000000 in
theorem bulk_prices_store_ok {a0 : Prices_} {a1 : Int} {A_a0_t_supply : Option Addr} {c_a0_t_supply : Nat} {A_a0_t_demand : Option Addr} {c_a0_t_demand : Nat} {A_a0_t_cost : Option Addr} {c_a0_t_cost : Nat} {A_a0_lowest : Option Addr} {c_a0_lowest : Nat} {w : World} {res : Int} (h_a0_t_supply : Sl w A_a0_t_supply c_a0_t_supply 1 (a0.t.supply.map encN)) (h_a0_t_demand : Sl w A_a0_t_demand c_a0_t_demand 1 (a0.t.demand.map encN)) (h_a0_t_cost : Sl2 w A_a0_t_cost c_a0_t_cost 1 encN a0.t.cost) (h_a0_lowest : Sl w A_a0_lowest c_a0_lowest 1 (a0.lowest.map encN)) (F : bulk_prices_store a0 a1 = some res) : Calls Try.prog 62 #[.agg #[.slice A_a0_t_supply a0.t.supply.length c_a0_t_supply, .slice A_a0_t_demand a0.t.demand.length c_a0_t_demand, .slice A_a0_t_cost a0.t.cost.length c_a0_t_cost, .slice A_a0_lowest a0.lowest.length c_a0_lowest], .int .i64 a1] w (Rt w (.int .i64 res)) := by
  refine calls_of_cw (args := [.agg #[.slice A_a0_t_supply a0.t.supply.length c_a0_t_supply, .slice A_a0_t_demand a0.t.demand.length c_a0_t_demand, .slice A_a0_t_cost a0.t.cost.length c_a0_t_cost, .slice A_a0_lowest a0.lowest.length c_a0_lowest], .int .i64 a1]) Try.func62 rfl rfl rfl rfl ?_
  have H := Hp.start w
  have R0 := H.ext
  unfold bulk_prices_store at F
  refine CW.seq fun K1 hK1 => ?_
  refine CW.region ?_
  refine LW.go rfl rfl (OW.box rfl fun b1 w1 N1 => ?_)
  replace H := H.new N1 N1.blk
  replace R0 := H.ext
  refine LW.pure rfl rfl (RV.assign rfl) ?_
  refine LW.nil (hK1 _ _ ?_)
  refine CW.seq fun K2 hK2 => ?_
  obtain ⟨x1, hbx1, hx1, F⟩ := ix_some F
  obtain ⟨hg1, F⟩ := gd_some F
  refine CW.region ?_
  refine LW.pure rfl rfl (RV.fieldAddr Tf72_1 rfl) ?_
  refine LW.pure rfl rfl (RV.load1 Tk22 rfl ((H.blk 0 rfl).cells.off 3) rfl) ?_
  refine LW.pure rfl rfl (RV.move rfl) ?_
  refine LW.pure rfl rfl (RV.indexAddr Ts22 rfl rfl hbx1 (h_a0_lowest.addr_ hx1)) ?_
  refine LW.pure rfl rfl (RV.load1 Tk3 rfl ((h_a0_lowest.at_ hx1).ext R0) rfl) ?_
  refine LW.pure rfl rfl (RV.neg rfl hg1) ?_
  refine LW.pure rfl rfl (RV.assign rfl) ?_
  refine LW.nil (hK2 _ _ ?_)
  refine CW.ret ?_
  obtain rfl := Option.some.inj F
  refine ⟨_, (ResOK.one rfl), ?_⟩
  refine ⟨(by first | rfl | simp), R0⟩
set_option maxRecDepth 20000 in
set_option maxHeartbeats 1000000 in
theorem bulk_list_ok {a0 : Int} {a1 : Int → Option Int} {f_a1 : Nat} {p_a1 : Array Value} {q_a1 : Array Value} {w : World} {res : (List Int)} (h_a1 : ∀ (x0 : Int) (r : Int), a1 x0 = some r → ∀ w1, Ext w w1 → CallsV Try.prog f_a1 p_a1 q_a1 #[.int .i64 x0] w1 (Rt w1 (.int .i64 r))) (F : bulk_list a0 a1 = some res) : Calls Try.prog 61 #[.int .i64 a0, .func (.func f_a1) p_a1 q_a1] w (fun e w' => ∃ (A1 : Option Addr) (c1 : Nat), e = .returned (.slice A1 res.length c1) ∧ Hp w w' [.own A1 c1 3 1 (List.map encN res)]) := by
  refine calls_of_cw (args := [.int .i64 a0, .func (.func f_a1) p_a1 q_a1]) Try.func61 rfl rfl rfl rfl ?_
  have H := Hp.start w
  have R0 := H.ext
  unfold bulk_list at F
  refine CW.seq fun K1 hK1 => ?_
  refine CW.region ?_
  refine LW.pure rfl rfl (RV.assign rfl) ?_
  refine LW.nil (hK1 _ _ ?_)
  refine CW.seq fun K2 hK2 => ?_
  refine CW.region ?_
  refine LW.pure rfl rfl (RV.assign rfl) ?_
  refine LW.nil (hK2 _ _ ?_)
  refine CW.seqJ (fun ρ wl1 => (∃ (l1 : List Int) (Al1 : Option Addr) (cl1 : Nat), bulk_list_k1 l1 = some res ∧ ρ = [(4, .slice none 0 0), (5, .slice Al1 l1.length cl1)] ∧ Hp w wl1 [.own Al1 cl1 3 1 (List.map encN l1)])) ?_ ?_
  ·
    rintro _ wl1 ⟨l1, Al1, cl1, F, rfl, H⟩
    have R0 := H.ext
    unfold bulk_list_k1 at F
    refine CW.seq fun K3 hK3 => ?_
    refine CW.region ?_
    refine LW.pure rfl rfl (RV.move rfl) ?_
    refine LW.pure rfl rfl (RV.assign rfl) ?_
    refine LW.nil (hK3 _ _ ?_)
    refine CW.ret ?_
    obtain rfl := Option.some.inj F
    refine ⟨_, (ResOK.one rfl), ?_⟩
    exact ⟨Al1, cl1, (by first | rfl | (simp; done) | (simp; omega)), H⟩
  ·
    intro K4 hK4 jK47
    refine CW.seq fun K5 hK5 => ?_
    refine CW.region ?_
    refine LW.pure rfl rfl (RV.move rfl) ?_
    refine LW.pure rfl rfl (RV.move rfl) ?_
    refine LW.nil (hK5 _ _ ?_)
    refine CW.block ?_
    replace H := H.nilOwn 3 1
    replace R0 := H.ext
    refine CW.loop (fun meas ρ wl2 => ∃ (t8_1 : Int) (l2 : List Int) (Al2 : Option Addr) (cl2 : Nat), bulk_list_L1 a0 a1 meas t8_1 l2 = some res ∧ ρ = [(1, .func (.func f_a1) p_a1 q_a1), (4, .slice none 0 0), (5, .slice Al2 l2.length cl2), (7, .int .i64 a0), (8, .int .i64 t8_1)] ∧ Hp w wl2 [.own Al2 cl2 3 1 (List.map encN l2)]) FU ⟨_, ?_, ((0 : Int)), (([] : List Int)), none, 0, F, rfl, H⟩ ?_
    · exact ⟨rfl, rfl, (look_slice rfl (by first | rfl | (simp; done) | (simp; omega))), rfl, rfl, trivial⟩
    rintro mk1 _ wl2 ⟨t8_1, l2, Al2, cl2, F, rfl, H⟩
    have R0 := H.ext
    replace F := bulk_list_L1_s F
    obtain ⟨mk1, rfl, F⟩ := F
    generalize hrec1 : bulk_list_L1 a0 a1 mk1 = rec1 at F
    unfold bulk_list_B1 at F
    refine CW.seq fun K6 hK6 => ?_
    refine CW.region ?_
    refine LW.pure rfl rfl (RV.lss rfl rfl) ?_
    refine LW.nil (hK6 _ _ ?_)
    refine CW.seq fun K7 hK7 => ?_
    by_cases hp1 : t8_1 < a0
    ·
      replace F := ite_y hp1 F
      have hq1 := dec_t hp1
      refine CW.condT rfl hq1 ?_
      refine CW.skip (hK7 _ _ ?_)
      refine CW.seq fun K8 hK8 => ?_
      refine CW.block ?_
      refine CW.seq fun K9 hK9 => ?_
      refine CW.region ?_
      refine LW.pure rfl rfl (RV.move rfl) ?_
      refine LW.pure rfl rfl (RV.assign rfl) ?_
      refine LW.nil (hK9 _ _ ?_)
      obtain ⟨r1, hr1, F⟩ := bnd_some F
      obtain ⟨hg1, F⟩ := gd_some F
      refine CW.region ?_
      refine LW.pure rfl rfl (RV.move rfl) ?_
      refine LW.pure rfl rfl (RV.move rfl) ?_
      refine LW.pure rfl rfl (RV.move rfl) ?_
      refine LW.go rfl rfl (OW.callV2 rfl rfl rfl (h_a1 _ _ hr1 _ R0) ?_)
      rintro _ w2 ⟨rfl, E1⟩
      refine ⟨_, rfl, ?_⟩
      replace H := H.grow E1
      replace R0 := H.ext
      refine LW.go rfl rfl (OW.buildSlice (e := 3) (vs := [.int .i64 r1]) (cs := [.int .i64 r1]) rfl (fun _ => by kernel_rfl) fun b1 w3 N1 => ?_)
      replace H := H.made' (k := 1) (t := 3) (enc := encN) (l := ([r1] : List Int)) N1 N1.blk (fun _ => rfl) rfl (by first | decide | omega | (simp; done) | (simp; omega))
      replace R0 := H.ext
      refine LW.go rfl rfl (OW.appendG (enc := encN) (l := l2) (xs := ([r1] : List Int)) Ts22 rfl (look_slice rfl (by first | rfl | (simp; done) | (simp; omega))) (H.own 1 rfl) (H.own 0 rfl).sl (fun _ => rfl) rfl rfl hg1 (by decide) fun A2 c2 w4 O1 M1 D1 => ?_)
      replace H : Hp w w4 [.own (some ⟨b1, 0, none⟩) ((([r1] : List Int)).length) 3 1 (List.map encN (([r1] : List Int))), .own A2 c2 3 1 (List.map encN ((l2 ++ ([r1] : List Int))))] := H.mod 1 rfl M1 O1 D1
      replace R0 := H.ext
      refine LW.pure rfl rfl (RV.assign rfl) ?_
      refine LW.nil (hK8 _ _ ?_)
      obtain ⟨hg2, F⟩ := gd_some F
      refine CW.region ?_
      refine LW.pure rfl rfl (RV.add rfl rfl hg2) ?_
      refine LW.pure rfl rfl (RV.move rfl) ?_
      refine LW.nil ?_
      replace H := H.pick (L' := [.own A2 c2 3 1 (List.map encN ((l2 ++ ([r1] : List Int))))]) [1] (by decide) rfl
      replace R0 := H.ext
      subst hrec1
      refine ⟨mk1, Nat.lt_succ_self _, _, ?_, (t8_1 + 1), ((l2 ++ ([r1] : List Int))), A2, c2, F, rfl, H⟩
      exact ⟨rfl, rfl, (look_slice rfl (by first | rfl | (simp; done) | (simp; omega))), rfl, rfl, trivial⟩
    ·
      replace F := ite_n hp1 F
      have hq1 := dec_f hp1
      refine CW.condF rfl hq1 ?_
      refine CW.exit (jK47 _ _ ⟨_, ?_, ⟨l2, Al2, cl2, F, rfl, H⟩⟩)
      exact ⟨rfl, (look_slice rfl (by first | rfl | (simp; done) | (simp; omega))), trivial⟩
set_option maxRecDepth 20000 in
set_option maxHeartbeats 1000000 in
theorem bulk_prices_buyer_ok {a0 : Prices_} {a1 : Int} {A_a0_t_supply : Option Addr} {c_a0_t_supply : Nat} {A_a0_t_demand : Option Addr} {c_a0_t_demand : Nat} {A_a0_t_cost : Option Addr} {c_a0_t_cost : Nat} {A_a0_lowest : Option Addr} {c_a0_lowest : Nat} {w : World} {res : Int} (h_a0_t_supply : Sl w A_a0_t_supply c_a0_t_supply 1 (a0.t.supply.map encN)) (h_a0_t_demand : Sl w A_a0_t_demand c_a0_t_demand 1 (a0.t.demand.map encN)) (h_a0_t_cost : Sl2 w A_a0_t_cost c_a0_t_cost 1 encN a0.t.cost) (h_a0_lowest : Sl w A_a0_lowest c_a0_lowest 1 (a0.lowest.map encN)) (F : bulk_prices_buyer a0 a1 = some res) : Calls Try.prog 63 #[.agg #[.slice A_a0_t_supply a0.t.supply.length c_a0_t_supply, .slice A_a0_t_demand a0.t.demand.length c_a0_t_demand, .slice A_a0_t_cost a0.t.cost.length c_a0_t_cost, .slice A_a0_lowest a0.lowest.length c_a0_lowest], .int .i64 a1] w (Rt w (.int .i64 res)) := by
  refine calls_of_cw (args := [.agg #[.slice A_a0_t_supply a0.t.supply.length c_a0_t_supply, .slice A_a0_t_demand a0.t.demand.length c_a0_t_demand, .slice A_a0_t_cost a0.t.cost.length c_a0_t_cost, .slice A_a0_lowest a0.lowest.length c_a0_lowest], .int .i64 a1]) Try.func63 rfl rfl rfl rfl ?_
  have H := Hp.start w
  have R0 := H.ext
  unfold bulk_prices_buyer at F
  refine CW.seq fun K1 hK1 => ?_
  refine CW.region ?_
  refine LW.go rfl rfl (OW.box rfl fun b1 w1 N1 => ?_)
  replace H := H.new N1 N1.blk
  replace R0 := H.ext
  refine LW.pure rfl rfl (RV.assign rfl) ?_
  refine LW.nil (hK1 _ _ ?_)
  refine CW.seq fun K2 hK2 => ?_
  obtain ⟨hg1, F⟩ := gd_some F
  obtain ⟨x1, hbx1, hx1, F⟩ := ix_some F
  refine CW.region ?_
  refine LW.pure rfl rfl (RV.fieldAddr Tf72_1 rfl) ?_
  refine LW.pure rfl rfl (RV.load1 Tk22 rfl ((H.blk 0 rfl).cells.off 3) rfl) ?_
  refine LW.pure rfl rfl (RV.fieldAddr Tf72_0 rfl) ?_
  refine LW.pure rfl rfl (RV.fieldAddr Tf25_0 rfl) ?_
  refine LW.pure rfl rfl (RV.load1 Tk22 rfl (((H.blk 0 rfl).cells.off 0).off 0) rfl) ?_
  refine LW.pure rfl rfl (RV.len Ts22 rfl) ?_
  refine LW.pure rfl rfl (RV.move rfl) ?_
  refine LW.pure rfl rfl (RV.add rfl rfl hg1) ?_
  refine LW.pure rfl rfl (RV.indexAddr Ts22 rfl rfl hbx1 (h_a0_lowest.addr_ hx1)) ?_
  refine LW.pure rfl rfl (RV.load1 Tk3 rfl ((h_a0_lowest.at_ hx1).ext R0) rfl) ?_
  refine LW.pure rfl rfl (RV.assign rfl) ?_
  refine LW.nil (hK2 _ _ ?_)
  refine CW.ret ?_
  obtain rfl := Option.some.inj F
  refine ⟨_, (ResOK.one rfl), ?_⟩
  refine ⟨(by first | rfl | simp), R0⟩
set_option maxRecDepth 20000 in
set_option maxHeartbeats 1000000 in
theorem bulk_Prove_ok {a0 : Trade} {A_a0_supply : Option Addr} {c_a0_supply : Nat} {A_a0_demand : Option Addr} {c_a0_demand : Nat} {A_a0_cost : Option Addr} {c_a0_cost : Nat} {w : World} {res : Prices × Int} (h_a0_supply : Sl w A_a0_supply c_a0_supply 1 (a0.supply.map encN)) (h_a0_demand : Sl w A_a0_demand c_a0_demand 1 (a0.demand.map encN)) (h_a0_cost : Sl2 w A_a0_cost c_a0_cost 1 encN a0.cost) (F : bulk_Prove a0 = some res) : Calls Try.prog 27 #[.agg #[.slice A_a0_supply a0.supply.length c_a0_supply, .slice A_a0_demand a0.demand.length c_a0_demand, .slice A_a0_cost a0.cost.length c_a0_cost]] w (fun e w' => ∃ (A0_stores : Option Addr) (c0_stores : Nat) (A0_buyers : Option Addr) (c0_buyers : Nat), e = .returned (.tuple #[.agg #[.slice A0_stores res.1.stores.length c0_stores, .slice A0_buyers res.1.buyers.length c0_buyers], .int .i64 res.2]) ∧ Hp w w' [.own A0_stores c0_stores 3 1 (List.map encN res.1.stores), .own A0_buyers c0_buyers 3 1 (List.map encN res.1.buyers)]) := by
  refine calls_of_cw (args := [.agg #[.slice A_a0_supply a0.supply.length c_a0_supply, .slice A_a0_demand a0.demand.length c_a0_demand, .slice A_a0_cost a0.cost.length c_a0_cost]]) Try.func27 rfl rfl rfl rfl ?_
  have H := Hp.start w
  have R0 := H.ext
  unfold bulk_Prove at F
  refine CW.seq fun K1 hK1 => ?_
  refine CW.region ?_
  refine LW.go rfl rfl (OW.box rfl fun b1 w1 N1 => ?_)
  replace H := H.new N1 N1.blk
  replace R0 := H.ext
  refine LW.go rfl rfl (OW.alloc Tz27 fun b2 w2 N2 => ?_)
  replace H := H.new N2 N2.blk
  replace R0 := H.ext
  refine LW.pure rfl rfl (RV.assign rfl) ?_
  refine LW.nil (hK1 _ _ ?_)
  refine CW.seq fun K2 hK2 => ?_
  refine CW.seq fun K3 hK3 => ?_
  obtain ⟨r1, hr1, F⟩ := bnd_some F
  refine CW.region ?_
  refine LW.pure rfl rfl (RV.loadA [.slice A_a0_supply a0.supply.length c_a0_supply, .slice A_a0_demand a0.demand.length c_a0_demand, .slice A_a0_cost a0.cost.length c_a0_cost] Tk25 rfl (H.blk 1 rfl).cells rfl rfl) ?_
  refine LW.go rfl rfl (OW.call Tc38 rfl (bulk_Validate_ok (a0 := a0) (h_a0_supply.ext R0) (h_a0_demand.ext R0) (h_a0_cost.ext R0) hr1) ?_)
  rintro _ w3 ⟨rfl, E1⟩
  refine ⟨_, rfl, ?_⟩
  replace H := H.grow E1
  replace R0 := H.ext
  refine LW.pure rfl rfl (RV.assign rfl) ?_
  refine LW.nil (hK3 _ _ ?_)
  refine CW.seq fun K4 hK4 => ?_
  refine CW.region ?_
  refine LW.pure rfl rfl (RV.move rfl) ?_
  refine LW.pure rfl rfl (RV.nei rfl rfl) ?_
  refine LW.nil (hK4 _ _ ?_)
  by_cases hp1 : r1 = 0
  ·
    replace F := ite_y hp1 F
    have hq1 := dec_t hp1
    refine CW.condF rfl (not_f hq1) ?_
    refine CW.skip (hK2 _ _ ?_)
    refine CW.seq fun K5 hK5 => ?_
    obtain ⟨r2, hr2, F⟩ := bnd_some F
    refine CW.region ?_
    refine LW.pure rfl rfl (RV.loadA [.slice A_a0_supply a0.supply.length c_a0_supply, .slice A_a0_demand a0.demand.length c_a0_demand, .slice A_a0_cost a0.cost.length c_a0_cost] Tk25 rfl (H.blk 1 rfl).cells rfl rfl) ?_
    refine LW.go rfl rfl (OW.call Tc55 rfl (bulk_best_ok (a0 := a0) (h_a0_supply.ext R0) (h_a0_demand.ext R0) (h_a0_cost.ext R0) hr2) ?_)
    rintro _ w4 ⟨A8_0, c8_0, hs8_0, A8_1, c8_1, rfl, E2⟩
    refine ⟨_, rfl, ?_⟩
    replace H : Hp w w4 [.tab A8_0 c8_0 22 hs8_0 3 1 (encM encN r2.1), .own A8_1 c8_1 3 1 (List.map encN r2.2), .blk b2 27 [.slice none 0 0, .slice none 0 0], .blk b1 25 [.slice A_a0_supply a0.supply.length c_a0_supply, .slice A_a0_demand a0.demand.length c_a0_demand, .slice A_a0_cost a0.cost.length c_a0_cost]] := H.append E2
    replace R0 := H.ext
    refine LW.pure rfl rfl (RV.move rfl) ?_
    refine LW.pure rfl rfl (RV.extract rfl rfl) ?_
    refine LW.pure rfl rfl (RV.extract rfl rfl) ?_
    refine LW.pure rfl rfl (RV.assign rfl) ?_
    refine LW.pure rfl rfl (RV.assign rfl) ?_
    refine LW.nil (hK5 _ _ ?_)
    refine CW.seq fun K6 hK6 => ?_
    refine CW.region ?_
    refine LW.pure rfl rfl (RV.loadA [.slice A_a0_supply a0.supply.length c_a0_supply, .slice A_a0_demand a0.demand.length c_a0_demand, .slice A_a0_cost a0.cost.length c_a0_cost] Tk25 rfl (H.blk 3 rfl).cells rfl rfl) ?_
    refine LW.pure rfl rfl (RV.move rfl) ?_
    refine LW.pure rfl rfl (RV.build (vs := [.agg #[.slice A_a0_supply a0.supply.length c_a0_supply, .slice A_a0_demand a0.demand.length c_a0_demand, .slice A_a0_cost a0.cost.length c_a0_cost], .slice A8_1 r2.2.length c8_1]) (cs := [.slice A_a0_supply a0.supply.length c_a0_supply, .slice A_a0_demand a0.demand.length c_a0_demand, .slice A_a0_cost a0.cost.length c_a0_cost, .slice A8_1 r2.2.length c8_1]) rfl (fun _ => by kernel_rfl)) ?_
    refine LW.go rfl rfl (OW.alloc Tz72 fun b3 w5 N3 => ?_)
    replace H := H.new N3 N3.blk
    replace R0 := H.ext
    refine LW.go rfl rfl (OW.store Tk72 rfl rfl (H.blk 0 rfl) (off := 0) (vs := [.slice A_a0_supply a0.supply.length c_a0_supply, .slice A_a0_demand a0.demand.length c_a0_demand, .slice A_a0_cost a0.cost.length c_a0_cost, .slice A8_1 r2.2.length c8_1]) rfl rfl rfl rfl rfl fun w6 S1 => ?_)
    replace H : Hp w w6 [.blk b3 72 [.slice A_a0_supply a0.supply.length c_a0_supply, .slice A_a0_demand a0.demand.length c_a0_demand, .slice A_a0_cost a0.cost.length c_a0_cost, .slice A8_1 r2.2.length c8_1], .tab A8_0 c8_0 22 hs8_0 3 1 (encM encN r2.1), .own A8_1 c8_1 3 1 (List.map encN r2.2), .blk b2 27 [.slice none 0 0, .slice none 0 0], .blk b1 25 [.slice A_a0_supply a0.supply.length c_a0_supply, .slice A_a0_demand a0.demand.length c_a0_demand, .slice A_a0_cost a0.cost.length c_a0_cost]] := H.stored 0 rfl S1
    replace R0 := H.ext
    refine LW.nil (hK6 _ _ ?_)
    refine CW.seq fun K7 hK7 => ?_
    obtain ⟨r3, hr3, F⟩ := bnd_some F
    obtain ⟨r4, hr4, F⟩ := bnd_some F
    refine CW.draw [13] (fun _ => True) (.cons 0 1 (.cons 1 1 (.cons 2 1 (.cons 3 1 (.cons 4 1 (.cons 6 1 (.cons 7 1 (.cons 8 1 (.cons 9 1 (.cons 10 1 (.cons 5 0 (.cons 11 0 (.cons 12 1 (.cons 13 0 (.cons 14 2 .nil))))))))))))))) mixed (by kernel_rfl) fun w7 E3 => ?_
    replace H := H.grow E3
    replace R0 := H.ext
    refine DW.fix rfl rfl rfl (fun _ EQ => RV.fieldAddr Tf25_0 rfl) ?_
    refine DW.fix rfl rfl rfl (fun _ EQ => RV.load1 Tk22 rfl (((H.grow EQ).blk 4 rfl).cells.off 0) rfl) ?_
    refine DW.fix rfl rfl rfl (fun _ EQ => RV.len Ts22 rfl) ?_
    refine DW.fix rfl rfl rfl (fun _ EQ => RV.loadA [.slice A_a0_supply a0.supply.length c_a0_supply, .slice A_a0_demand a0.demand.length c_a0_demand, .slice A_a0_cost a0.cost.length c_a0_cost, .slice A8_1 r2.2.length c8_1] Tk72 rfl ((H.grow EQ).blk 0 rfl).cells rfl rfl) ?_
    refine DW.fix rfl rfl rfl (fun _ EQ => RV.makeFunc (fs := [.agg #[.slice A_a0_supply a0.supply.length c_a0_supply, .slice A_a0_demand a0.demand.length c_a0_demand, .slice A_a0_cost a0.cost.length c_a0_cost, .slice A8_1 r2.2.length c8_1]]) (cs := []) rfl rfl) ?_
    refine DW.fix rfl rfl rfl (fun _ EQ => RV.fieldAddr Tf25_1 rfl) ?_
    refine DW.fix rfl rfl rfl (fun _ EQ => RV.load1 Tk22 rfl (((H.grow EQ).blk 4 rfl).cells.off 1) rfl) ?_
    refine DW.fix rfl rfl rfl (fun _ EQ => RV.len Ts22 rfl) ?_
    refine DW.fix rfl rfl rfl (fun _ EQ => RV.loadA [.slice A_a0_supply a0.supply.length c_a0_supply, .slice A_a0_demand a0.demand.length c_a0_demand, .slice A_a0_cost a0.cost.length c_a0_cost, .slice A8_1 r2.2.length c8_1] Tk72 rfl ((H.grow EQ).blk 0 rfl).cells rfl rfl) ?_
    refine DW.fix rfl rfl rfl (fun _ EQ => RV.makeFunc (fs := [.agg #[.slice A_a0_supply a0.supply.length c_a0_supply, .slice A_a0_demand a0.demand.length c_a0_demand, .slice A_a0_cost a0.cost.length c_a0_cost, .slice A8_1 r2.2.length c8_1]]) (cs := []) rfl rfl) ?_
    refine DW.sole rfl rfl rfl (OW.call Tc61 rfl (bulk_list_ok (a0 := (a0.supply.length : Int)) (a1 := (fun x0 => bulk_prices_store ((⟨a0, r2.2⟩ : Prices_)) x0)) (fun x0 r hF w8 hE => CallsV.cap Tc62 (by simp) (bulk_prices_store_ok (a0 := (⟨a0, r2.2⟩ : Prices_)) (a1 := x0) ((h_a0_supply.ext R0).ext hE) ((h_a0_demand.ext R0).ext hE) ((h_a0_cost.ext R0).ext hE) ((H.own 2 rfl).sl.ext hE) hF)) hr3) ?_)
    rintro _ w9 ⟨A11_0, c11_0, rfl, E4⟩
    refine ⟨_, rfl, fun _ => E4.ext, ModX.ext E4.ext, ?_⟩
    replace H : Hp w w9 [.own A11_0 c11_0 3 1 (List.map encN r3), .blk b3 72 [.slice A_a0_supply a0.supply.length c_a0_supply, .slice A_a0_demand a0.demand.length c_a0_demand, .slice A_a0_cost a0.cost.length c_a0_cost, .slice A8_1 r2.2.length c8_1], .tab A8_0 c8_0 22 hs8_0 3 1 (encM encN r2.1), .own A8_1 c8_1 3 1 (List.map encN r2.2), .blk b2 27 [.slice none 0 0, .slice none 0 0], .blk b1 25 [.slice A_a0_supply a0.supply.length c_a0_supply, .slice A_a0_demand a0.demand.length c_a0_demand, .slice A_a0_cost a0.cost.length c_a0_cost]] := H.append E4
    replace R0 := H.ext
    refine DW.sole rfl rfl rfl (OW.call Tc61 rfl (bulk_list_ok (a0 := (a0.demand.length : Int)) (a1 := (fun x0 => bulk_prices_buyer ((⟨a0, r2.2⟩ : Prices_)) x0)) (fun x0 r hF w8 hE => CallsV.cap Tc63 (by simp) (bulk_prices_buyer_ok (a0 := (⟨a0, r2.2⟩ : Prices_)) (a1 := x0) ((h_a0_supply.ext R0).ext hE) ((h_a0_demand.ext R0).ext hE) ((h_a0_cost.ext R0).ext hE) ((H.own 3 rfl).sl.ext hE) hF)) hr4) ?_)
    rintro _ w10 ⟨A12_0, c12_0, rfl, E5⟩
    refine ⟨_, rfl, fun _ => E5.ext, ModX.ext E5.ext, ?_⟩
    replace H : Hp w w10 [.own A12_0 c12_0 3 1 (List.map encN r4), .own A11_0 c11_0 3 1 (List.map encN r3), .blk b3 72 [.slice A_a0_supply a0.supply.length c_a0_supply, .slice A_a0_demand a0.demand.length c_a0_demand, .slice A_a0_cost a0.cost.length c_a0_cost, .slice A8_1 r2.2.length c8_1], .tab A8_0 c8_0 22 hs8_0 3 1 (encM encN r2.1), .own A8_1 c8_1 3 1 (List.map encN r2.2), .blk b2 27 [.slice none 0 0, .slice none 0 0], .blk b1 25 [.slice A_a0_supply a0.supply.length c_a0_supply, .slice A_a0_demand a0.demand.length c_a0_demand, .slice A_a0_cost a0.cost.length c_a0_cost]] := H.append E5
    replace R0 := H.ext
    refine DW.fix rfl rfl rfl (fun _ EQ => RV.build (vs := [.slice A11_0 r3.length c11_0, .slice A12_0 r4.length c12_0]) (cs := [.slice A11_0 r3.length c11_0, .slice A12_0 r4.length c12_0]) rfl (fun _ => by kernel_rfl)) ?_
    refine DW.sole rfl rfl rfl (OW.store Tk27 rfl rfl (H.blk 5 rfl) (off := 0) (vs := [.slice A11_0 r3.length c11_0, .slice A12_0 r4.length c12_0]) rfl rfl rfl rfl rfl fun w11 S2 => ?_)
    refine ⟨fun h => absurd h (by decide), S2.modx trivial, ?_⟩
    replace H : Hp w w11 [.own A12_0 c12_0 3 1 (List.map encN r4), .own A11_0 c11_0 3 1 (List.map encN r3), .blk b3 72 [.slice A_a0_supply a0.supply.length c_a0_supply, .slice A_a0_demand a0.demand.length c_a0_demand, .slice A_a0_cost a0.cost.length c_a0_cost, .slice A8_1 r2.2.length c8_1], .tab A8_0 c8_0 22 hs8_0 3 1 (encM encN r2.1), .own A8_1 c8_1 3 1 (List.map encN r2.2), .blk b2 27 [.slice A11_0 r3.length c11_0, .slice A12_0 r4.length c12_0], .blk b1 25 [.slice A_a0_supply a0.supply.length c_a0_supply, .slice A_a0_demand a0.demand.length c_a0_demand, .slice A_a0_cost a0.cost.length c_a0_cost]] := H.stored 5 rfl S2
    replace R0 := H.ext
    refine DW.thru rfl rfl rfl (fun _ EQ => RV.assign rfl) ?_
    refine DW.nil (hK7 _ _ ?_)
    refine CW.ret ?_
    obtain rfl := Option.some.inj F
    refine ⟨_, (ResOK.two ⟨_, rfl, run_loadVar_agg Tk27 (H.blk 5 rfl).cells (us := [.slice A11_0 r3.length c11_0, .slice A12_0 r4.length c12_0]) rfl rfl⟩ rfl), ?_⟩
    replace H := H.pick (L' := [.own A11_0 c11_0 3 1 (List.map encN r3), .own A12_0 c12_0 3 1 (List.map encN r4)]) [1, 0] (by decide) rfl
    replace R0 := H.ext
    exact ⟨A11_0, c11_0, A12_0, c12_0, (by first | rfl | (simp; done) | (simp; omega)), H⟩
  ·
    replace F := ite_n hp1 F
    have hq1 := dec_f hp1
    refine CW.condT rfl (not_t hq1) ?_
    refine CW.seq fun K8 hK8 => ?_
    refine CW.region ?_
    refine LW.pure rfl rfl (RV.build (vs := []) (cs := [.slice none 0 0, .slice none 0 0]) rfl (fun _ => by kernel_rfl)) ?_
    refine LW.pure rfl rfl (RV.move rfl) ?_
    refine LW.go rfl rfl (OW.store Tk27 rfl rfl (H.blk 0 rfl) (off := 0) (vs := [.slice none 0 0, .slice none 0 0]) rfl rfl rfl rfl rfl fun w12 S3 => ?_)
    replace H : Hp w w12 [.blk b2 27 [.slice none 0 0, .slice none 0 0], .blk b1 25 [.slice A_a0_supply a0.supply.length c_a0_supply, .slice A_a0_demand a0.demand.length c_a0_demand, .slice A_a0_cost a0.cost.length c_a0_cost]] := H.stored 0 rfl S3
    replace R0 := H.ext
    refine LW.pure rfl rfl (RV.assign rfl) ?_
    refine LW.nil (hK8 _ _ ?_)
    refine CW.ret ?_
    obtain rfl := Option.some.inj F
    refine ⟨_, (ResOK.two ⟨_, rfl, run_loadVar_agg Tk27 (H.blk 0 rfl).cells (us := [.slice none 0 0, .slice none 0 0]) rfl rfl⟩ rfl), ?_⟩
    replace H := H.nilOwn 3 1
    replace R0 := H.ext
    replace H := H.nilOwn 3 1
    replace R0 := H.ext
    replace H := H.pick (L' := [.own none 0 3 1 (List.map encN (([] : List Int))), .own none 0 3 1 (List.map encN (([] : List Int)))]) [1, 0] (by decide) rfl
    replace R0 := H.ext
    exact ⟨none, 0, none, 0, (by first | rfl | (simp; done) | (simp; omega)), H⟩
set_option maxRecDepth 20000 in
set_option maxHeartbeats 1000000 in
theorem law07_BulkProves_ok {a0 : Trade} {A_a0_supply : Option Addr} {c_a0_supply : Nat} {A_a0_demand : Option Addr} {c_a0_demand : Nat} {A_a0_cost : Option Addr} {c_a0_cost : Nat} {w : World} {res : Bool} (h_a0_supply : Sl w A_a0_supply c_a0_supply 1 (a0.supply.map encN)) (h_a0_demand : Sl w A_a0_demand c_a0_demand 1 (a0.demand.map encN)) (h_a0_cost : Sl2 w A_a0_cost c_a0_cost 1 encN a0.cost) (F : law07_BulkProves a0 = some res) : Calls Try.prog 5 #[.agg #[.slice A_a0_supply a0.supply.length c_a0_supply, .slice A_a0_demand a0.demand.length c_a0_demand, .slice A_a0_cost a0.cost.length c_a0_cost]] w (Rt w (.bool res)) := by
  refine calls_of_cw (args := [.agg #[.slice A_a0_supply a0.supply.length c_a0_supply, .slice A_a0_demand a0.demand.length c_a0_demand, .slice A_a0_cost a0.cost.length c_a0_cost]]) Try.func5 rfl rfl rfl rfl ?_
  have H := Hp.start w
  have R0 := H.ext
  unfold law07_BulkProves at F
  refine CW.seq fun K1 hK1 => ?_
  refine CW.region ?_
  refine LW.go rfl rfl (OW.box rfl fun b1 w1 N1 => ?_)
  replace H := H.new N1 N1.blk
  replace R0 := H.ext
  refine LW.pure rfl rfl (RV.assign rfl) ?_
  refine LW.nil (hK1 _ _ ?_)
  refine CW.seq fun K2 hK2 => ?_
  refine CW.seq fun K3 hK3 => ?_
  obtain ⟨r1, hr1, F⟩ := bnd_some F
  refine CW.region ?_
  refine LW.pure rfl rfl (RV.loadA [.slice A_a0_supply a0.supply.length c_a0_supply, .slice A_a0_demand a0.demand.length c_a0_demand, .slice A_a0_cost a0.cost.length c_a0_cost] Tk25 rfl (H.blk 0 rfl).cells rfl rfl) ?_
  refine LW.go rfl rfl (OW.call Tc17 rfl (law07_Long_ok (a0 := a0) (a1 := ([] : List (List (List Int)))) (h_a0_supply.ext R0) (h_a0_demand.ext R0) (h_a0_cost.ext R0) (Sl3.nil_) hr1) ?_)
  rintro _ w2 ⟨rfl, E1⟩
  refine ⟨_, rfl, ?_⟩
  replace H := H.grow E1
  replace R0 := H.ext
  refine LW.nil (hK3 _ _ ?_)
  by_cases hp1 : r1 = true
  ·
    replace F := ite_y hp1 F
    have hq1 : r1 = true := hp1
    refine CW.condT rfl hq1 ?_
    refine CW.seq fun K4 hK4 => ?_
    obtain ⟨r2, hr2, F⟩ := bnd_some F
    refine CW.region ?_
    refine LW.go rfl rfl (OW.call Tc18 rfl (law07_sane_ok hr2) ?_)
    rintro _ w3 ⟨rfl, E2⟩
    refine ⟨_, rfl, ?_⟩
    replace H := H.grow E2
    replace R0 := H.ext
    refine LW.pure rfl rfl (RV.assign rfl) ?_
    refine LW.nil (hK4 _ _ ?_)
    refine CW.ret ?_
    obtain rfl := Option.some.inj F
    refine ⟨_, (ResOK.one rfl), ?_⟩
    refine ⟨(by first | rfl | simp), R0⟩
  ·
    replace F := ite_n hp1 F
    have hq1 : r1 = false := raw_f hp1
    refine CW.condF rfl hq1 ?_
    refine CW.skip (hK2 _ _ ?_)
    refine CW.seq fun K5 hK5 => ?_
    obtain ⟨r3, hr3, F⟩ := bnd_some F
    refine CW.region ?_
    refine LW.pure rfl rfl (RV.loadA [.slice A_a0_supply a0.supply.length c_a0_supply, .slice A_a0_demand a0.demand.length c_a0_demand, .slice A_a0_cost a0.cost.length c_a0_cost] Tk25 rfl (H.blk 0 rfl).cells rfl rfl) ?_
    refine LW.go rfl rfl (OW.call Tc27 rfl (bulk_Prove_ok (a0 := a0) (h_a0_supply.ext R0) (h_a0_demand.ext R0) (h_a0_cost.ext R0) hr3) ?_)
    rintro _ w4 ⟨A13_0_stores, c13_0_stores, A13_0_buyers, c13_0_buyers, rfl, E3⟩
    refine ⟨_, rfl, ?_⟩
    replace H : Hp w w4 [.own A13_0_stores c13_0_stores 3 1 (List.map encN r3.1.stores), .own A13_0_buyers c13_0_buyers 3 1 (List.map encN r3.1.buyers), .blk b1 25 [.slice A_a0_supply a0.supply.length c_a0_supply, .slice A_a0_demand a0.demand.length c_a0_demand, .slice A_a0_cost a0.cost.length c_a0_cost]] := H.append E3
    replace R0 := H.ext
    refine LW.pure rfl rfl (RV.move rfl) ?_
    refine LW.pure rfl rfl (RV.extract rfl rfl) ?_
    refine LW.pure rfl rfl (RV.extract rfl rfl) ?_
    refine LW.go rfl rfl (OW.alloc Tz27 fun b2 w5 N2 => ?_)
    replace H := H.new N2 N2.blk
    replace R0 := H.ext
    refine LW.go rfl rfl (OW.store Tk27 rfl rfl (H.blk 0 rfl) (off := 0) (vs := [.slice A13_0_stores r3.1.stores.length c13_0_stores, .slice A13_0_buyers r3.1.buyers.length c13_0_buyers]) rfl rfl rfl rfl rfl fun w6 S1 => ?_)
    replace H : Hp w w6 [.blk b2 27 [.slice A13_0_stores r3.1.stores.length c13_0_stores, .slice A13_0_buyers r3.1.buyers.length c13_0_buyers], .own A13_0_stores c13_0_stores 3 1 (List.map encN r3.1.stores), .own A13_0_buyers c13_0_buyers 3 1 (List.map encN r3.1.buyers), .blk b1 25 [.slice A_a0_supply a0.supply.length c_a0_supply, .slice A_a0_demand a0.demand.length c_a0_demand, .slice A_a0_cost a0.cost.length c_a0_cost]] := H.stored 0 rfl S1
    replace R0 := H.ext
    refine LW.pure rfl rfl (RV.assign rfl) ?_
    refine LW.nil (hK5 _ _ ?_)
    refine CW.seq fun K6 hK6 => ?_
    obtain ⟨r4, hr4, F⟩ := bnd_some F
    refine CW.region ?_
    refine LW.pure rfl rfl (RV.loadA [.slice A_a0_supply a0.supply.length c_a0_supply, .slice A_a0_demand a0.demand.length c_a0_demand, .slice A_a0_cost a0.cost.length c_a0_cost] Tk25 rfl (H.blk 3 rfl).cells rfl rfl) ?_
    refine LW.go rfl rfl (OW.call Tc24 rfl (ref07_Least_ok (a0 := a0) (h_a0_supply.ext R0) (h_a0_demand.ext R0) (h_a0_cost.ext R0) hr4) ?_)
    rintro _ w7 ⟨rfl, E4⟩
    refine ⟨_, rfl, ?_⟩
    replace H := H.grow E4
    replace R0 := H.ext
    refine LW.pure rfl rfl (RV.move rfl) ?_
    refine LW.pure rfl rfl (RV.extract rfl rfl) ?_
    refine LW.pure rfl rfl (RV.extract rfl rfl) ?_
    refine LW.pure rfl rfl (RV.assign rfl) ?_
    refine LW.pure rfl rfl (RV.assign rfl) ?_
    refine LW.nil (hK6 _ _ ?_)
    refine CW.seq fun K7 hK7 => ?_
    refine CW.seq fun K8 hK8 => ?_
    refine CW.region ?_
    refine LW.pure rfl rfl (RV.move rfl) ?_
    refine LW.pure rfl rfl (RV.move rfl) ?_
    refine LW.pure rfl rfl (RV.nei rfl rfl) ?_
    refine LW.nil (hK8 _ _ ?_)
    by_cases hp2 : r3.2 = r4.2
    ·
      replace F := ite_y hp2 F
      have hq2 := dec_t hp2
      refine CW.condF rfl (not_f hq2) ?_
      refine CW.skip (hK7 _ _ ?_)
      refine CW.seq fun K9 hK9 => ?_
      refine CW.seq fun K10 hK10 => ?_
      refine CW.region ?_
      refine LW.pure rfl rfl (RV.move rfl) ?_
      refine LW.pure rfl rfl (RV.nei rfl rfl) ?_
      refine LW.nil (hK10 _ _ ?_)
      by_cases hp3 : r3.2 = 0
      ·
        replace F := ite_y hp3 F
        have hq3 := dec_t hp3
        refine CW.condF rfl (not_f hq3) ?_
        refine CW.skip (hK9 _ _ ?_)
        refine CW.seq fun K11 hK11 => ?_
        obtain ⟨r5, hr5, F⟩ := bnd_some F
        refine CW.region ?_
        refine LW.pure rfl rfl (RV.loadA [.slice A_a0_supply a0.supply.length c_a0_supply, .slice A_a0_demand a0.demand.length c_a0_demand, .slice A_a0_cost a0.cost.length c_a0_cost] Tk25 rfl (H.blk 3 rfl).cells rfl rfl) ?_
        refine LW.pure rfl rfl (RV.loadA [.slice A13_0_stores r3.1.stores.length c13_0_stores, .slice A13_0_buyers r3.1.buyers.length c13_0_buyers] Tk27 rfl (H.blk 0 rfl).cells rfl rfl) ?_
        refine LW.go rfl rfl (OW.call Tc20 rfl (ref07_Worth_ok (a0 := a0) (a1 := r3.1) (h_a0_supply.ext R0) (h_a0_demand.ext R0) (h_a0_cost.ext R0) (H.own 1 rfl).sl (H.own 2 rfl).sl hr5) ?_)
        rintro _ w8 ⟨rfl, E5⟩
        refine ⟨_, rfl, ?_⟩
        replace H := H.grow E5
        replace R0 := H.ext
        refine LW.pure rfl rfl (RV.move rfl) ?_
        refine LW.pure rfl rfl (RV.extract rfl rfl) ?_
        refine LW.pure rfl rfl (RV.extract rfl rfl) ?_
        refine LW.pure rfl rfl (RV.assign rfl) ?_
        refine LW.pure rfl rfl (RV.assign rfl) ?_
        refine LW.nil (hK11 _ _ ?_)
        refine CW.seq fun K12 hK12 => ?_
        by_cases hp4 : r5.2 = 0
        ·
          replace F := ite_y hp4 F
          have hq4 := dec_t hp4
          by_cases hp5 : r5.1 = r4.1
          ·
            replace F := ite_y hp5 F
            have hq5 := dec_t hp5
            obtain ⟨r6, hr6, F⟩ := bnd_some F
            refine CW.region ?_
            refine LW.pure rfl rfl (RV.move rfl) ?_
            refine LW.pure rfl rfl (RV.eqi rfl rfl) ?_
            refine LW.pure rfl rfl (RV.move rfl) ?_
            refine LW.pureYB rfl rfl rfl rfl hq4 (RV.move rfl) ?_
            refine LW.pureYB rfl rfl rfl rfl hq4 (RV.move rfl) ?_
            refine LW.pureYB rfl rfl rfl rfl hq4 (RV.eqi rfl rfl) ?_
            refine LW.pure rfl rfl (RV.pickTB rfl hq4 rfl) ?_
            refine LW.pure rfl rfl (RV.move rfl) ?_
            refine LW.yesB rfl rfl rfl rfl hq5 (OW.call Tc18 rfl (law07_sane_ok hr6) ?_)
            rintro _ w9 ⟨rfl, E6⟩
            refine ⟨_, rfl, ?_⟩
            replace H := H.grow E6
            replace R0 := H.ext
            refine LW.pure rfl rfl (RV.pickTB rfl hq5 rfl) ?_
            refine LW.pure rfl rfl (RV.assign rfl) ?_
            refine LW.nil (hK12 _ _ ?_)
            refine CW.ret ?_
            obtain rfl := Option.some.inj F
            refine ⟨_, (ResOK.one rfl), ?_⟩
            refine ⟨(by first | rfl | simp), R0⟩
          ·
            replace F := ite_n hp5 F
            have hq5 := dec_f hp5
            refine CW.region ?_
            refine LW.pure rfl rfl (RV.move rfl) ?_
            refine LW.pure rfl rfl (RV.eqi rfl rfl) ?_
            refine LW.pure rfl rfl (RV.move rfl) ?_
            refine LW.pureYB rfl rfl rfl rfl hq4 (RV.move rfl) ?_
            refine LW.pureYB rfl rfl rfl rfl hq4 (RV.move rfl) ?_
            refine LW.pureYB rfl rfl rfl rfl hq4 (RV.eqi rfl rfl) ?_
            refine LW.pure rfl rfl (RV.pickTB rfl hq4 rfl) ?_
            refine LW.pure rfl rfl (RV.move rfl) ?_
            refine LW.noB rfl rfl rfl rfl (ne_beq (v := false) hq5 rfl) ?_
            refine LW.pure rfl rfl (RV.pickFB rfl hq5 rfl) ?_
            refine LW.pure rfl rfl (RV.assign rfl) ?_
            refine LW.nil (hK12 _ _ ?_)
            refine CW.ret ?_
            obtain rfl := Option.some.inj F
            refine ⟨_, (ResOK.one rfl), ?_⟩
            refine ⟨(by first | rfl | simp), R0⟩
        ·
          replace F := ite_n hp4 F
          have hq4 := dec_f hp4
          refine CW.region ?_
          refine LW.pure rfl rfl (RV.move rfl) ?_
          refine LW.pure rfl rfl (RV.eqi rfl rfl) ?_
          refine LW.pure rfl rfl (RV.move rfl) ?_
          refine LW.noB rfl rfl rfl rfl (ne_beq (v := false) hq4 rfl) ?_
          refine LW.noB rfl rfl rfl rfl (ne_beq (v := false) hq4 rfl) ?_
          refine LW.noB rfl rfl rfl rfl (ne_beq (v := false) hq4 rfl) ?_
          refine LW.pure rfl rfl (RV.pickFB rfl hq4 rfl) ?_
          refine LW.pure rfl rfl (RV.move rfl) ?_
          refine LW.noB rfl rfl rfl rfl (ne_beq (v := false) rfl rfl) ?_
          refine LW.pure rfl rfl (RV.pickFB rfl rfl rfl) ?_
          refine LW.pure rfl rfl (RV.assign rfl) ?_
          refine LW.nil (hK12 _ _ ?_)
          refine CW.ret ?_
          obtain rfl := Option.some.inj F
          refine ⟨_, (ResOK.one rfl), ?_⟩
          refine ⟨(by first | rfl | simp), R0⟩
      ·
        replace F := ite_n hp3 F
        have hq3 := dec_f hp3
        refine CW.condT rfl (not_t hq3) ?_
        refine CW.seq fun K13 hK13 => ?_
        by_cases hp6 : ((r3.1.stores.length : Int)) = 0
        ·
          replace F := ite_y hp6 F
          have hq6 := dec_t hp6
          by_cases hp7 : ((r3.1.buyers.length : Int)) = 0
          ·
            replace F := ite_y hp7 F
            have hq7 := dec_t hp7
            obtain ⟨r7, hr7, F⟩ := bnd_some F
            refine CW.region ?_
            refine LW.pure rfl rfl (RV.fieldAddr Tf27_0 rfl) ?_
            refine LW.pure rfl rfl (RV.load1 Tk22 rfl ((H.blk 0 rfl).cells.off 0) rfl) ?_
            refine LW.pure rfl rfl (RV.len Ts22 rfl) ?_
            refine LW.pure rfl rfl (RV.eqi rfl rfl) ?_
            refine LW.pure rfl rfl (RV.move rfl) ?_
            refine LW.pureYB rfl rfl rfl rfl hq6 (RV.fieldAddr Tf27_1 rfl) ?_
            refine LW.pureYB rfl rfl rfl rfl hq6 (RV.load1 Tk22 rfl ((H.blk 0 rfl).cells.off 1) rfl) ?_
            refine LW.pureYB rfl rfl rfl rfl hq6 (RV.len Ts22 rfl) ?_
            refine LW.pureYB rfl rfl rfl rfl hq6 (RV.eqi rfl rfl) ?_
            refine LW.pure rfl rfl (RV.pickTB rfl hq6 rfl) ?_
            refine LW.pure rfl rfl (RV.move rfl) ?_
            refine LW.yesB rfl rfl rfl rfl hq7 (OW.call Tc18 rfl (law07_sane_ok hr7) ?_)
            rintro _ w10 ⟨rfl, E7⟩
            refine ⟨_, rfl, ?_⟩
            replace H := H.grow E7
            replace R0 := H.ext
            refine LW.pure rfl rfl (RV.pickTB rfl hq7 rfl) ?_
            refine LW.pure rfl rfl (RV.assign rfl) ?_
            refine LW.nil (hK13 _ _ ?_)
            refine CW.ret ?_
            obtain rfl := Option.some.inj F
            refine ⟨_, (ResOK.one rfl), ?_⟩
            refine ⟨(by first | rfl | simp), R0⟩
          ·
            replace F := ite_n hp7 F
            have hq7 := dec_f hp7
            refine CW.region ?_
            refine LW.pure rfl rfl (RV.fieldAddr Tf27_0 rfl) ?_
            refine LW.pure rfl rfl (RV.load1 Tk22 rfl ((H.blk 0 rfl).cells.off 0) rfl) ?_
            refine LW.pure rfl rfl (RV.len Ts22 rfl) ?_
            refine LW.pure rfl rfl (RV.eqi rfl rfl) ?_
            refine LW.pure rfl rfl (RV.move rfl) ?_
            refine LW.pureYB rfl rfl rfl rfl hq6 (RV.fieldAddr Tf27_1 rfl) ?_
            refine LW.pureYB rfl rfl rfl rfl hq6 (RV.load1 Tk22 rfl ((H.blk 0 rfl).cells.off 1) rfl) ?_
            refine LW.pureYB rfl rfl rfl rfl hq6 (RV.len Ts22 rfl) ?_
            refine LW.pureYB rfl rfl rfl rfl hq6 (RV.eqi rfl rfl) ?_
            refine LW.pure rfl rfl (RV.pickTB rfl hq6 rfl) ?_
            refine LW.pure rfl rfl (RV.move rfl) ?_
            refine LW.noB rfl rfl rfl rfl (ne_beq (v := false) hq7 rfl) ?_
            refine LW.pure rfl rfl (RV.pickFB rfl hq7 rfl) ?_
            refine LW.pure rfl rfl (RV.assign rfl) ?_
            refine LW.nil (hK13 _ _ ?_)
            refine CW.ret ?_
            obtain rfl := Option.some.inj F
            refine ⟨_, (ResOK.one rfl), ?_⟩
            refine ⟨(by first | rfl | simp), R0⟩
        ·
          replace F := ite_n hp6 F
          have hq6 := dec_f hp6
          refine CW.region ?_
          refine LW.pure rfl rfl (RV.fieldAddr Tf27_0 rfl) ?_
          refine LW.pure rfl rfl (RV.load1 Tk22 rfl ((H.blk 0 rfl).cells.off 0) rfl) ?_
          refine LW.pure rfl rfl (RV.len Ts22 rfl) ?_
          refine LW.pure rfl rfl (RV.eqi rfl rfl) ?_
          refine LW.pure rfl rfl (RV.move rfl) ?_
          refine LW.noB rfl rfl rfl rfl (ne_beq (v := false) hq6 rfl) ?_
          refine LW.noB rfl rfl rfl rfl (ne_beq (v := false) hq6 rfl) ?_
          refine LW.noB rfl rfl rfl rfl (ne_beq (v := false) hq6 rfl) ?_
          refine LW.noB rfl rfl rfl rfl (ne_beq (v := false) hq6 rfl) ?_
          refine LW.pure rfl rfl (RV.pickFB rfl hq6 rfl) ?_
          refine LW.pure rfl rfl (RV.move rfl) ?_
          refine LW.noB rfl rfl rfl rfl (ne_beq (v := false) rfl rfl) ?_
          refine LW.pure rfl rfl (RV.pickFB rfl rfl rfl) ?_
          refine LW.pure rfl rfl (RV.assign rfl) ?_
          refine LW.nil (hK13 _ _ ?_)
          refine CW.ret ?_
          obtain rfl := Option.some.inj F
          refine ⟨_, (ResOK.one rfl), ?_⟩
          refine ⟨(by first | rfl | simp), R0⟩
    ·
      replace F := ite_n hp2 F
      have hq2 := dec_f hp2
      refine CW.condT rfl (not_t hq2) ?_
      refine CW.seq fun K14 hK14 => ?_
      refine CW.region ?_
      refine LW.pure rfl rfl (RV.assign rfl) ?_
      refine LW.nil (hK14 _ _ ?_)
      refine CW.ret ?_
      obtain rfl := Option.some.inj F
      refine ⟨_, (ResOK.one rfl), ?_⟩
      refine ⟨(by first | rfl | simp), R0⟩
end Go.D7

namespace Go.Tb
/-- A loop over 0 .. N - 1 with a state, that is left at the first i for which p does not hold. -/
theorem scan_loop {S R : Type} (N : Nat) (p : Nat → Bool) (g : Nat → S) (L : Nat → S → Int → Option R) (yes : Option R) (no : Nat → Option R)
    (step : ∀ n i : Nat, i < N → L (n + 1) (g i) (i : Int) = if p i = true then L n (g (i + 1)) ((i + 1 : Nat) : Int) else no i)
    (stop : ∀ n : Nat, L (n + 1) (g N) (N : Int) = yes) : ∀ (d n i : Nat), N = i + d → d < n → L n (g i) (i : Int) = match (List.range' i d).find? (fun j => !p j) with | none => yes | some j => no j
  | 0, n + 1, i, hd, hn => by
    have hi : i = N := by omega
    subst hi
    rw [stop n]; rfl
  | d + 1, n + 1, i, hd, hn => by
    rw [step n i (by omega), List.range'_succ, List.find?_cons]
    cases hp : p i
    · simp
    · simp only [if_true, Bool.not_true]
      exact scan_loop N p g L yes no step stop d n (i + 1) (by omega) (by omega)
theorem find_all {p : Nat → Bool} {i d : Nat} : (List.range' i d).find? (fun j => !p j) = none ↔ ∀ j, i ≤ j → j < i + d → p j = true := by
  rw [List.find?_eq_none]
  constructor
  · intro h j h1 h2
    have := h j (by rw [List.mem_range'_1]; omega)
    simpa using this
  · intro h x hx
    rw [List.mem_range'_1] at hx
    simp [h x hx.1 hx.2]
/-- A loop over 0 .. N - 1 with a state and no way out. -/
theorem for_loop {S R : Type} (N : Nat) (g : Nat → S) (L : Nat → S → Int → Option R) (yes : Option R)
    (step : ∀ n i : Nat, i < N → L (n + 1) (g i) (i : Int) = L n (g (i + 1)) ((i + 1 : Nat) : Int))
    (stop : ∀ n : Nat, L (n + 1) (g N) (N : Int) = yes) : ∀ (d n i : Nat), N = i + d → d < n → L n (g i) (i : Int) = yes
  | 0, n + 1, i, hd, hn => by
    have hi : i = N := by omega
    subst hi
    exact stop n
  | d + 1, n + 1, i, hd, hn => by
    rw [step n i (by omega)]
    exact for_loop N g L yes step stop d n (i + 1) (by omega) (by omega)
theorem for_loop0 {S R : Type} (N : Nat) (g : Nat → S) (L : Nat → S → Int → Option R) (yes : Option R)
    (step : ∀ n i : Nat, i < N → L (n + 1) (g i) (i : Int) = L n (g (i + 1)) ((i + 1 : Nat) : Int))
    (stop : ∀ n : Nat, L (n + 1) (g N) (N : Int) = yes) (hN : N ≤ 9223372036854775807) : L FU (g 0) 0 = yes :=
  for_loop N g L yes step stop N FU 0 (by omega) (by have := FU_pos; omega)
theorem scan_loop0 {S R : Type} (N : Nat) (p : Nat → Bool) (g : Nat → S) (L : Nat → S → Int → Option R) (yes no : Option R)
    (step : ∀ n i : Nat, i < N → L (n + 1) (g i) (i : Int) = if p i = true then L n (g (i + 1)) ((i + 1 : Nat) : Int) else no)
    (stop : ∀ n : Nat, L (n + 1) (g N) (N : Int) = yes) (hN : N ≤ 9223372036854775807) : L FU (g 0) 0 = if (∀ j, j < N → p j = true) then yes else no := by
  have h := scan_loop N p g L yes (fun _ => no) step stop N FU 0 (by omega) (by have := FU_pos; omega)
  refine Eq.trans h ?_
  cases hf : (List.range' 0 N).find? (fun j => !p j) with
  | none => rw [if_pos (fun j hj => find_all.1 hf j (by omega) (by omega))]
  | some j =>
    have h1 := List.find?_some hf
    have h2 := List.mem_of_find?_eq_some hf
    rw [List.mem_range'_1] at h2
    rw [if_neg]
    intro hall
    have := hall j (by omega)
    simp [this] at h1
/-- The same over the elements of a list. -/
theorem list_loop0 {α R : Type} (l : List α) (p : α → Bool) (L : Nat → Int → Option R) (yes no : Option R)
    (step : ∀ (n i : Nat) (x : α), l[i]? = some x → L (n + 1) (i : Int) = if p x = true then L n ((i + 1 : Nat) : Int) else no)
    (stop : ∀ n : Nat, L (n + 1) (l.length : Int) = yes) (hl : l.length ≤ 9223372036854775807) : L FU 0 = if l.all p = true then yes else no := by
  have h := scan_loop0 l.length (fun i => (l[i]?.map p).getD true) (fun _ => ()) (fun n _ i => L n i) yes no (fun n i hi => by
    have hx : l[i]? = some l[i] := by simp [hi]
    rw [step n i _ hx]; simp [hx]) stop hl
  refine Eq.trans h ?_
  by_cases ha : l.all p = true
  · rw [if_pos ha, if_pos]
    intro j hj
    have := List.all_eq_true.1 ha l[j] (List.getElem_mem hj)
    simp [hj, this]
  · rw [if_neg ha, if_neg]
    intro hc
    refine ha (List.all_eq_true.2 fun x hx => ?_)
    obtain ⟨j, hj⟩ := List.getElem?_of_mem hx
    have := hc j (lt_of_at hj)
    simpa [hj] using this
end Go.Tb

set_option linter.unusedVariables false
set_option linter.unusedSimpArgs false
namespace Go.D7
open Go.Tb
theorem ix0 {α β : Type} {l : List α} {k : α → Option β} {x : α} (h : l[0]? = some x) : ix l 0 k = k x := ix_nat (i := 0) h
theorem for0 {S R : Type} (N : Nat) (g : Nat → S) (L : Nat → S → Int → Option R) (yes : Option R) {s0 : S} (h0 : g 0 = s0)
    (step : ∀ n i : Nat, i < N → L (n + 1) (g i) (i : Int) = L n (g (i + 1)) ((i + 1 : Nat) : Int))
    (stop : ∀ n : Nat, L (n + 1) (g N) (N : Int) = yes) (hN : N ≤ 9223372036854775807) : L FU s0 0 = yes := by
  rw [← h0]; exact for_loop0 N g L yes step stop hN
theorem scan_inv {S R : Type} (N : Nat) (p : Nat → Bool) (g : Nat → S) (L : Nat → S → Int → Option R) (yes no : Option R)
    (step : ∀ n i : Nat, i < N → (∀ j, j < i → p j = true) → L (n + 1) (g i) (i : Int) = if p i = true then L n (g (i + 1)) ((i + 1 : Nat) : Int) else no)
    (stop : ∀ n : Nat, (∀ j, j < N → p j = true) → L (n + 1) (g N) (N : Int) = yes) : ∀ (d n i : Nat), N = i + d → d < n → (∀ j, j < i → p j = true) → L n (g i) (i : Int) = if (∀ j, j < N → p j = true) then yes else no
  | 0, n + 1, i, hd, hn, hi => by
    have e : i = N := by omega
    subst e
    rw [stop n hi, if_pos hi]
  | d + 1, n + 1, i, hd, hn, hi => by
    rw [step n i (by omega) hi]
    by_cases hp : p i = true
    · rw [if_pos hp]
      exact scan_inv N p g L yes no step stop d n (i + 1) (by omega) (by omega) (fun j hj => by
        by_cases h : j = i
        · subst h; exact hp
        · exact hi j (by omega))
    · rw [if_neg hp, if_neg (fun h => hp (h i (by omega)))]
theorem scan_inv0 {S R : Type} (N : Nat) (p : Nat → Bool) (g : Nat → S) (L : Nat → S → Int → Option R) (yes no : Option R) {s0 : S} (h0 : g 0 = s0)
    (step : ∀ n i : Nat, i < N → (∀ j, j < i → p j = true) → L (n + 1) (g i) (i : Int) = if p i = true then L n (g (i + 1)) ((i + 1 : Nat) : Int) else no)
    (stop : ∀ n : Nat, (∀ j, j < N → p j = true) → L (n + 1) (g N) (N : Int) = yes) (hN : N ≤ 9223372036854775807) : L FU s0 0 = if (∀ j, j < N → p j = true) then yes else no := by
  rw [← h0]
  exact scan_inv N p g L yes no step stop N FU 0 (by omega) (by have := FU_pos; omega) (fun j hj => by omega)
def gi (l : List Int) (i : Nat) : Int := l.getD i 0
theorem gi_at {l : List Int} {i : Nat} (h : i < l.length) : l[i]? = some (gi l i) := by simp [gi, List.getD, h]
theorem gi_of {l : List Int} {i : Nat} {x : Int} (h : l[i]? = some x) : gi l i = x := by simp [gi, List.getD, h]
def gr (l : List (List Int)) (i : Nat) : List Int := l.getD i []
theorem gr_at {l : List (List Int)} {i : Nat} (h : i < l.length) : l[i]? = some (gr l i) := by simp [gr, List.getD, h]
theorem gr_of {l : List (List Int)} {i : Nat} {x : List Int} (h : l[i]? = some x) : gr l i = x := by simp [gr, List.getD, h]
def within (n lo hi : Int) : Bool := decide (lo ≤ n) && decide (n ≤ hi)
theorem within_iff {n lo hi : Int} : within n lo hi = true ↔ lo ≤ n ∧ n ≤ hi := by unfold within; simp
theorem bwithin_eq (n lo hi : Int) : bulk_within n lo hi = some (within n lo hi) := by
  unfold bulk_within within
  by_cases h : lo ≤ n <;> simp [h]
theorem rwithin_eq (n lo hi : Int) : ref07_within n lo hi = some (within n lo hi) := by
  unfold ref07_within within
  by_cases h : lo ≤ n <;> simp [h]
theorem sane_eq : law07_sane = some true := by decide +kernel
def tot : List Int → Int
  | [] => 0
  | x :: r => x + tot r
theorem tot_append : ∀ a b : List Int, tot (a ++ b) = tot a + tot b
  | [], b => by simp [tot]
  | x :: a, b => by simp only [List.cons_append, tot, tot_append a b]; omega
theorem tot_take {l : List Int} {i : Nat} (h : i < l.length) : tot (l.take (i + 1)) = tot (l.take i) + gi l i := by
  rw [List.take_add_one, gi_at h, tot_append]
  simp [tot]
theorem tot_bnd {M : Int} (hM : 0 ≤ M) : ∀ l : List Int, (∀ x ∈ l, 0 ≤ x ∧ x ≤ M) → 0 ≤ tot l ∧ tot l ≤ M * (l.length : Int)
  | [], _ => by simp [tot]
  | x :: r, h => by
    have ih := tot_bnd hM r (fun y hy => h y (List.mem_cons_of_mem _ hy))
    have hx := h x (List.mem_cons_self ..)
    have e : ((List.length (x :: r) : Nat) : Int) = (r.length : Int) + 1 := by simp
    rw [e, Int.mul_add]
    simp only [tot]
    omega
theorem total_eq {M : Int} (hM : 0 ≤ M ∧ M ≤ 1000) {l : List Int} (hl : l.length ≤ 1000) (h : ∀ x ∈ l, 0 ≤ x ∧ x ≤ M) : bulk_total l = some (tot l) := by
  unfold bulk_total
  refine Eq.trans (for0 l.length (fun i => tot (l.take i)) (fun k s i => bulk_total_L1 l k s i) (some (tot l)) rfl (fun k i hi => ?_) (fun k => ?_) (by omega)) rfl
  · have hb := tot_bnd hM.1 (l.take i) (fun x hx => h x (List.mem_of_mem_take hx))
    have hx := h _ (List.mem_of_getElem? (gi_at hi))
    have hlt : ((l.take i).length : Int) ≤ 1000 := by rw [List.length_take]; omega
    have h2 : M * ((l.take i).length : Int) ≤ 1000 * 1000 := Int.le_trans (Int.mul_le_mul_of_nonneg_right hM.2 (Int.natCast_nonneg _)) (Int.mul_le_mul_of_nonneg_left hlt (by decide))
    show bulk_total_B1 l (bulk_total_L1 l k) _ _ = _
    unfold bulk_total_B1
    rw [if_pos (by omega), ix_nat (gi_at hi), gd_pos (by omega), gd_pos (by omega), tot_take hi]; rfl
  · show bulk_total_B1 l (bulk_total_L1 l k) _ _ = _
    unfold bulk_total_B1
    rw [if_neg (by omega), List.take_length]; rfl
theorem rsum_eq {M : Int} (hM : 0 ≤ M ∧ M ≤ 1000) {l : List Int} (hl : l.length ≤ 1000) (h : ∀ x ∈ l, 0 ≤ x ∧ x ≤ M) : ref07_sum l = some (tot l) := by
  unfold ref07_sum
  refine Eq.trans (for0 l.length (fun i => tot (l.take i)) (fun k s i => ref07_sum_L1 l k s i) (some (tot l)) rfl (fun k i hi => ?_) (fun k => ?_) (by omega)) rfl
  · have hb := tot_bnd hM.1 (l.take i) (fun x hx => h x (List.mem_of_mem_take hx))
    have hx := h _ (List.mem_of_getElem? (gi_at hi))
    have hlt : ((l.take i).length : Int) ≤ 1000 := by rw [List.length_take]; omega
    have h2 : M * ((l.take i).length : Int) ≤ 1000 * 1000 := Int.le_trans (Int.mul_le_mul_of_nonneg_right hM.2 (Int.natCast_nonneg _)) (Int.mul_le_mul_of_nonneg_left hlt (by decide))
    show ref07_sum_B1 l (ref07_sum_L1 l k) _ _ = _
    unfold ref07_sum_B1
    rw [if_pos (by omega), ix_nat (gi_at hi), gd_pos (by omega), gd_pos (by omega), tot_take hi]; rfl
  · show ref07_sum_B1 l (ref07_sum_L1 l k) _ _ = _
    unfold ref07_sum_B1
    rw [if_neg (by omega), List.take_length]; rfl
theorem indexF_eq {l : List Int} {f : Int → Option Bool} {p : Int → Bool} (hf : ∀ x, f x = some (p x)) (hl : l.length ≤ 1000) : ∀ (suf pre : List Int) (k : Nat), l = pre ++ suf → suf.length < k → ∃ i : Int, slices_IndexFunc_int_L1 l f k (pre.length : Int) = some i ∧ (0 ≤ i ↔ suf.any p = true)
  | [], pre, k + 1, h, hk => by
    refine ⟨-1, ?_, by simp⟩
    show slices_IndexFunc_int_B1 l f (slices_IndexFunc_int_L1 l f k) _ = _
    unfold slices_IndexFunc_int_B1
    rw [if_neg (by rw [h]; simp)]; rfl
  | y :: r, pre, k + 1, h, hk => by
    have hy : l[pre.length]? = some y := by rw [h, List.getElem?_append_right (Nat.le_refl _)]; simp
    have := lt_of_at hy
    obtain ⟨i, h1, h2⟩ := indexF_eq hf hl r (pre ++ [y]) k (by rw [h]; simp) (by simp at hk; omega)
    have e : slices_IndexFunc_int_L1 l f (k + 1) (pre.length : Int) = slices_IndexFunc_int_B1 l f (slices_IndexFunc_int_L1 l f k) (pre.length : Int) := rfl
    rw [e]
    unfold slices_IndexFunc_int_B1
    rw [if_pos (by omega), ix_nat hy, bnd_eq (hf y)]
    by_cases hp : p y = true
    · rw [if_pos hp]
      exact ⟨_, rfl, by simp [hp]⟩
    · rw [if_neg hp, gd_pos (by omega)]
      rw [show (((pre ++ [y]).length : Nat) : Int) = (pre.length : Int) + 1 by simp] at h1
      exact ⟨i, h1, by rw [h2]; simp [hp]⟩
theorem containsF_eq {l : List Int} {f : Int → Option Bool} {p : Int → Bool} (hf : ∀ x, f x = some (p x)) (hl : l.length ≤ 1000) : slices_ContainsFunc_int l f = some (l.any p) := by
  obtain ⟨i, h1, h2⟩ := indexF_eq hf hl l [] FU rfl (by have := FU_pos; omega)
  unfold slices_ContainsFunc_int slices_IndexFunc_int
  have h1' : slices_IndexFunc_int_L1 l f FU 0 = some i := h1
  rw [bnd_eq h1']
  congr 1
  by_cases h : l.any p = true
  · rw [decide_eq_true (h2.2 h), h]
  · rw [decide_eq_false (fun hc => h (h2.1 hc))]; simpa using h
theorem any_not {α : Type} (l : List α) (p : α → Bool) : (!(l.any (fun x => !p x))) = l.all p := by
  induction l with
  | nil => rfl
  | cons x r ih => simp only [List.any_cons, List.all_cons, Bool.not_or, Bool.not_not, ih]
def amtB (l : List Int) : Bool := (decide (1 ≤ l.length) && decide (l.length ≤ 4)) && l.all (fun x => within x 0 30)
def rowB (n : Nat) (most : Int) (row : List Int) : Bool := decide (row.length = n) && row.all (fun x => within x 0 most)
def tabB (t : Trade) (l : List (List Int)) (most : Int) : Bool := decide (l.length = t.supply.length) && l.all (rowB t.demand.length most)
def okT (t : Trade) : Bool := amtB t.supply && amtB t.demand && decide (tot t.supply = tot t.demand) && tabB t t.cost 99
def validate (t : Trade) : Int := if okT t = true then 0 else 1
theorem amounts_eq {l : List Int} (hl : l.length ≤ 1000) : bulk_amounts l = some (amtB l) := by
  unfold bulk_amounts amtB
  rw [bnd_eq (bwithin_eq _ _ _)]
  have e : within (l.length : Int) 1 4 = (decide (1 ≤ l.length) && decide (l.length ≤ 4)) := by
    rw [Bool.eq_iff_iff, within_iff]; simp; omega
  rw [e]
  cases (decide (1 ≤ l.length) && decide (l.length ≤ 4))
  · rfl
  · rw [if_pos rfl, bnd_eq (containsF_eq (p := fun x => !within x 0 30) (fun x => by unfold bulk_amounts_1; rw [bnd_eq (bwithin_eq _ _ _)]) hl), any_not]; rfl
theorem ramounts_eq {l : List Int} (hl : l.length ≤ 1000) : ref07_amounts l = some (amtB l) := by
  unfold ref07_amounts amtB
  have e : within (l.length : Int) 1 4 = (decide (1 ≤ l.length) && decide (l.length ≤ 4)) := by
    rw [Bool.eq_iff_iff, within_iff]; simp; omega
  rw [list_loop0 l (fun x => within x 0 30) (ref07_amounts_L1 l) (some (decide (1 ≤ l.length) && decide (l.length ≤ 4))) (some false) (fun k i x hx => ?_) (fun k => ?_) (by omega)]
  · cases l.all (fun x => within x 0 30) <;> simp
  · have := lt_of_at hx
    show ref07_amounts_B1 l (ref07_amounts_L1 l k) _ = _
    unfold ref07_amounts_B1
    rw [if_pos (by omega), ix_nat hx, bnd_eq (rwithin_eq _ _ _)]
    by_cases h : within x 0 30 = true
    · rw [if_pos h, gd_pos (by omega), if_pos h]; rfl
    · rw [if_neg h, if_neg h]
  · show ref07_amounts_B1 l (ref07_amounts_L1 l k) _ = _
    unfold ref07_amounts_B1 ref07_amounts_k1
    rw [if_neg (by omega), bnd_eq (rwithin_eq _ _ _), e]
def Tsmall (t : Trade) : Prop := t.supply.length ≤ 50 ∧ t.demand.length ≤ 50 ∧ t.cost.length ≤ 50 ∧ ∀ r ∈ t.cost, r.length ≤ 50
def Lsmall (l : List (List Int)) : Prop := l.length ≤ 50 ∧ ∀ r ∈ l, r.length ≤ 50
theorem table_eq {t : Trade} (ht : t.supply.length ≤ 1000 ∧ t.demand.length ≤ 1000) {l : List (List Int)} (hl : Lsmall l) (most : Int) : bulk_table t l most = some (tabB t l most) := by
  unfold bulk_table tabB
  have hl1 := hl.1
  by_cases h : l.length = t.supply.length
  · rw [if_pos (by omega), decide_eq_true h, Bool.true_and, list_loop0 l (rowB t.demand.length most) (bulk_table_L1 t l most) (some true) (some false) (fun k i x hx => ?_) (fun k => ?_) (by omega)]
    · cases l.all (rowB t.demand.length most) <;> rfl
    · have := lt_of_at hx
      have hx50 := hl.2 x (List.mem_of_getElem? hx)
      show bulk_table_B1 t l most (bulk_table_L1 t l most k) _ = _
      unfold bulk_table_B1 bulk_table_k2 rowB
      rw [if_pos (by omega), ix_nat hx]
      by_cases hr : x.length = t.demand.length
      · rw [if_pos (by omega), bnd_eq (containsF_eq (p := fun y => !within y 0 most) (fun y => by unfold bulk_table_1; rw [bnd_eq (bwithin_eq _ _ _)]) (by omega)), decide_eq_true hr, Bool.true_and, ← any_not]
        cases x.any (fun y => !within y 0 most)
        · rw [if_neg (by simp), gd_pos (by omega), if_pos (by rfl)]; rfl
        · rw [if_pos rfl, if_neg (by simp)]
      · rw [if_neg (by omega), if_pos rfl, decide_eq_false hr, if_neg (by simp)]
    · show bulk_table_B1 t l most (bulk_table_L1 t l most k) _ = _
      unfold bulk_table_B1
      rw [if_neg (by omega)]; rfl
  · rw [if_neg (by omega), decide_eq_false h]; rfl
theorem rtable_eq {t : Trade} (ht : t.supply.length ≤ 1000 ∧ t.demand.length ≤ 1000) {l : List (List Int)} (hl : Lsmall l) (most : Int) : ref07_table t l most = some (tabB t l most) := by
  unfold ref07_table tabB
  have hl1 := hl.1
  by_cases h : l.length = t.supply.length
  · rw [if_pos (by omega), decide_eq_true h, Bool.true_and, list_loop0 l (rowB t.demand.length most) (ref07_table_L2 t l most) (some true) (some false) (fun k i x hx => ?_) (fun k => ?_) (by omega)]
    · cases l.all (rowB t.demand.length most) <;> rfl
    · have := lt_of_at hx
      have hx50 := hl.2 x (List.mem_of_getElem? hx)
      show ref07_table_B2 t l most (ref07_table_L2 t l most k) _ = _
      unfold ref07_table_B2 rowB
      rw [if_pos (by omega), ix_nat hx]
      by_cases hr : x.length = t.demand.length
      · rw [if_pos (by omega), decide_eq_true hr, Bool.true_and, list_loop0 x (fun y => within y 0 most) (ref07_table_L1 l most (i : Int) (ref07_table_L2 t l most k)) (ref07_table_L2 t l most k ((i + 1 : Nat) : Int)) (some false) (fun q j y hy => ?_) (fun q => ?_) (by omega)]
        · have := lt_of_at hy
          show ref07_table_B1 l most (i : Int) (ref07_table_L2 t l most k) (ref07_table_L1 l most (i : Int) (ref07_table_L2 t l most k) q) _ = _
          unfold ref07_table_B1
          rw [ix_nat hx, if_pos (by omega), ix_nat hx, ix_nat hy, bnd_eq (rwithin_eq _ _ _)]
          by_cases hw : within y 0 most = true
          · rw [if_pos hw, gd_pos (by omega), if_pos hw]; rfl
          · rw [if_neg hw, if_neg hw]
        · show ref07_table_B1 l most (i : Int) (ref07_table_L2 t l most k) (ref07_table_L1 l most (i : Int) (ref07_table_L2 t l most k) q) _ = _
          unfold ref07_table_B1 ref07_table_k2
          rw [ix_nat hx, if_neg (by omega), gd_pos (by omega)]; rfl
      · rw [if_neg (by omega), decide_eq_false hr, if_neg (by simp)]
    · show ref07_table_B2 t l most (ref07_table_L2 t l most k) _ = _
      unfold ref07_table_B2
      rw [if_neg (by omega)]; rfl
  · rw [if_neg (by omega), decide_eq_false h]; rfl
theorem amt_mem {l : List Int} (h : amtB l = true) : 1 ≤ l.length ∧ l.length ≤ 4 ∧ ∀ x ∈ l, 0 ≤ x ∧ x ≤ 30 := by
  unfold amtB at h
  simp only [Bool.and_eq_true, decide_eq_true_eq, List.all_eq_true, within_iff] at h
  exact ⟨h.1.1, h.1.2, h.2⟩
theorem Validate_eq {t : Trade} (ht : Tsmall t) : bulk_Validate t = some (validate t) := by
  obtain ⟨h1, h2, h3, h4⟩ := ht
  unfold bulk_Validate validate okT bulk_Validate_k1
  rw [bnd_eq (amounts_eq (by omega))]
  cases ha : amtB t.supply
  · rw [if_neg (by simp), if_pos rfl]; rfl
  · rw [if_pos rfl, bnd_eq (amounts_eq (by omega))]
    cases hb : amtB t.demand
    · rw [if_neg (by simp), if_pos rfl]; rfl
    · have m1 := amt_mem ha
      have m2 := amt_mem hb
      rw [if_pos rfl, bnd_eq (total_eq (M := 30) (by decide) (by omega) m1.2.2), bnd_eq (total_eq (M := 30) (by decide) (by omega) m2.2.2)]
      by_cases he : tot t.supply = tot t.demand
      · rw [if_pos he, bnd_eq (table_eq ⟨by omega, by omega⟩ ⟨h3, h4⟩ _), decide_eq_true he]
        cases tabB t t.cost 99 <;> rfl
      · rw [if_neg he, if_pos rfl, decide_eq_false he]; rfl
theorem rValidate_eq {t : Trade} (ht : Tsmall t) : ref07_Validate t = some (validate t) := by
  obtain ⟨h1, h2, h3, h4⟩ := ht
  unfold ref07_Validate validate okT ref07_Validate_k1
  rw [bnd_eq (ramounts_eq (by omega))]
  cases ha : amtB t.supply
  · rw [if_neg (by simp), if_pos rfl]; rfl
  · rw [if_pos rfl, bnd_eq (ramounts_eq (by omega))]
    cases hb : amtB t.demand
    · rw [if_neg (by simp), if_pos rfl]; rfl
    · have m1 := amt_mem ha
      have m2 := amt_mem hb
      rw [if_pos rfl, bnd_eq (rsum_eq (M := 30) (by decide) (by omega) m1.2.2), bnd_eq (rsum_eq (M := 30) (by decide) (by omega) m2.2.2)]
      by_cases he : tot t.supply = tot t.demand
      · rw [if_pos he, bnd_eq (rtable_eq ⟨by omega, by omega⟩ ⟨h3, h4⟩ _), decide_eq_true he]
        cases tabB t t.cost 99 <;> rfl
      · rw [if_neg he, if_pos rfl, decide_eq_false he]; rfl
end Go.D7

set_option linter.unusedVariables false
set_option linter.unusedSimpArgs false
namespace Go.D7
open Go.Tb
def sumN : Nat → (Nat → Int) → Int
  | 0, _ => 0
  | n + 1, f => sumN n f + f n
theorem sumN_congr {f g : Nat → Int} : ∀ n, (∀ i, i < n → f i = g i) → sumN n f = sumN n g
  | 0, _ => rfl
  | n + 1, h => by simp only [sumN, sumN_congr n (fun i hi => h i (by omega)), h n (by omega)]
theorem sumN_bnd {M : Int} {f : Nat → Int} : ∀ n, (∀ i, i < n → 0 ≤ f i ∧ f i ≤ M) → 0 ≤ sumN n f ∧ sumN n f ≤ M * (n : Int)
  | 0, _ => by simp [sumN]
  | n + 1, h => by
    have ih := sumN_bnd n (fun i hi => h i (by omega))
    have hn := h n (by omega)
    rw [show ((n + 1 : Nat) : Int) = (n : Int) + 1 by omega, Int.mul_add]
    simp only [sumN]; omega
theorem sumN_add (f g : Nat → Int) : ∀ n, sumN n (fun i => f i + g i) = sumN n f + sumN n g
  | 0 => rfl
  | n + 1 => by simp only [sumN, sumN_add f g n]; omega
theorem sumN_mul (c : Int) (f : Nat → Int) : ∀ n, sumN n (fun i => c * f i) = c * sumN n f
  | 0 => by simp [sumN]
  | n + 1 => by simp only [sumN, sumN_mul c f n, Int.mul_add]
theorem sumN_zero : ∀ n, sumN n (fun _ => 0) = 0
  | 0 => rfl
  | n + 1 => by simp only [sumN, sumN_zero n]; rfl
theorem sumN_swap (f : Nat → Nat → Int) (m : Nat) : ∀ n, sumN n (fun i => sumN m (fun j => f i j)) = sumN m (fun j => sumN n (fun i => f i j))
  | 0 => by simp only [sumN]; rw [sumN_zero]
  | n + 1 => by simp only [sumN, sumN_swap f m n, sumN_add]
theorem sumN_le {f g : Nat → Int} : ∀ n, (∀ i, i < n → f i ≤ g i) → sumN n f ≤ sumN n g
  | 0, _ => Int.le_refl _
  | n + 1, h => by
    have ih := sumN_le n (fun i hi => h i (by omega))
    have hn := h n (by omega)
    simp only [sumN]; omega
theorem tot_sumN (l : List Int) : tot l = sumN l.length (gi l) := by
  have key : ∀ i, i ≤ l.length → tot (l.take i) = sumN i (gi l) := by
    intro i
    induction i with
    | zero => intro _; rfl
    | succ i ih => intro h; rw [tot_take (by omega), ih (by omega)]; rfl
  have := key l.length (Nat.le_refl _)
  rwa [List.take_length] at this
def tb (m : Nat) (f : Nat → Int) : List Int := (List.range m).map f
theorem tb_len (m : Nat) (f : Nat → Int) : (tb m f).length = m := by unfold tb; simp
theorem tb_at {m : Nat} {f : Nat → Int} {k : Nat} (h : k < m) : (tb m f)[k]? = some (f k) := by unfold tb; simp [h]
theorem tb_gi {m : Nat} {f : Nat → Int} {k : Nat} (h : k < m) : gi (tb m f) k = f k := gi_of (tb_at h)
theorem tb_congr {m : Nat} {f g : Nat → Int} (h : ∀ k, k < m → f k = g k) : tb m f = tb m g := by
  unfold tb
  apply List.map_congr_left
  intro k hk
  exact h k (List.mem_range.1 hk)
theorem tb_set {m : Nat} {f : Nat → Int} {k : Nat} (v : Int) : (tb m f).set k v = tb m (fun j => if j = k then v else f j) := by
  apply List.ext_getElem?
  intro j
  rw [List.getElem?_set]
  unfold tb
  by_cases hj : j < m
  · by_cases hk : k = j
    · subst hk; simp [hj]
    · rw [if_neg hk]
      simp only [List.getElem?_map, List.getElem?_range hj, Option.map_some]
      rw [if_neg (fun e => hk e.symm)]
  · have h1 : (List.range m)[j]? = none := by rw [List.getElem?_eq_none]; simpa using hj
    simp only [List.getElem?_map, h1, Option.map_none]
    by_cases hk : k = j
    · subst hk; simp [hj]
    · rw [if_neg hk]
theorem tb_self (l : List Int) : tb l.length (gi l) = l := by
  apply List.ext_getElem?
  intro j
  by_cases hj : j < l.length
  · rw [tb_at hj, gi_at hj]
  · rw [List.getElem?_eq_none (by rw [tb_len]; omega), List.getElem?_eq_none (by omega)]
theorem rep_tb (m : Nat) : List.replicate m (0 : Int) = tb m (fun _ => 0) := by
  unfold tb
  induction m with
  | zero => rfl
  | succ m ih => rw [List.replicate_succ', ih, List.range_succ, List.map_append]; rfl
def cell (l : List (List Int)) (i j : Nat) : Int := gi (gr l i) j
def col (l : List (List Int)) (i j : Nat) : Int := sumN i (fun q => cell l q j)
def rowsB (t : Trade) (l : List (List Int)) (i : Nat) : Bool := decide (tot (gr l i) = gi t.supply i)
def checkPlan (t : Trade) (l : List (List Int)) : Int :=
  if okT t = true then (if tabB t l 120 = true then (if (∀ i, i < l.length → rowsB t l i = true) then (if tb t.demand.length (col l l.length) = t.demand then 0 else 6) else 6) else 1) else 1
theorem tab_spec {t : Trade} {l : List (List Int)} {most : Int} (h : tabB t l most = true) : l.length = t.supply.length ∧ ∀ i, i < l.length → (gr l i).length = t.demand.length ∧ (∀ x ∈ gr l i, 0 ≤ x ∧ x ≤ most) ∧ ∀ j, j < t.demand.length → 0 ≤ cell l i j ∧ cell l i j ≤ most := by
  unfold tabB at h
  simp only [Bool.and_eq_true, decide_eq_true_eq, List.all_eq_true] at h
  refine ⟨h.1, fun i hi => ?_⟩
  have hm := h.2 (gr l i) (List.mem_of_getElem? (gr_at hi))
  unfold rowB at hm
  simp only [Bool.and_eq_true, decide_eq_true_eq, List.all_eq_true, within_iff] at hm
  exact ⟨hm.1, hm.2, fun j hj => hm.2 _ (List.mem_of_getElem? (gi_at (by omega)))⟩
theorem okT_spec {t : Trade} (h : okT t = true) : (1 ≤ t.supply.length ∧ t.supply.length ≤ 4 ∧ ∀ x ∈ t.supply, 0 ≤ x ∧ x ≤ 30) ∧ (1 ≤ t.demand.length ∧ t.demand.length ≤ 4 ∧ ∀ x ∈ t.demand, 0 ≤ x ∧ x ≤ 30) ∧ tot t.supply = tot t.demand ∧ tabB t t.cost 99 = true := by
  unfold okT at h
  simp only [Bool.and_eq_true, decide_eq_true_eq] at h
  exact ⟨amt_mem h.1.1.1, amt_mem h.1.1.2, h.1.2, h.2⟩
section
variable {t : Trade} {l : List (List Int)}
def rowCost (t : Trade) (l : List (List Int)) (i j : Nat) : Int := sumN j (fun q => cell l i q * cell t.cost i q)
def costN (t : Trade) (l : List (List Int)) (i : Nat) : Int := sumN i (fun q => rowCost t l q t.demand.length)
theorem mul_bnd {x y X Y : Int} (hx : 0 ≤ x ∧ x ≤ X) (hy : 0 ≤ y ∧ y ≤ Y) : 0 ≤ x * y ∧ x * y ≤ X * Y :=
  ⟨Int.mul_nonneg hx.1 hy.1, Int.le_trans (Int.mul_le_mul_of_nonneg_right hx.2 hy.1) (Int.mul_le_mul_of_nonneg_left hy.2 (by omega))⟩
theorem cell_cost (hv : okT t = true) (h : tabB t l 120 = true) {i j : Nat} (hi : i < l.length) (hj : j < t.demand.length) : 0 ≤ cell l i j * cell t.cost i j ∧ cell l i j * cell t.cost i j ≤ 11880 := by
  have h1 := tab_spec h
  have h2 := tab_spec (okT_spec hv).2.2.2
  exact mul_bnd (X := 120) (Y := 99) ((h1.2 i hi).2.2 j hj) ((h2.2 i (by omega)).2.2 j hj)
theorem rowCost_bnd (hv : okT t = true) (h : tabB t l 120 = true) {i j : Nat} (hi : i < l.length) (hj : j ≤ t.demand.length) : 0 ≤ rowCost t l i j ∧ rowCost t l i j ≤ 11880 * (j : Int) :=
  sumN_bnd j (fun q hq => cell_cost hv h hi (by omega))
theorem costN_bnd (hv : okT t = true) (h : tabB t l 120 = true) {i : Nat} (hi : i ≤ l.length) : 0 ≤ costN t l i ∧ costN t l i ≤ 47520 * (i : Int) := by
  have hd := (okT_spec hv).2.1.2.1
  exact sumN_bnd i (fun q hq => by have := rowCost_bnd hv h (i := q) (by omega) (Nat.le_refl _); omega)
theorem cost_in (hv : okT t = true) (h : tabB t l 120 = true) {i : Nat} (hi : i < l.length) (rec1 : Int → Int → Option Int) : bulk_cost_L1 t (i : Int) rec1 (gr l i) FU (costN t l i) 0 = bulk_cost_k2 (i : Int) rec1 (costN t l (i + 1)) := by
  obtain ⟨h1, h2⟩ := tab_spec h
  obtain ⟨c1, c2⟩ := tab_spec (okT_spec hv).2.2.2
  have hd := (okT_spec hv).2.1.2.1
  have hs := (okT_spec hv).1.2.1
  have hr := h2 i hi
  have hc := c2 i (by omega)
  have hb := costN_bnd hv h (i := i) (by omega)
  refine for0 t.demand.length (fun j => costN t l i + rowCost t l i j) (fun k s q => bulk_cost_L1 t (i : Int) rec1 (gr l i) k s q) _ (by simp [rowCost, sumN]) (fun k q hq => ?_) (fun k => ?_) (by omega)
  · have hx : (gr l i)[q]? = some (cell l i q) := gi_at (by omega)
    have hy : (gr t.cost i)[q]? = some (cell t.cost i q) := gi_at (by omega)
    have b1 := rowCost_bnd hv h hi (j := q) (by omega)
    have b2 := cell_cost hv h hi hq
    show bulk_cost_B1 t (i : Int) rec1 (gr l i) (bulk_cost_L1 t (i : Int) rec1 (gr l i) k) _ _ = _
    unfold bulk_cost_B1
    rw [if_pos (by omega), ix_nat hx, ix_nat (gr_at (by omega)), ix_nat hy, gd_pos (by omega), gd_pos (by omega), gd_pos (by omega), Int.add_assoc]; rfl
  · show bulk_cost_B1 t (i : Int) rec1 (gr l i) (bulk_cost_L1 t (i : Int) rec1 (gr l i) k) _ _ = _
    unfold bulk_cost_B1
    rw [if_neg (by omega)]; rfl
theorem cost_eq (hv : okT t = true) (h : tabB t l 120 = true) : bulk_cost t l = some (costN t l l.length) := by
  obtain ⟨h1, h2⟩ := tab_spec h
  have hs := (okT_spec hv).1.2.1
  unfold bulk_cost
  refine for0 l.length (costN t l) (fun k s i => bulk_cost_L2 t l k s i) _ rfl (fun k i hi => ?_) (fun k => ?_) (by omega)
  · show bulk_cost_B2 t l (bulk_cost_L2 t l k) _ _ = _
    unfold bulk_cost_B2
    rw [if_pos (by omega), ix_nat (gr_at hi), cost_in hv h hi]
    unfold bulk_cost_k2
    rw [gd_pos (by omega)]; rfl
  · show bulk_cost_B2 t l (bulk_cost_L2 t l k) _ _ = _
    unfold bulk_cost_B2
    rw [if_neg (by omega)]; rfl
theorem rcost_in (hv : okT t = true) (h : tabB t l 120 = true) {i : Nat} (hi : i < l.length) (rec1 : Int → Int → Option Int) : ref07_cost_L1 t l (i : Int) rec1 FU (costN t l i) 0 = ref07_cost_k2 (i : Int) rec1 (costN t l (i + 1)) := by
  obtain ⟨h1, h2⟩ := tab_spec h
  obtain ⟨c1, c2⟩ := tab_spec (okT_spec hv).2.2.2
  have hd := (okT_spec hv).2.1.2.1
  have hs := (okT_spec hv).1.2.1
  have hr := h2 i hi
  have hc := c2 i (by omega)
  have hb := costN_bnd hv h (i := i) (by omega)
  refine for0 t.demand.length (fun j => costN t l i + rowCost t l i j) (fun k s q => ref07_cost_L1 t l (i : Int) rec1 k s q) _ (by simp [rowCost, sumN]) (fun k q hq => ?_) (fun k => ?_) (by omega)
  · have hx : (gr l i)[q]? = some (cell l i q) := gi_at (by omega)
    have hy : (gr t.cost i)[q]? = some (cell t.cost i q) := gi_at (by omega)
    have b1 := rowCost_bnd hv h hi (j := q) (by omega)
    have b2 := cell_cost hv h hi hq
    show ref07_cost_B1 t l (i : Int) rec1 (ref07_cost_L1 t l (i : Int) rec1 k) _ _ = _
    unfold ref07_cost_B1
    rw [ix_nat (gr_at hi), if_pos (by omega), ix_nat (gr_at hi), ix_nat hx, ix_nat (gr_at (by omega)), ix_nat hy, gd_pos (by omega), gd_pos (by omega), gd_pos (by omega), Int.add_assoc]; rfl
  · show ref07_cost_B1 t l (i : Int) rec1 (ref07_cost_L1 t l (i : Int) rec1 k) _ _ = _
    unfold ref07_cost_B1
    rw [ix_nat (gr_at hi), if_neg (by omega)]; rfl
theorem rcost_eq (hv : okT t = true) (h : tabB t l 120 = true) : ref07_cost t l = some (costN t l l.length) := by
  obtain ⟨h1, h2⟩ := tab_spec h
  have hs := (okT_spec hv).1.2.1
  unfold ref07_cost
  refine for0 l.length (costN t l) (fun k s i => ref07_cost_L2 t l k s i) _ rfl (fun k i hi => ?_) (fun k => ?_) (by omega)
  · show ref07_cost_B2 t l (ref07_cost_L2 t l k) _ _ = _
    unfold ref07_cost_B2
    rw [if_pos (by omega), rcost_in hv h hi]
    unfold ref07_cost_k2
    rw [gd_pos (by omega)]; rfl
  · show ref07_cost_B2 t l (ref07_cost_L2 t l k) _ _ = _
    unfold ref07_cost_B2
    rw [if_neg (by omega)]; rfl
theorem check0 (h : checkPlan t l = 0) : okT t = true ∧ tabB t l 120 = true ∧ (∀ i, i < l.length → tot (gr l i) = gi t.supply i) ∧ ∀ j, j < t.demand.length → col l l.length j = gi t.demand j := by
  unfold checkPlan at h
  split at h
  · rename_i hv
    split at h
    · rename_i hT
      split at h
      · rename_i hr
        split at h
        · rename_i hc
          refine ⟨hv, hT, fun i hi => by simpa [rowsB] using hr i hi, fun j hj => ?_⟩
          have := tb_gi (f := col l l.length) hj
          rw [hc] at this
          exact this.symm
        · cases h
      · cases h
    · cases h
  · cases h
end
instance (l : List (List Int)) : Decidable (Lsmall l) := by unfold Lsmall; infer_instance
theorem tabLong_eq {l : List (List Int)} (hl : l.length ≤ 9223372036854775807) : law07_table l = some (!(l.all (fun r => decide (r.length ≤ 50)) && decide (l.length ≤ 50))) := by
  unfold law07_table
  rw [list_loop0 l (fun r => decide (r.length ≤ 50)) (law07_table_L1 l) (some (decide (50 < l.length))) (some true) (fun k i x hx => ?_) (fun k => ?_) hl]
  · cases l.all (fun r => decide (r.length ≤ 50))
    · rfl
    · rw [if_pos rfl, Bool.true_and]
      congr 1
      rw [Bool.eq_iff_iff]; simp
  · have := lt_of_at hx
    show law07_table_B1 l (law07_table_L1 l k) _ = _
    unfold law07_table_B1
    rw [if_pos (by omega), ix_nat hx]
    by_cases h : x.length ≤ 50
    · rw [if_neg (by omega), gd_pos (by omega), if_pos (by simpa using h)]; rfl
    · rw [if_pos (by omega), if_neg (by simpa using h)]
  · show law07_table_B1 l (law07_table_L1 l k) _ = _
    unfold law07_table_B1 law07_table_k1
    rw [if_neg (by omega)]
    congr 1
    exact decide_eq_decide.2 (by omega)
theorem small_iff {l : List (List Int)} : (!(l.all (fun r => decide (r.length ≤ 50)) && decide (l.length ≤ 50))) = false ↔ Lsmall l := by
  unfold Lsmall
  simp only [Bool.not_eq_false', Bool.and_eq_true, List.all_eq_true, decide_eq_true_eq]
  exact ⟨fun h => ⟨h.2, h.1⟩, fun h => ⟨h.2, h.1⟩⟩
/-- Long says true, or all is small. -/
theorem Long0 {t : Trade} (h3 : t.cost.length ≤ 9223372036854775807) : (law07_Long t [] = some true) ∨ (law07_Long t [] = some false ∧ Tsmall t) := by
  have e : law07_Long t [] = law07_Long_k1 t := by
    unfold law07_Long
    rw [list_loop0 ([] : List (List (List Int))) (fun _ => true) (law07_Long_L1 t []) (law07_Long_k1 t) (some true) (fun k i x hx => by cases hx) (fun k => ?_) (by simp)]
    · rfl
    · show law07_Long_B1 t [] (law07_Long_L1 t [] k) _ = _
      unfold law07_Long_B1
      rw [if_neg (by simp)]
  rw [e]
  unfold law07_Long_k1
  by_cases a : (50 : Int) < (t.supply.length : Int)
  · rw [if_pos a]; exact .inl rfl
  · rw [if_neg a]
    by_cases b : (50 : Int) < (t.demand.length : Int)
    · rw [if_pos b]; exact .inl rfl
    · rw [if_neg b, bnd_eq (tabLong_eq h3)]
      cases hq : (!(t.cost.all (fun r => decide (r.length ≤ 50)) && decide (t.cost.length ≤ 50)))
      · have := small_iff.1 hq
        exact .inr ⟨rfl, by omega, by omega, this.1, this.2⟩
      · exact .inl rfl
end Go.D7

set_option linter.unusedVariables false
set_option linter.unusedSimpArgs false
namespace Go.D7
open Go.Tb
def tg {α : Type} (m : Nat) (f : Nat → α) : List α := (List.range m).map f
section
variable {α : Type}
theorem tg_len (m : Nat) (f : Nat → α) : (tg m f).length = m := by unfold tg; simp
theorem tg_at {m : Nat} {f : Nat → α} {k : Nat} (h : k < m) : (tg m f)[k]? = some (f k) := by unfold tg; simp [h]
theorem tg_congr {m : Nat} {f g : Nat → α} (h : ∀ k, k < m → f k = g k) : tg m f = tg m g := by
  unfold tg
  apply List.map_congr_left
  intro k hk
  exact h k (List.mem_range.1 hk)
theorem tg_set {m : Nat} {f : Nat → α} {k : Nat} (v : α) : (tg m f).set k v = tg m (fun j => if j = k then v else f j) := by
  apply List.ext_getElem?
  intro j
  rw [List.getElem?_set]
  unfold tg
  by_cases hj : j < m
  · by_cases hk : k = j
    · subst hk; simp [hj]
    · rw [if_neg hk]
      simp only [List.getElem?_map, List.getElem?_range hj, Option.map_some]
      rw [if_neg (fun e => hk e.symm)]
  · have h1 : (List.range m)[j]? = none := by rw [List.getElem?_eq_none]; simpa using hj
    simp only [List.getElem?_map, h1, Option.map_none]
    by_cases hk : k = j
    · subst hk; simp [hj]
    · rw [if_neg hk]
theorem tg_push (m : Nat) (f : Nat → α) : tg m f ++ [f m] = tg (m + 1) f := by
  unfold tg; rw [List.range_succ, List.map_append]; rfl
theorem rep_tg (m : Nat) (x : α) : List.replicate m x = tg m (fun _ => x) := by
  unfold tg
  induction m with
  | zero => rfl
  | succ m ih => rw [List.replicate_succ', ih, List.range_succ, List.map_append]; rfl
end
/-- A table by a function. -/
def tbl (n m : Nat) (f : Nat → Nat → Int) : List (List Int) := tg n (fun i => tb m (f i))
theorem tbl_len (n m : Nat) (f : Nat → Nat → Int) : (tbl n m f).length = n := tg_len _ _
theorem tbl_at {n m : Nat} {f : Nat → Nat → Int} {i : Nat} (h : i < n) : (tbl n m f)[i]? = some (tb m (f i)) := tg_at h
theorem tbl_gr {n m : Nat} {f : Nat → Nat → Int} {i : Nat} (h : i < n) : gr (tbl n m f) i = tb m (f i) := gr_of (tbl_at h)
theorem tbl_cell {n m : Nat} {f : Nat → Nat → Int} {i j : Nat} (h : i < n) (hj : j < m) : cell (tbl n m f) i j = f i j := by
  unfold cell; rw [tbl_gr h, tb_gi hj]
theorem tbl_congr {n m : Nat} {f g : Nat → Nat → Int} (h : ∀ i j, i < n → j < m → f i j = g i j) : tbl n m f = tbl n m g :=
  tg_congr fun i hi => tb_congr fun j hj => h i j hi hj
theorem tbl_set {n m : Nat} {f : Nat → Nat → Int} {i j : Nat} (h : i < n) (v : Int) : (tbl n m f).set i ((tb m (f i)).set j v) = tbl n m (fun p q => if p = i ∧ q = j then v else f p q) := by
  unfold tbl
  rw [tg_set, tb_set]
  refine tg_congr fun p hp => ?_
  by_cases e : p = i
  · subst e
    rw [if_pos rfl]
    refine tb_congr fun q hq => ?_
    show (if q = j then v else f p q) = (if p = p ∧ q = j then v else f p q)
    by_cases e2 : q = j
    · rw [if_pos e2, if_pos ⟨rfl, e2⟩]
    · rw [if_neg e2, if_neg (fun h => e2 h.2)]
  · rw [if_neg e]
    refine tb_congr fun q hq => ?_
    show f p q = (if p = i ∧ q = j then v else f p q)
    rw [if_neg (fun h => e h.1)]
theorem tbl_small {n m : Nat} (hn : n ≤ 50) (hm : m ≤ 50) (f : Nat → Nat → Int) : Lsmall (tbl n m f) := by
  refine ⟨by rw [tbl_len]; exact hn, fun r hr => ?_⟩
  unfold tbl tg at hr
  obtain ⟨i, _, rfl⟩ := List.mem_map.1 hr
  rw [tb_len]; exact hm
/-- A plan as a function. -/
structure PlanF (t : Trade) (f : Nat → Nat → Int) : Prop where
  nn : ∀ i j, 0 ≤ f i j
  row : ∀ i, i < t.supply.length → sumN t.demand.length (f i) = gi t.supply i
  col : ∀ j, j < t.demand.length → sumN t.supply.length (fun i => f i j) = gi t.demand j
def tab (t : Trade) (f : Nat → Nat → Int) : List (List Int) := tbl t.supply.length t.demand.length f
theorem sumN_mem {f : Nat → Int} : ∀ {n k : Nat}, (∀ i, i < n → 0 ≤ f i) → k < n → f k ≤ sumN n f
  | n + 1, k, h, hk => by
    simp only [sumN]
    have h0 := (sumN_bnd (M := 0) 0 (f := f) (by simp)).1
    by_cases e : k = n
    · subst e
      have : 0 ≤ sumN k f := by
        have := sumN_le (f := fun _ => 0) (g := f) k (fun i hi => h i (by omega))
        rw [sumN_zero] at this; exact this
      omega
    · have := sumN_mem (n := n) (fun i hi => h i (by omega)) (show k < n by omega)
      have := h n (by omega)
      omega
theorem sumN_nn {f : Nat → Int} {n : Nat} (h : ∀ i, i < n → 0 ≤ f i) : 0 ≤ sumN n f := by
  have := sumN_le (f := fun _ => 0) (g := f) n h
  rw [sumN_zero] at this; exact this
theorem supply_bnd {t : Trade} (h : okT t = true) {i : Nat} (hi : i < t.supply.length) : 0 ≤ gi t.supply i ∧ gi t.supply i ≤ 30 := (okT_spec h).1.2.2 _ (List.mem_of_getElem? (gi_at hi))
theorem demand_bnd {t : Trade} (h : okT t = true) {i : Nat} (hi : i < t.demand.length) : 0 ≤ gi t.demand i ∧ gi t.demand i ≤ 30 := (okT_spec h).2.1.2.2 _ (List.mem_of_getElem? (gi_at hi))
theorem plan_le {t : Trade} (h : okT t = true) {f : Nat → Nat → Int} (hp : PlanF t f) {i j : Nat} (hi : i < t.supply.length) (hj : j < t.demand.length) : f i j ≤ 30 := by
  have h1 := sumN_mem (f := f i) (fun q _ => hp.nn i q) hj
  rw [hp.row i hi] at h1
  have := supply_bnd h hi
  omega
theorem plan_check {t : Trade} (h : okT t = true) {f : Nat → Nat → Int} (hp : PlanF t f) : checkPlan t (tab t f) = 0 := by
  have hT : tabB t (tab t f) 120 = true := by
    unfold tabB
    rw [Bool.and_eq_true]
    refine ⟨decide_eq_true (tbl_len _ _ _), List.all_eq_true.2 fun r hr => ?_⟩
    unfold tab tbl tg at hr
    obtain ⟨i, hi, rfl⟩ := List.mem_map.1 hr
    rw [List.mem_range] at hi
    unfold rowB
    rw [tb_len, decide_eq_true rfl, Bool.true_and]
    refine List.all_eq_true.2 fun x hx => ?_
    unfold tb at hx
    obtain ⟨j, hj, rfl⟩ := List.mem_map.1 hx
    rw [List.mem_range] at hj
    have := plan_le h hp hi hj
    have := hp.nn i j
    rw [within_iff]; omega
  unfold checkPlan
  rw [if_pos h, if_pos hT, if_pos, if_pos]
  · conv => rhs; rw [← tb_self t.demand]
    refine tb_congr fun j hj => ?_
    unfold col
    have e : (tab t f).length = t.supply.length := tbl_len _ _ _
    rw [e, ← hp.col j hj]
    exact sumN_congr _ fun i hi => tbl_cell hi hj
  · intro i hi
    have e : (tab t f).length = t.supply.length := tbl_len _ _ _
    unfold rowsB
    rw [decide_eq_true_eq]
    unfold tab
    rw [tbl_gr (by omega), tot_sumN, tb_len, ← hp.row i (by omega)]
    exact sumN_congr _ fun j hj => tb_gi hj
structure Cor (t : Trade) (i j : Nat) (f : Nat → Nat → Int) (a b : Nat → Int) : Prop where
  nn : ∀ p q, 0 ≤ f p q
  fresh : ∀ p q, (i < p ∨ (p = i ∧ j ≤ q)) → f p q = 0
  an : ∀ p, 0 ≤ a p
  bn : ∀ q, 0 ≤ b q
  a0 : ∀ p, p < i → a p = 0
  b0 : ∀ q, q < j → b q = 0
  row : ∀ p, p < t.supply.length → sumN t.demand.length (f p) + a p = gi t.supply p
  col : ∀ q, q < t.demand.length → sumN t.supply.length (fun p => f p q) + b q = gi t.demand q
  ai : ∀ p, p < t.supply.length → a p ≤ 30
  bi : ∀ q, q < t.demand.length → b q ≤ 30
theorem sumN_upd {g : Nat → Int} {k : Nat} {v : Int} : ∀ n, sumN n (fun q => if q = k then v else g q) = sumN n g + (if k < n then v - g k else 0)
  | 0 => by simp [sumN]
  | n + 1 => by
    simp only [sumN, sumN_upd n]
    by_cases e : n = k
    · subst e; rw [if_neg (by omega), if_pos rfl, if_pos (by omega)]; omega
    · rw [if_neg e]
      by_cases h : k < n
      · rw [if_pos h, if_pos (by omega)]; omega
      · rw [if_neg h, if_neg (by omega)]; omega
theorem sumN_zero_of {f : Nat → Int} {n : Nat} (h : ∀ i, i < n → 0 ≤ f i) (h0 : sumN n f = 0) : ∀ i, i < n → f i = 0 := fun i hi => by
  have := sumN_mem h hi
  have := h i hi
  omega
theorem cor_done {t : Trade} (ht : okT t = true) {i j : Nat} {f : Nat → Nat → Int} {a b : Nat → Int} (h : Cor t i j f a b) (hij : t.supply.length ≤ i ∨ t.demand.length ≤ j) : PlanF t f := by
  have e1 := (okT_spec ht).2.2.1
  rw [tot_sumN, tot_sumN] at e1
  have s1 : sumN t.supply.length (fun p => sumN t.demand.length (f p)) + sumN t.supply.length a = sumN t.supply.length (gi t.supply) := by
    rw [← sumN_add]; exact sumN_congr _ fun p hp => h.row p hp
  have s2 : sumN t.demand.length (fun q => sumN t.supply.length (fun p => f p q)) + sumN t.demand.length b = sumN t.demand.length (gi t.demand) := by
    rw [← sumN_add]; exact sumN_congr _ fun p hp => h.col p hp
  have s3 : sumN t.supply.length (fun p => sumN t.demand.length (f p)) = sumN t.demand.length (fun q => sumN t.supply.length (fun p => f p q)) := sumN_swap f t.demand.length t.supply.length
  have hab : sumN t.supply.length a = 0 ∧ sumN t.demand.length b = 0 := by
    rcases hij with hi | hj
    · have : sumN t.supply.length a = 0 := by
        rw [sumN_congr (g := fun _ => 0) _ (fun p hp => h.a0 p (by omega)), sumN_zero]
      omega
    · have : sumN t.demand.length b = 0 := by
        rw [sumN_congr (g := fun _ => 0) _ (fun p hp => h.b0 p (by omega)), sumN_zero]
      omega
  refine ⟨h.nn, fun p hp => ?_, fun q hq => ?_⟩
  · have := sumN_zero_of (fun p _ => h.an p) hab.1 p hp
    have := h.row p hp
    omega
  · have := sumN_zero_of (fun p _ => h.bn p) hab.2 q hq
    have := h.col q hq
    omega
theorem cor_step {t : Trade} {i j : Nat} {f : Nat → Nat → Int} {a b : Nat → Int} (h : Cor t i j f a b) (hi : i < t.supply.length) (hj : j < t.demand.length) :
    let n := min (a i) (b j)
    (a i - n = 0 → Cor t (i + 1) j (fun p q => if p = i ∧ q = j then n else f p q) (fun p => if p = i then a i - n else a p) (fun q => if q = j then b j - n else b q)) ∧
    (a i - n ≠ 0 → Cor t i (j + 1) (fun p q => if p = i ∧ q = j then n else f p q) (fun p => if p = i then a i - n else a p) (fun q => if q = j then b j - n else b q)) := by
  intro n
  have hn : n ≤ a i ∧ n ≤ b j ∧ (n = a i ∨ n = b j) ∧ 0 ≤ n := by
    have := h.an i; have := h.bn j
    show min (a i) (b j) ≤ a i ∧ min (a i) (b j) ≤ b j ∧ (min (a i) (b j) = a i ∨ min (a i) (b j) = b j) ∧ 0 ≤ min (a i) (b j)
    omega
  have h0 := h.fresh i j (.inr ⟨rfl, Nat.le_refl _⟩)
  have nn' : ∀ p q, 0 ≤ (if p = i ∧ q = j then n else f p q) := fun p q => by
    split
    · exact hn.2.2.2
    · exact h.nn p q
  have an' : ∀ p, 0 ≤ (if p = i then a i - n else a p) := fun p => by
    split
    · omega
    · exact h.an p
  have bn' : ∀ q, 0 ≤ (if q = j then b j - n else b q) := fun q => by
    split
    · omega
    · exact h.bn q
  have row' : ∀ p, p < t.supply.length → sumN t.demand.length (fun q => if p = i ∧ q = j then n else f p q) + (if p = i then a i - n else a p) = gi t.supply p := fun p hp => by
    by_cases e : p = i
    · subst e
      have := sumN_upd (g := f p) (k := j) (v := n) t.demand.length
      rw [if_pos hj, h0] at this
      rw [if_pos rfl, ← h.row p hp]
      have e2 : sumN t.demand.length (fun q => if p = p ∧ q = j then n else f p q) = sumN t.demand.length (fun q => if q = j then n else f p q) := sumN_congr _ fun q _ => by simp
      rw [e2, this]; omega
    · rw [if_neg e, ← h.row p hp]
      congr 1
      exact sumN_congr _ fun q _ => by rw [if_neg (fun hc => e hc.1)]
  have col' : ∀ q, q < t.demand.length → sumN t.supply.length (fun p => if p = i ∧ q = j then n else f p q) + (if q = j then b j - n else b q) = gi t.demand q := fun q hq => by
    by_cases e : q = j
    · subst e
      have := sumN_upd (g := fun p => f p q) (k := i) (v := n) t.supply.length
      rw [if_pos hi, h0] at this
      rw [if_pos rfl, ← h.col q hq]
      have e2 : sumN t.supply.length (fun p => if p = i ∧ q = q then n else f p q) = sumN t.supply.length (fun p => if p = i then n else f p q) := sumN_congr _ fun p _ => by simp
      rw [e2, this]; omega
    · rw [if_neg e, ← h.col q hq]
      congr 1
      exact sumN_congr _ fun p _ => by rw [if_neg (fun hc => e hc.2)]
  have ai' : ∀ p, p < t.supply.length → (if p = i then a i - n else a p) ≤ 30 := fun p hp => by
    have := h.ai p hp; have := h.ai i hi
    split <;> omega
  have bi' : ∀ q, q < t.demand.length → (if q = j then b j - n else b q) ≤ 30 := fun q hq => by
    have := h.bi q hq; have := h.bi j hj
    split <;> omega
  constructor
  · intro hz
    refine ⟨nn', fun p q hpq => ?_, an', bn', fun p hp => ?_, fun q hq => ?_, row', col', ai', bi'⟩
    · rw [if_neg (by omega)]; exact h.fresh p q (by omega)
    · by_cases e : p = i
      · rw [if_pos e]; exact hz
      · rw [if_neg e]; exact h.a0 p (by omega)
    · rw [if_neg (by omega)]; exact h.b0 q hq
  · intro hz
    refine ⟨nn', fun p q hpq => ?_, an', bn', fun p hp => ?_, fun q hq => ?_, row', col', ai', bi'⟩
    · rw [if_neg (by omega)]; exact h.fresh p q (by omega)
    · rw [if_neg (by omega)]; exact h.a0 p hp
    · by_cases e : q = j
      · rw [if_pos e]; omega
      · rw [if_neg e]; exact h.b0 q (by omega)
theorem corner_loop {t : Trade} (ht : okT t = true) : ∀ (d i j k : Nat) (f : Nat → Nat → Int) (a b : Nat → Int), Cor t i j f a b → i ≤ t.supply.length → j ≤ t.demand.length → (t.supply.length - i) + (t.demand.length - j) ≤ d → d < k →
    ∃ g, PlanF t g ∧ bulk_corner_L1 k (i : Int) (j : Int) (tab t f) (tb t.supply.length a) (tb t.demand.length b) = some (tab t g) ∧ ref07_Corner_L1 k (i : Int) (j : Int) (tab t f) (tb t.supply.length a) (tb t.demand.length b) = some (tab t g, 0) := by
  have hs := (okT_spec ht).1.2.1
  have hd := (okT_spec ht).2.1.2.1
  intro d
  induction d with
  | zero =>
    intro i j k f a b h hi hj hdd hk
    obtain ⟨k, rfl⟩ : ∃ k', k = k' + 1 := ⟨k - 1, by omega⟩
    refine ⟨f, cor_done ht h (.inl (by omega)), ?_, ?_⟩
    · show bulk_corner_B1 (bulk_corner_L1 k) _ _ _ _ _ = _
      unfold bulk_corner_B1 bulk_corner_k2
      rw [if_neg (by rw [tb_len]; omega), if_neg (by simp)]; rfl
    · show ref07_Corner_B1 (ref07_Corner_L1 k) _ _ _ _ _ = _
      unfold ref07_Corner_B1 ref07_Corner_k2
      rw [if_neg (by rw [tb_len]; omega), if_neg (by simp)]; rfl
  | succ d ih =>
    intro i j k f a b h hi hj hdd hk
    obtain ⟨k, rfl⟩ : ∃ k', k = k' + 1 := ⟨k - 1, by omega⟩
    by_cases hi' : i < t.supply.length
    · by_cases hj' : j < t.demand.length
      · have hst := cor_step h hi' hj'
        have hai := h.ai i hi'
        have hbj := h.bi j hj'
        have han := h.an i
        have hbn := h.bn j
        have h0 := h.fresh i j (.inr ⟨rfl, Nat.le_refl _⟩)
        have x1 : (tb t.supply.length a)[i]? = some (a i) := tb_at hi'
        have x2 : (tb t.demand.length b)[j]? = some (b j) := tb_at hj'
        have x3 : (tab t f)[i]? = some (tb t.demand.length (f i)) := tbl_at hi'
        have x4 : (tb t.demand.length (f i))[j]? = some (f i j) := tb_at hj'
        have e1 : (tb t.supply.length a).set i (a i - min (a i) (b j)) = tb t.supply.length (fun p => if p = i then a i - min (a i) (b j) else a p) := tb_set _
        have e2 : (tb t.demand.length b).set j (b j - min (a i) (b j)) = tb t.demand.length (fun q => if q = j then b j - min (a i) (b j) else b q) := tb_set _
        have e3 : (tab t f).set i ((tb t.demand.length (f i)).set j (min (a i) (b j))) = tab t (fun p q => if p = i ∧ q = j then min (a i) (b j) else f p q) := tbl_set hi' _
        have x5 : (tb t.supply.length (fun p => if p = i then a i - min (a i) (b j) else a p))[i]? = some (a i - min (a i) (b j)) := by rw [tb_at hi', if_pos rfl]
        have nat1 : Int.toNat (i : Int) = i := rfl
        have nat2 : Int.toNat (j : Int) = j := rfl
        have P : bulk_corner_L1 (k + 1) (i : Int) (j : Int) (tab t f) (tb t.supply.length a) (tb t.demand.length b) =
            if a i - min (a i) (b j) = 0 then bulk_corner_L1 k ((i + 1 : Nat) : Int) (j : Int) (tab t (fun p q => if p = i ∧ q = j then min (a i) (b j) else f p q)) (tb t.supply.length (fun p => if p = i then a i - min (a i) (b j) else a p)) (tb t.demand.length (fun q => if q = j then b j - min (a i) (b j) else b q))
            else bulk_corner_L1 k (i : Int) ((j + 1 : Nat) : Int) (tab t (fun p q => if p = i ∧ q = j then min (a i) (b j) else f p q)) (tb t.supply.length (fun p => if p = i then a i - min (a i) (b j) else a p)) (tb t.demand.length (fun q => if q = j then b j - min (a i) (b j) else b q)) := by
          show bulk_corner_B1 (bulk_corner_L1 k) _ _ _ _ _ = _
          unfold bulk_corner_B1 bulk_corner_k2
          rw [if_pos (by rw [tb_len]; omega), if_pos (by rw [tb_len]; simp; omega), ix_nat x1, ix_nat x2, ix_nat x3, ix_nat x4, ix_nat x1, gd_pos (by omega), ix_nat x1, ix_nat x2, gd_pos (by omega), ix_nat x2, nat1, nat2, e1, e2, e3, ix_nat x5]
          by_cases hz : a i - min (a i) (b j) = 0
          · rw [if_pos hz, if_pos hz, gd_pos (by omega)]; rfl
          · rw [if_neg hz, if_neg hz, gd_pos (by omega)]; rfl
        have Q : ref07_Corner_L1 (k + 1) (i : Int) (j : Int) (tab t f) (tb t.supply.length a) (tb t.demand.length b) =
            if a i - min (a i) (b j) = 0 then ref07_Corner_L1 k ((i + 1 : Nat) : Int) (j : Int) (tab t (fun p q => if p = i ∧ q = j then min (a i) (b j) else f p q)) (tb t.supply.length (fun p => if p = i then a i - min (a i) (b j) else a p)) (tb t.demand.length (fun q => if q = j then b j - min (a i) (b j) else b q))
            else ref07_Corner_L1 k (i : Int) ((j + 1 : Nat) : Int) (tab t (fun p q => if p = i ∧ q = j then min (a i) (b j) else f p q)) (tb t.supply.length (fun p => if p = i then a i - min (a i) (b j) else a p)) (tb t.demand.length (fun q => if q = j then b j - min (a i) (b j) else b q)) := by
          show ref07_Corner_B1 (ref07_Corner_L1 k) _ _ _ _ _ = _
          unfold ref07_Corner_B1 ref07_Corner_k2
          rw [if_pos (by rw [tb_len]; omega), if_pos (by rw [tb_len]; simp; omega), ix_nat x1, ix_nat x2, ix_nat x3, ix_nat x4, gd_pos (by omega), ix_nat x4, ix_nat x1, gd_pos (by omega), ix_nat x1, ix_nat x2, gd_pos (by omega), ix_nat x2, nat1, nat2, h0, Int.zero_add, e1, e2, e3, ix_nat x5]
          by_cases hz : a i - min (a i) (b j) = 0
          · rw [if_pos hz, if_pos hz, gd_pos (by omega)]; rfl
          · rw [if_neg hz, if_neg hz, gd_pos (by omega)]; rfl
        rw [P, Q]
        by_cases hz : a i - min (a i) (b j) = 0
        · rw [if_pos hz, if_pos hz]
          exact ih (i + 1) j k _ _ _ (hst.1 hz) (by omega) hj (by omega) (by omega)
        · rw [if_neg hz, if_neg hz]
          exact ih i (j + 1) k _ _ _ (hst.2 hz) hi (by omega) (by omega) (by omega)
      · refine ⟨f, cor_done ht h (.inr (by omega)), ?_, ?_⟩
        · show bulk_corner_B1 (bulk_corner_L1 k) _ _ _ _ _ = _
          unfold bulk_corner_B1 bulk_corner_k2
          rw [if_pos (by rw [tb_len]; omega), if_neg (by rw [tb_len]; simp; omega)]; rfl
        · show ref07_Corner_B1 (ref07_Corner_L1 k) _ _ _ _ _ = _
          unfold ref07_Corner_B1 ref07_Corner_k2
          rw [if_pos (by rw [tb_len]; omega), if_neg (by rw [tb_len]; simp; omega)]; rfl
    · refine ⟨f, cor_done ht h (.inl (by omega)), ?_, ?_⟩
      · show bulk_corner_B1 (bulk_corner_L1 k) _ _ _ _ _ = _
        unfold bulk_corner_B1 bulk_corner_k2
        rw [if_neg (by rw [tb_len]; omega), if_neg (by simp)]; rfl
      · show ref07_Corner_B1 (ref07_Corner_L1 k) _ _ _ _ _ = _
        unfold ref07_Corner_B1 ref07_Corner_k2
        rw [if_neg (by rw [tb_len]; omega), if_neg (by simp)]; rfl
theorem empty_eq {t : Trade} (h1 : t.supply.length ≤ 50) (h2 : t.demand.length ≤ 50) : bulk_empty t = some (tab t (fun _ _ => 0)) := by
  unfold bulk_empty
  rw [gd_pos (by omega), show Int.toNat (t.supply.length : Int) = t.supply.length from rfl, rep_tg]
  refine for0 t.supply.length (fun i => tg t.supply.length (fun p => if p < i then tb t.demand.length (fun _ => 0) else [])) (fun k s i => bulk_empty_L1 t k i s) _ (tg_congr fun p hp => by simp) (fun k i hi => ?_) (fun k => ?_) (by omega)
  · show bulk_empty_B1 t (bulk_empty_L1 t k) _ _ = _
    unfold bulk_empty_B1
    have hx : (tg t.supply.length (fun p => if p < i then tb t.demand.length (fun _ => 0) else []))[i]? = some [] := by rw [tg_at hi]; simp
    rw [if_pos (by simp; omega), gd_pos (by omega), ix_nat hx, gd_pos (by omega), show Int.toNat (i : Int) = i from rfl, show Int.toNat (t.demand.length : Int) = t.demand.length from rfl, tg_set, rep_tb]
    refine congrArg (bulk_empty_L1 t k _) (tg_congr fun p hp => ?_)
    by_cases e : p = i
    · rw [if_pos e, if_pos (by omega)]
    · rw [if_neg e]
      by_cases e2 : p < i
      · rw [if_pos e2, if_pos (by omega)]
      · rw [if_neg e2, if_neg (by omega)]
  · show bulk_empty_B1 t (bulk_empty_L1 t k) _ _ = _
    unfold bulk_empty_B1 bulk_empty_k1
    rw [if_neg (by simp)]
    congr 1
    exact tg_congr fun p hp => by rw [if_pos hp]
theorem rempty_eq {t : Trade} (h1 : t.supply.length ≤ 50) (h2 : t.demand.length ≤ 50) : ref07_empty t = some (tab t (fun _ _ => 0)) := by
  unfold ref07_empty
  refine for0 t.supply.length (fun i => tg i (fun p => tb t.demand.length (fun _ => 0))) (fun k s i => ref07_empty_L1 t k i s) _ rfl (fun k i hi => ?_) (fun k => ?_) (by omega)
  · show ref07_empty_B1 t (ref07_empty_L1 t k) _ _ = _
    unfold ref07_empty_B1
    rw [if_pos (by omega), gd_pos (by omega), gd_pos (by rw [tg_len]; omega), gd_pos (by omega), show Int.toNat (t.demand.length : Int) = t.demand.length from rfl, rep_tb, ← tg_push]; rfl
  · show ref07_empty_B1 t (ref07_empty_L1 t k) _ _ = _
    unfold ref07_empty_B1
    rw [if_neg (by omega)]; rfl
theorem clone_eq {l : List Int} (h : l.length ≤ 1000) : slices_Clone_int l = some l := by
  unfold slices_Clone_int
  rw [gd_pos (by simp; omega)]; rfl
theorem cor_start {t : Trade} (ht : okT t = true) : Cor t 0 0 (fun _ _ => 0) (fun p => if p < t.supply.length then gi t.supply p else 0) (fun q => if q < t.demand.length then gi t.demand q else 0) :=
  { nn := fun _ _ => Int.le_refl _, fresh := fun _ _ _ => rfl
    an := fun p => by
      split
      · rename_i h; exact (supply_bnd ht h).1
      · exact Int.le_refl _
    bn := fun p => by
      split
      · rename_i h; exact (demand_bnd ht h).1
      · exact Int.le_refl _
    a0 := fun p hp => by omega
    b0 := fun p hp => by omega
    row := fun p hp => by rw [sumN_zero, if_pos hp]; omega
    col := fun p hp => by rw [sumN_zero, if_pos hp]; omega
    ai := fun p hp => by rw [if_pos hp]; exact (supply_bnd ht hp).2
    bi := fun p hp => by rw [if_pos hp]; exact (demand_bnd ht hp).2 }
/-- Both corners are one right plan. -/
theorem corner_eq {t : Trade} (ht : okT t = true) : ∃ g, PlanF t g ∧ bulk_corner t = some (tab t g) ∧ ref07_Corner_k3 (tab t (fun _ _ => 0)) t.supply t.demand = some (tab t g, 0) := by
  have hs := (okT_spec ht).1.2.1
  have hd := (okT_spec ht).2.1.2.1
  obtain ⟨g, g1, g2, g3⟩ := corner_loop ht 8 0 0 FU _ _ _ (cor_start ht) (by omega) (by omega) (by omega) (by have := FU_pos; omega)
  have e1 : tb t.supply.length (fun p => if p < t.supply.length then gi t.supply p else 0) = t.supply := by
    conv => rhs; rw [← tb_self t.supply]
    exact tb_congr fun k hk => by rw [if_pos hk]
  have e2 : tb t.demand.length (fun p => if p < t.demand.length then gi t.demand p else 0) = t.demand := by
    conv => rhs; rw [← tb_self t.demand]
    exact tb_congr fun k hk => by rw [if_pos hk]
  rw [e1, e2] at g2 g3
  refine ⟨g, g1, ?_, g3⟩
  unfold bulk_corner
  rw [bnd_eq (empty_eq (by omega) (by omega)), bnd_eq (clone_eq (by omega)), bnd_eq (clone_eq (by omega))]
  exact g2
theorem tab_small {t : Trade} (h1 : t.supply.length ≤ 50) (h2 : t.demand.length ≤ 50) (f : Nat → Nat → Int) : Lsmall (tab t f) := tbl_small h1 h2 f
end Go.D7

set_option linter.unusedVariables false
set_option linter.unusedSimpArgs false
namespace Go.D7
open Go.Tb
theorem ix1 {α β : Type} {l : List α} {k : α → Option β} {x : α} (h : l[1]? = some x) : ix l 1 k = k x := ix_nat (i := 1) h
theorem tmod_nat (a b : Nat) : Int.tmod (a : Int) (b : Int) = ((a % b : Nat) : Int) := by
  rw [Int.tmod_eq_emod_of_nonneg (Int.natCast_nonneg _)]; norm_cast
def pr (L : List Arr2) (k : Nat) : Arr2 := L.getD k ⟨0, 0⟩
theorem pr_at {L : List Arr2} {k : Nat} (h : k < L.length) : L[k]? = some (pr L k) := by simp [pr, List.getD, h]
theorem pr_of {L : List Arr2} {k : Nat} {x : Arr2} (h : L[k]? = some x) : pr L k = x := by simp [pr, List.getD, h]
def side (x : Arr2) (k : Nat) : Int := if k % 2 = 0 then x.at0 else x.at1
def eqA (x y : Arr2) : Bool := (x.at0 == y.at0) && (x.at1 == y.at1)
theorem eqA_iff {x y : Arr2} : eqA x y = true ↔ x = y := by
  unfold eqA
  cases x; cases y; simp
def memA (l : List Arr2) (x : Arr2) : Bool := l.any (eqA x)
def rndAt (L : List Arr2) (k : Nat) : Bool := decide (side (pr L k) k = side (pr L ((k + 1) % L.length)) k) && !memA (L.take k) (pr L k)
def roundB (L : List Arr2) : Bool := (decide (4 ≤ L.length) && decide (L.length % 2 = 0)) && decide (∀ k, k < L.length → rndAt L k = true)
theorem memA_take {L : List Arr2} {i : Nat} (hi : i ≤ L.length) (x : Arr2) : memA (L.take i) x = true ↔ ∃ j, j < i ∧ eqA x (pr L j) = true := by
  unfold memA
  rw [List.any_eq_true]
  constructor
  · rintro ⟨y, hy, he⟩
    obtain ⟨j, hj⟩ := List.getElem?_of_mem hy
    rw [List.getElem?_take] at hj
    split at hj
    · rename_i hlt
      exact ⟨j, hlt, by rw [pr_of hj]; exact he⟩
    · cases hj
  · rintro ⟨j, hj, he⟩
    refine ⟨pr L j, ?_, he⟩
    refine List.mem_of_getElem? (i := j) ?_
    rw [List.getElem?_take, if_pos hj]
    exact pr_at (by omega)
def sN (L : List Arr2) (k : Nat) : Nat := (pr L k).at0.toNat
def bN (L : List Arr2) (k : Nat) : Nat := (pr L k).at1.toNat
def InPairs (t : Trade) (L : List Arr2) : Prop := ∀ k, k < L.length → (0 ≤ (pr L k).at0 ∧ (pr L k).at0 < (t.supply.length : Int)) ∧ (0 ≤ (pr L k).at1 ∧ (pr L k).at1 < (t.demand.length : Int))
def mN (f : Nat → Nat → Int) (L : List Arr2) : Nat → Int
  | 0 => f (sN L 1) (bN L 1)
  | k + 1 => if k % 2 = 1 then min (mN f L k) (f (sN L k) (bN L k)) else mN f L k
def sgn (k : Nat) : Int := if k % 2 = 0 then 1 else -1
def fK (f : Nat → Nat → Int) (L : List Arr2) (n : Int) : Nat → Nat → Nat → Int
  | 0 => f
  | k + 1 => fun i j => if i = sN L k ∧ j = bN L k then fK f L n k i j + sgn k * n else fK f L n k i j
theorem mN_bnd {f : Nat → Nat → Int} {L : List Arr2} (h : ∀ k, k < L.length → 0 ≤ f (sN L k) (bN L k) ∧ f (sN L k) (bN L k) ≤ 30) (h1 : 1 < L.length) : ∀ k, k ≤ L.length → 0 ≤ mN f L k ∧ mN f L k ≤ 30
  | 0, _ => h 1 h1
  | k + 1, hk => by
    have ih := mN_bnd h h1 k (by omega)
    have := h k (by omega)
    simp only [mN]
    split <;> omega
theorem mN_le {f : Nat → Nat → Int} {L : List Arr2} : ∀ (k q : Nat), q < k → q % 2 = 1 → mN f L k ≤ f (sN L q) (bN L q)
  | k + 1, q, hq, h1 => by
    simp only [mN]
    by_cases e : q = k
    · subst e; rw [if_pos h1]; omega
    · have := mN_le (f := f) (L := L) k q (by omega) h1
      split <;> omega
theorem fK_bnd {t : Trade} {f : Nat → Nat → Int} {L : List Arr2} {n : Int} (hn : 0 ≤ n ∧ n ≤ 30) {i j : Nat} (h : 0 ≤ f i j ∧ f i j ≤ 30) : ∀ k : Nat, -(30 * (k : Int)) ≤ fK f L n k i j ∧ fK f L n k i j ≤ 30 + 30 * (k : Int)
  | 0 => by simp only [fK]; omega
  | k + 1 => by
    have ih := fK_bnd (t := t) (L := L) hn h k
    have hs : sgn k = 1 ∨ sgn k = -1 := by unfold sgn; split <;> simp
    simp only [fK]
    split
    · rcases hs with e | e <;> rw [e] <;> omega
    · omega
section
variable {t : Trade} {f : Nat → Nat → Int} {L : List Arr2}
theorem clone_tab {l : List (List Int)} (hl : Lsmall l) : bulk_clone l = some l := by
  have h1 := hl.1
  unfold bulk_clone
  refine for0 l.length (fun i => l.take i) (fun k s i => bulk_clone_L1 l k i s) _ rfl (fun k i hi => ?_) (fun k => ?_) (by omega)
  · have h2 := hl.2 _ (List.mem_of_getElem? (gr_at hi))
    show bulk_clone_B1 l (bulk_clone_L1 l k) _ _ = _
    unfold bulk_clone_B1
    rw [if_pos (by omega), ix_nat (gr_at hi), bnd_eq (clone_eq (by omega)), gd_pos (by rw [List.length_take]; omega), gd_pos (by omega), List.take_add_one, gr_at hi]; rfl
  · show bulk_clone_B1 l (bulk_clone_L1 l k) _ _ = _
    unfold bulk_clone_B1
    rw [if_neg (by omega), List.take_length]; rfl
theorem in_nat (hi : InPairs t L) {k : Nat} (hk : k < L.length) : sN L k < t.supply.length ∧ bN L k < t.demand.length ∧ ((sN L k : Nat) : Int) = (pr L k).at0 ∧ ((bN L k : Nat) : Int) = (pr L k).at1 := by
  have := hi k hk
  unfold sN bN
  omega
theorem along_eq (ht : t.supply.length ≤ 50 ∧ t.demand.length ≤ 50) (hf : ∀ i j, i < t.supply.length → j < t.demand.length → 0 ≤ f i j ∧ f i j ≤ 30) (hi : InPairs t L) (hl : L.length ≤ 8) (h4 : 4 ≤ L.length) :
    bulk_along (tab t f) L = some (tab t (fK f L (mN f L L.length) L.length), mN f L L.length) := by
  have cells : ∀ k, k < L.length → 0 ≤ f (sN L k) (bN L k) ∧ f (sN L k) (bN L k) ≤ 30 := fun k hk => by
    have := in_nat hi hk
    exact hf _ _ this.1 this.2.1
  have hm := mN_bnd cells (by omega) L.length (Nat.le_refl _)
  unfold bulk_along
  rw [bnd_eq (clone_tab (tab_small ht.1 ht.2 f))]
  have p1 := in_nat hi (k := 1) (by omega)
  have r1 : (tab t f)[sN L 1]? = some (tb t.demand.length (f (sN L 1))) := tbl_at p1.1
  rw [ix1 (pr_at (by omega)), ← p1.2.2.1, ix_nat r1, ix1 (pr_at (by omega)), ← p1.2.2.2, ix_nat (tb_at p1.2.1)]
  refine Eq.trans (for0 L.length (mN f L) (fun k s i => bulk_along_L2 L (tab t f) k s i) (bulk_along_k2 L (tab t f) (mN f L L.length)) rfl (fun k i hik => ?_) (fun k => ?_) (by omega)) ?_
  · have p := in_nat hi hik
    have r : (tab t f)[sN L i]? = some (tb t.demand.length (f (sN L i))) := tbl_at p.1
    have e3 : Int.tmod (i : Int) 2 = ((i % 2 : Nat) : Int) := tmod_nat i 2
    show bulk_along_B2 L (tab t f) (bulk_along_L2 L (tab t f) k) _ _ = _
    unfold bulk_along_B2 bulk_along_k3
    rw [if_pos (by omega), ix_nat (pr_at hik), e3, gd_pos ⟨by decide, by omega⟩]
    simp only [mN]
    by_cases ho : i % 2 = 1
    · rw [if_pos (by omega), ix0 (x := (pr L i).at0) rfl, ← p.2.2.1, ix_nat r, ix1 (x := (pr L i).at1) rfl, ← p.2.2.2, ix_nat (tb_at p.2.1), gd_pos (by omega), if_pos ho]; rfl
    · rw [if_neg (by omega), gd_pos (by omega), if_neg ho]; rfl
  · show bulk_along_B2 L (tab t f) (bulk_along_L2 L (tab t f) k) _ _ = _
    unfold bulk_along_B2
    rw [if_neg (by omega)]
  · unfold bulk_along_k2
    refine for0 L.length (fun k => tab t (fK f L (mN f L L.length) k)) (fun k s i => bulk_along_L1 L (mN f L L.length) k i s) _ rfl (fun k i hik => ?_) (fun k => ?_) (by omega)
    · have p := in_nat hi hik
      have r : (tab t (fK f L (mN f L L.length) i))[sN L i]? = some (tb t.demand.length (fK f L (mN f L L.length) i (sN L i))) := tbl_at p.1
      have e3 : Int.tmod (i : Int) 2 = ((i % 2 : Nat) : Int) := tmod_nat i 2
      have hb := fK_bnd (t := t) (L := L) hm (cells i hik) i
      show bulk_along_B1 L (mN f L L.length) (bulk_along_L1 L (mN f L L.length) k) _ _ = _
      unfold bulk_along_B1
      have hx : i % 2 = 0 ∨ i % 2 = 1 := by omega
      have key : mN f L L.length - 2 * mN f L L.length * ((i % 2 : Nat) : Int) = sgn i * mN f L L.length := by
        unfold sgn
        rcases hx with h | h <;> rw [h] <;> simp <;> omega
      have kb : InR (2 * mN f L L.length * ((i % 2 : Nat) : Int)) ∧ -30 ≤ sgn i * mN f L L.length ∧ sgn i * mN f L L.length ≤ 30 := by
        unfold sgn
        rcases hx with h | h <;> rw [h] <;> simp <;> omega
      rw [if_pos (by omega), ix_nat (pr_at hik), ix0 (x := (pr L i).at0) rfl, ← p.2.2.1, ix_nat r, ix1 (x := (pr L i).at1) rfl, ← p.2.2.2, ix_nat (tb_at p.2.1), gd_pos (by omega), e3, gd_pos ⟨by decide, by omega⟩, gd_pos kb.1, key, gd_pos (by omega), gd_pos (by omega), ix_nat (tb_at p.2.1), gd_pos (by omega), show Int.toNat ((sN L i : Nat) : Int) = sN L i from rfl, show Int.toNat ((bN L i : Nat) : Int) = bN L i from rfl]
      refine congrArg (bulk_along_L1 L (mN f L L.length) k _) ?_
      unfold tab
      rw [tbl_set p.1]
      refine tbl_congr fun a b _ _ => ?_
      simp only [fK]
      by_cases hc : a = sN L i ∧ b = bN L i
      · rw [if_pos hc, if_pos hc, hc.1, hc.2]
      · rw [if_neg hc, if_neg hc]
    · show bulk_along_B1 L (mN f L L.length) (bulk_along_L1 L (mN f L L.length) k) _ _ = _
      unfold bulk_along_B1
      rw [if_neg (by omega)]; rfl
theorem fK_row (n : Int) (m : Nat) (i : Nat) : ∀ K, (∀ k, k < K → bN L k < m) → sumN m (fK f L n K i) = sumN m (f i) + sumN K (fun k => if sN L k = i then sgn k * n else 0)
  | 0, _ => by simp [fK, sumN]
  | K + 1, h => by
    have ih := fK_row n m i K (fun k hk => h k (by omega))
    have hb := h K (by omega)
    simp only [sumN]
    by_cases hi : sN L K = i
    · have e : sumN m (fK f L n (K + 1) i) = sumN m (fun q => if q = bN L K then fK f L n K i (bN L K) + sgn K * n else fK f L n K i q) := sumN_congr _ fun q _ => by
        simp only [fK]
        by_cases hq : q = bN L K
        · rw [if_pos ⟨hi.symm, hq⟩, if_pos hq, hq]
        · rw [if_neg (fun hc => hq hc.2), if_neg hq]
      rw [e, sumN_upd, if_pos hb, ih, if_pos hi]; omega
    · have e : sumN m (fK f L n (K + 1) i) = sumN m (fK f L n K i) := sumN_congr _ fun q _ => by
        simp only [fK]
        rw [if_neg (fun hc => hi hc.1.symm)]
      rw [e, ih, if_neg hi]; omega
theorem fK_col (n : Int) (m : Nat) (j : Nat) : ∀ K, (∀ k, k < K → sN L k < m) → sumN m (fun i => fK f L n K i j) = sumN m (fun i => f i j) + sumN K (fun k => if bN L k = j then sgn k * n else 0)
  | 0, _ => by simp [fK, sumN]
  | K + 1, h => by
    have ih := fK_col n m j K (fun k hk => h k (by omega))
    have hb := h K (by omega)
    simp only [sumN]
    by_cases hi : bN L K = j
    · have e : sumN m (fun i => fK f L n (K + 1) i j) = sumN m (fun q => if q = sN L K then fK f L n K (sN L K) j + sgn K * n else fK f L n K q j) := sumN_congr _ fun q _ => by
        simp only [fK]
        by_cases hq : q = sN L K
        · rw [if_pos ⟨hq, hi.symm⟩, if_pos hq, hq]
        · rw [if_neg (fun hc => hq hc.1), if_neg hq]
      rw [e, sumN_upd, if_pos hb, ih, if_pos hi]; omega
    · have e : sumN m (fun i => fK f L n (K + 1) i j) = sumN m (fun i => fK f L n K i j) := sumN_congr _ fun q _ => by
        simp only [fK]
        rw [if_neg (fun hc => hi hc.2.symm)]
      rw [e, ih, if_neg hi]; omega
theorem round_spec (hi : InPairs t L) (h : roundB L = true) : 4 ≤ L.length ∧ L.length % 2 = 0 ∧ (∀ k, k < L.length → k % 2 = 0 → sN L k = sN L (k + 1)) ∧ (∀ k, k + 1 < L.length → k % 2 = 1 → bN L k = bN L (k + 1)) ∧ bN L (L.length - 1) = bN L 0 ∧ ∀ j k, j < k → k < L.length → ¬ (sN L j = sN L k ∧ bN L j = bN L k) := by
  unfold roundB at h
  simp only [Bool.and_eq_true, decide_eq_true_eq] at h
  obtain ⟨⟨h4, he⟩, hr⟩ := h
  have side_ : ∀ k, k < L.length → side (pr L k) k = side (pr L ((k + 1) % L.length)) k := fun k hk => by
    have := hr k hk
    unfold rndAt at this
    simp only [Bool.and_eq_true, decide_eq_true_eq] at this
    exact this.1
  refine ⟨h4, he, fun k hk h0 => ?_, fun k hk h1 => ?_, ?_, fun j k hj hk hc => ?_⟩
  · have := side_ k hk
    rw [Nat.mod_eq_of_lt (by omega)] at this
    unfold side at this
    rw [if_pos h0, if_pos h0] at this
    unfold sN; rw [this]
  · have := side_ k (by omega)
    rw [Nat.mod_eq_of_lt hk] at this
    unfold side at this
    rw [if_neg (by omega), if_neg (by omega)] at this
    unfold bN; rw [this]
  · have := side_ (L.length - 1) (by omega)
    rw [show L.length - 1 + 1 = L.length by omega, Nat.mod_self] at this
    unfold side at this
    rw [if_neg (by omega), if_neg (by omega)] at this
    unfold bN; rw [this]
  · have := hr k hk
    unfold rndAt at this
    simp only [Bool.and_eq_true, Bool.not_eq_true'] at this
    have h2 := this.2
    rw [Bool.eq_false_iff] at h2
    apply h2
    refine (memA_take (by omega) _).2 ⟨j, hj, eqA_iff.2 ?_⟩
    have p1 := in_nat hi (k := j) (by omega)
    have p2 := in_nat hi hk
    have e0 : (pr L k).at0 = (pr L j).at0 := by rw [← p1.2.2.1, ← p2.2.2.1, hc.1]
    have e1 : (pr L k).at1 = (pr L j).at1 := by rw [← p1.2.2.2, ← p2.2.2.2, hc.2]
    cases hx : pr L k; cases hy : pr L j
    rw [hx, hy] at e0 e1
    simp only at e0 e1
    rw [e0, e1]
theorem row_cancel {n : Int} {i : Nat} : ∀ q : Nat, (∀ k, k < 2 * q → k % 2 = 0 → sN L k = sN L (k + 1)) → sumN (2 * q) (fun k => if sN L k = i then sgn k * n else 0) = 0
  | 0, _ => rfl
  | q + 1, h => by
    have ih := row_cancel (n := n) (i := i) q (fun k hk => h k (by omega))
    have e := h (2 * q) (by omega) (by omega)
    rw [show 2 * (q + 1) = 2 * q + 1 + 1 by omega]
    simp only [sumN, ih]
    have s0 : sgn (2 * q) = 1 := by unfold sgn; rw [if_pos (by omega)]
    have s1 : sgn (2 * q + 1) = -1 := by unfold sgn; rw [if_neg (by omega)]
    rw [s0, s1, ← e]
    split <;> omega
theorem col_cancel {n : Int} {j : Nat} : ∀ q : Nat, (∀ k, k + 1 < 2 * q + 1 → k % 2 = 1 → bN L k = bN L (k + 1)) → sumN (2 * q + 1) (fun k => if bN L k = j then sgn k * n else 0) = if bN L 0 = j then n else 0
  | 0, _ => by
    have s0 : sgn 0 = 1 := rfl
    simp only [sumN, s0]
    split <;> omega
  | q + 1, h => by
    have ih := col_cancel (n := n) (j := j) q (fun k hk => h k (by omega))
    have e := h (2 * q + 1) (by omega) (by omega)
    rw [show 2 * (q + 1) + 1 = 2 * q + 1 + 1 + 1 by omega]
    rw [show sumN (2 * q + 1 + 1 + 1) (fun k => if bN L k = j then sgn k * n else 0) = sumN (2 * q + 1) (fun k => if bN L k = j then sgn k * n else 0) + (if bN L (2 * q + 1) = j then sgn (2 * q + 1) * n else 0) + (if bN L (2 * q + 1 + 1) = j then sgn (2 * q + 1 + 1) * n else 0) from rfl, ih]
    have s0 : sgn (2 * q + 1 + 1) = 1 := by unfold sgn; rw [if_pos (by omega)]
    have s1 : sgn (2 * q + 1) = -1 := by unfold sgn; rw [if_neg (by omega)]
    rw [s0, s1, ← e]
    split <;> split <;> omega
theorem fK_hit {n : Int} {i j : Nat} (hd : ∀ a b, a < b → b < L.length → ¬ (sN L a = sN L b ∧ bN L a = bN L b)) : ∀ K, K ≤ L.length → (∃ k, k < K ∧ sN L k = i ∧ bN L k = j ∧ fK f L n K i j = f i j + sgn k * n) ∨ ((∀ k, k < K → ¬ (sN L k = i ∧ bN L k = j)) ∧ fK f L n K i j = f i j)
  | 0, _ => .inr ⟨fun k hk => by omega, rfl⟩
  | K + 1, hK => by
    rcases fK_hit hd K (by omega) with ⟨k, h1, h2, h3, h4⟩ | ⟨h1, h2⟩
    · refine .inl ⟨k, by omega, h2, h3, ?_⟩
      simp only [fK]
      rw [if_neg, h4]
      rintro ⟨e1, e2⟩
      exact hd k K h1 (by omega) ⟨by rw [h2, e1], by rw [h3, e2]⟩
    · simp only [fK]
      by_cases hc : i = sN L K ∧ j = bN L K
      · refine .inl ⟨K, by omega, hc.1.symm, hc.2.symm, ?_⟩
        rw [if_pos hc, h2]
      · refine .inr ⟨fun k hk => ?_, by rw [if_neg hc]; exact h2⟩
        by_cases e : k = K
        · subst e; exact fun hx => hc ⟨hx.1.symm, hx.2.symm⟩
        · exact h1 k (by omega)
/-- The plan along a round is a plan. -/
theorem along_plan (hp : PlanF t f) (hi : InPairs t L) (hr : roundB L = true) : PlanF t (fK f L (mN f L L.length) L.length) := by
  obtain ⟨h4, he, h1, h2, h3, h5⟩ := round_spec hi hr
  have hn : 0 ≤ mN f L L.length := by
    have key : ∀ k, 0 ≤ mN f L k := by
      intro k
      induction k with
      | zero => exact hp.nn _ _
      | succ k ih =>
        simp only [mN]
        have := hp.nn (sN L k) (bN L k)
        split <;> omega
    exact key _
  obtain ⟨q, hq⟩ : ∃ q, L.length = 2 * q := ⟨L.length / 2, by omega⟩
  refine ⟨fun i j => ?_, fun i hi' => ?_, fun j hj' => ?_⟩
  · rcases fK_hit (f := f) (n := mN f L L.length) (i := i) (j := j) h5 L.length (Nat.le_refl _) with ⟨k, k1, k2, k3, k4⟩ | ⟨_, k2⟩
    · rw [k4]
      have hf := hp.nn i j
      unfold sgn
      split
      · omega
      · have := mN_le (f := f) (L := L) L.length k k1 (by omega)
        rw [k2, k3] at this
        omega
    · rw [k2]; exact hp.nn i j
  · rw [fK_row _ _ _ _ (fun k hk => (in_nat hi hk).2.1), hp.row i hi']
    have := row_cancel (L := L) (n := mN f L L.length) (i := i) q (fun k hk h0 => h1 k (by omega) h0)
    rw [← hq] at this
    rw [this]; omega
  · rw [fK_col _ _ _ _ (fun k hk => (in_nat hi hk).1), hp.col j hj']
    obtain ⟨p, hpq⟩ : ∃ p, L.length = 2 * p + 1 + 1 := ⟨q - 1, by omega⟩
    have := col_cancel (L := L) (n := mN f L L.length) (j := j) p (fun k hk h0 => h2 k (by omega) h0)
    rw [hpq]
    rw [hpq] at this
    rw [show sumN (2 * p + 1 + 1) (fun k => if bN L k = j then sgn k * mN f L (2 * p + 1 + 1) else 0) = sumN (2 * p + 1) (fun k => if bN L k = j then sgn k * mN f L (2 * p + 1 + 1) else 0) + (if bN L (2 * p + 1) = j then sgn (2 * p + 1) * mN f L (2 * p + 1 + 1) else 0) from rfl, this]
    have s1 : sgn (2 * p + 1) = -1 := by unfold sgn; rw [if_neg (by omega)]
    have e : bN L (2 * p + 1) = bN L 0 := by rw [← h3, hpq]; rfl
    rw [s1, e]
    split <;> omega
end
end Go.D7

set_option linter.unusedVariables false
set_option linter.unusedSimpArgs false
namespace Go.D7
open Go.Tb
section
variable {t : Trade} {f : Nat → Nat → Int} {L : List Arr2}
def pAt (t : Trade) (L : List Arr2) (k : Nat) : Bool := within (pr L k).at0 0 ((t.supply.length : Int) - 1) && within (pr L k).at1 0 ((t.demand.length : Int) - 1)
theorem inPairs_iff : (∀ k, k < L.length → pAt t L k = true) ↔ InPairs t L := by
  unfold InPairs pAt
  constructor
  · intro h k hk
    have := h k hk
    simp only [Bool.and_eq_true, within_iff] at this
    omega
  · intro h k hk
    have := h k hk
    simp only [Bool.and_eq_true, within_iff]
    omega
instance : Decidable (InPairs t L) := decidable_of_iff _ (inPairs_iff (t := t) (L := L))
end
end Go.D7

set_option linter.unusedVariables false
set_option linter.unusedSimpArgs false
namespace Go.D7
/-- An edge, with its cost. -/
structure Ed where
  u : Nat
  v : Nat
  c : Int
/-- What is known: the lowest costs, by which edge, and the node that was changed last. -/
structure BS where
  d : Nat → Int
  by_ : Nat → Option Ed
  last : Int
def relax (far : Int) (s : BS) (e : Ed) : BS :=
  if s.d e.u < far ∧ s.d e.u + e.c < s.d e.v then ⟨fun x => if x = e.v then s.d e.u + e.c else s.d x, fun x => if x = e.v then some e else s.by_ x, (e.v : Int)⟩ else s
def fresh (s : BS) : BS := ⟨s.d, s.by_, -1⟩
def rnd (far : Int) (L : List Ed) (s : BS) : BS := L.foldl (relax far) (fresh s)
def rnds (far : Int) (L : List Ed) (s : BS) : Nat → BS
  | 0 => s
  | k + 1 => rnd far L (rnds far L s k)
structure Inv (E : Ed → Prop) (far : Int) (d0 : Nat → Int) (T : Nat → Nat) (τ : Nat) (s : BS) : Prop where
  mem : ∀ v e, s.by_ v = some e → E e ∧ e.v = v ∧ s.d e.u < far
  nil : ∀ v, s.by_ v = none → s.d v = d0 v
  low : ∀ v e, s.by_ v = some e → s.d e.u + e.c ≤ s.d v
  strict : ∀ v e, s.by_ v = some e → T v ≤ T e.u → s.d e.u + e.c < s.d v
  tm : ∀ v, T v ≤ τ
section
variable {E : Ed → Prop} {far : Int} {d0 : Nat → Int} {s : BS}
theorem relax_le (far : Int) (s : BS) (e : Ed) (v : Nat) : (relax far s e).d v ≤ s.d v := by
  unfold relax
  split
  · rename_i h
    show (if v = e.v then s.d e.u + e.c else s.d v) ≤ s.d v
    split
    · rename_i hv; subst hv; omega
    · exact Int.le_refl _
  · exact Int.le_refl _
theorem relax_inv {T : Nat → Nat} {τ : Nat} (h : Inv E far d0 T τ s) {e : Ed} (he : E e) (hn : e.u ≠ e.v) : ∃ T', Inv E far d0 T' (τ + 1) (relax far s e) := by
  by_cases hf : s.d e.u < far ∧ s.d e.u + e.c < s.d e.v
  · refine ⟨fun x => if x = e.v then τ + 1 else T x, ?_⟩
    unfold relax
    rw [if_pos hf]
    refine ⟨fun v x hx => ?_, fun v hx => ?_, fun v x hx => ?_, fun v x hx ht => ?_, fun v => ?_⟩
    · show E x ∧ x.v = v ∧ (if x.u = e.v then s.d e.u + e.c else s.d x.u) < far
      have hx' : (if v = e.v then some e else s.by_ v) = some x := hx
      split at hx'
      · rename_i hv
        obtain rfl : e = x := Option.some.inj hx'
        rw [if_neg hn]
        exact ⟨he, hv.symm, hf.1⟩
      · obtain ⟨a, b, c⟩ := h.mem v x hx'
        refine ⟨a, b, ?_⟩
        split
        · rename_i hu; rw [hu] at c; omega
        · exact c
    · have hx' : (if v = e.v then some e else s.by_ v) = none := hx
      show (if v = e.v then s.d e.u + e.c else s.d v) = d0 v
      split at hx'
      · cases hx'
      · rename_i hv; rw [if_neg hv]; exact h.nil v hx'
    · have hx' : (if v = e.v then some e else s.by_ v) = some x := hx
      show (if x.u = e.v then s.d e.u + e.c else s.d x.u) + x.c ≤ (if v = e.v then s.d e.u + e.c else s.d v)
      split at hx'
      · rename_i hv
        obtain rfl : e = x := Option.some.inj hx'
        rw [if_neg hn, if_pos hv]; omega
      · rename_i hv
        have l := h.low v x hx'
        rw [if_neg hv]
        split
        · rename_i hu; rw [hu] at l; omega
        · exact l
    · have hx' : (if v = e.v then some e else s.by_ v) = some x := hx
      have ht' : (if v = e.v then τ + 1 else T v) ≤ (if x.u = e.v then τ + 1 else T x.u) := ht
      show (if x.u = e.v then s.d e.u + e.c else s.d x.u) + x.c < (if v = e.v then s.d e.u + e.c else s.d v)
      split at hx'
      · rename_i hv
        obtain rfl : e = x := Option.some.inj hx'
        rw [if_pos hv, if_neg hn] at ht'
        have := h.tm e.u
        omega
      · rename_i hv
        have l := h.low v x hx'
        rw [if_neg hv]
        rw [if_neg hv] at ht'
        split
        · rename_i hu; rw [hu] at l; omega
        · rename_i hu
          rw [if_neg hu] at ht'
          exact h.strict v x hx' ht'
    · show (if v = e.v then τ + 1 else T v) ≤ τ + 1
      have := h.tm v
      split <;> omega
  · refine ⟨T, ?_⟩
    unfold relax
    rw [if_neg hf]
    exact ⟨h.mem, h.nil, h.low, h.strict, fun v => by have := h.tm v; omega⟩
/-- The invariant, whatever the times. -/
def InvE (E : Ed → Prop) (far : Int) (d0 : Nat → Int) (s : BS) : Prop := ∃ T τ, Inv E far d0 T τ s
theorem fold_inv : ∀ (L : List Ed) (s : BS), InvE E far d0 s → (∀ e ∈ L, E e ∧ e.u ≠ e.v) → InvE E far d0 (L.foldl (relax far) s)
  | [], _, h, _ => h
  | e :: r, s, ⟨T, τ, h⟩, hL => by
    obtain ⟨T', h'⟩ := relax_inv h (hL e (List.mem_cons_self ..)).1 (hL e (List.mem_cons_self ..)).2
    exact fold_inv r _ ⟨T', _, h'⟩ (fun x hx => hL x (List.mem_cons_of_mem _ hx))
theorem fresh_inv (h : InvE E far d0 s) : InvE E far d0 (fresh s) := by
  obtain ⟨T, τ, h⟩ := h
  exact ⟨T, τ, ⟨h.mem, h.nil, h.low, h.strict, h.tm⟩⟩
theorem rnds_inv {L : List Ed} (h : InvE E far d0 s) (hL : ∀ e ∈ L, E e ∧ e.u ≠ e.v) : ∀ k, InvE E far d0 (rnds far L s k)
  | 0 => h
  | k + 1 => fold_inv L _ (fresh_inv (rnds_inv h hL k)) hL
theorem start_inv : InvE E far d0 ⟨d0, fun _ => none, -1⟩ :=
  ⟨fun _ => 0, 0, ⟨fun v e h => (by cases h), fun _ _ => rfl, fun v e h => (by cases h), fun v e h => (by cases h), fun _ => Nat.le_refl _⟩⟩
def pre (s : BS) (v : Nat) : Nat := match s.by_ v with | some e => e.u | none => v
def ce (s : BS) (v : Nat) : Int := match s.by_ v with | some e => e.c | none => 0
def itp (s : BS) : Nat → Nat → Nat
  | 0, v => v
  | k + 1, v => pre s (itp s k v)
def itc (s : BS) : Nat → Nat → Int
  | 0, _ => 0
  | k + 1, v => itc s k v + ce s (itp s k v)
theorem itp_add (s : BS) (a : Nat) (v : Nat) : ∀ b, itp s (a + b) v = itp s b (itp s a v)
  | 0 => rfl
  | b + 1 => by
    show pre s (itp s (a + b) v) = pre s (itp s b (itp s a v))
    rw [itp_add s a v b]
theorem pre_some {v : Nat} {e : Ed} (h : s.by_ v = some e) : pre s v = e.u ∧ ce s v = e.c := by unfold pre ce; rw [h]; exact ⟨rfl, rfl⟩
theorem itp_low {T : Nat → Nat} {τ : Nat} (h : Inv E far d0 T τ s) (v : Nat) : ∀ k, (∀ i, i < k → s.by_ (itp s i v) ≠ none) → s.d (itp s k v) + itc s k v ≤ s.d v ∧ (s.d (itp s k v) + itc s k v < s.d v ∨ T (itp s k v) + k ≤ T v)
  | 0, _ => ⟨by simp [itp, itc], .inr (by simp [itp])⟩
  | k + 1, ha => by
    obtain ⟨i1, i2⟩ := itp_low h v k (fun i hi => ha i (by omega))
    have hk := ha k (by omega)
    cases hx : s.by_ (itp s k v) with
    | none => exact absurd hx hk
    | some e =>
      obtain ⟨p1, p2⟩ := pre_some hx
      have l := h.low _ _ hx
      show s.d (pre s (itp s k v)) + (itc s k v + ce s (itp s k v)) ≤ s.d v ∧ (s.d (pre s (itp s k v)) + (itc s k v + ce s (itp s k v)) < s.d v ∨ T (pre s (itp s k v)) + (k + 1) ≤ T v)
      rw [p1, p2]
      refine ⟨by omega, ?_⟩
      by_cases ht : T (itp s k v) ≤ T e.u
      · have := h.strict _ _ hx ht
        left; omega
      · rcases i2 with i2 | i2
        · left; omega
        · right; omega
/-- A round back costs less than nothing. -/
theorem cycle_neg (h : InvE E far d0 s) {v k : Nat} (hk : 0 < k) (ha : ∀ i, i < k → s.by_ (itp s i v) ≠ none) (hc : itp s k v = v) : itc s k v < 0 := by
  obtain ⟨T, τ, h⟩ := h
  obtain ⟨l1, l2⟩ := itp_low h v k ha
  rw [hc] at l1 l2
  rcases l2 with l2 | l2 <;> omega
theorem itp_lt {N : Nat} (hN : ∀ v e, s.by_ v = some e → e.u < N) {v : Nat} (hv : v < N) : ∀ k, itp s k v < N
  | 0 => hv
  | k + 1 => by
    show pre s (itp s k v) < N
    unfold pre
    split
    · rename_i e he; exact hN _ _ he
    · exact itp_lt hN hv k
theorem pigeon : ∀ (N : Nat) (f : Nat → Nat), (∀ k, k ≤ N → f k < N) → ∃ i j, i < j ∧ j ≤ N ∧ f i = f j
  | 0, f, h => by have := h 0 (Nat.le_refl _); omega
  | N + 1, f, h => by
    by_cases hx : ∃ k, k ≤ N ∧ f k = f (N + 1)
    · obtain ⟨k, hk, e⟩ := hx
      exact ⟨k, N + 1, by omega, by omega, e⟩
    · have hx' : ∀ k, k ≤ N → f k ≠ f (N + 1) := fun k hk e => hx ⟨k, hk, e⟩
      obtain ⟨i, j, h1, h2, h3⟩ := pigeon N (fun k => if f (N + 1) < f k then f k - 1 else f k) (fun k hk => by
        have a := h k (by omega)
        have b := h (N + 1) (by omega)
        have c := hx' k hk
        show (if f (N + 1) < f k then f k - 1 else f k) < N
        split <;> omega)
      refine ⟨i, j, h1, by omega, ?_⟩
      have a := hx' i (by omega)
      have b := hx' j (by omega)
      have h3' : (if f (N + 1) < f i then f i - 1 else f i) = (if f (N + 1) < f j then f j - 1 else f j) := h3
      split at h3' <;> split at h3' <;> omega
/-- A way back that does not end goes round. -/
theorem alive_cycle {N : Nat} (hN : ∀ v e, s.by_ v = some e → e.u < N) {v : Nat} (hv : v < N) : ∃ i p, 0 < p ∧ i + p ≤ N ∧ itp s p (itp s i v) = itp s i v := by
  obtain ⟨i, j, h1, h2, h3⟩ := pigeon N (fun k => itp s k v) (fun k _ => itp_lt hN hv k)
  refine ⟨i, j - i, by omega, by omega, ?_⟩
  rw [← itp_add, show i + (j - i) = j by omega]; exact h3.symm
theorem alive_root {N : Nat} (hN : ∀ v e, s.by_ v = some e → e.u < N) (h : InvE E far d0 s) {P : Nat → Int} (hP : ∀ v e, s.by_ v = some e → P v ≤ P e.u + e.c) {v : Nat} (hv : v < N) : ∃ k, k < N ∧ s.by_ (itp s k v) = none ∧ ∀ i, i < k → s.by_ (itp s i v) ≠ none := by
  have hd : ∀ i, Decidable (s.by_ (itp s i v) = none) := fun i => by cases s.by_ (itp s i v) with | none => exact isTrue rfl | some e => exact isFalse (by simp)
  by_cases hx : ∃ k, k < N ∧ s.by_ (itp s k v) = none
  · -- the least such k
    have : ∀ n, (∃ k, k < n ∧ k < N ∧ s.by_ (itp s k v) = none) → ∃ k, k < N ∧ s.by_ (itp s k v) = none ∧ ∀ i, i < k → s.by_ (itp s i v) ≠ none := by
      intro n
      induction n with
      | zero => rintro ⟨k, hk, _⟩; omega
      | succ n ih =>
        rintro ⟨k, hk, hkN, hkn⟩
        by_cases hy : ∃ q, q < n ∧ q < N ∧ s.by_ (itp s q v) = none
        · exact ih hy
        · exact ⟨k, hkN, hkn, fun i hi hc => hy ⟨i, by omega, by omega, hc⟩⟩
    obtain ⟨k, hk, hkn⟩ := hx
    exact this N ⟨k, hk, hk, hkn⟩
  · have ha : ∀ k, k < N → s.by_ (itp s k v) ≠ none := fun k hk hc => hx ⟨k, hk, hc⟩
    obtain ⟨i, p, h1, h2, h3⟩ := alive_cycle hN hv
    have hal : ∀ q, q < p → s.by_ (itp s q (itp s i v)) ≠ none := fun q hq => by rw [← itp_add]; exact ha _ (by omega)
    have neg := cycle_neg h h1 hal h3
    have key : ∀ q, q ≤ p → P (itp s i v) ≤ P (itp s q (itp s i v)) + itc s q (itp s i v) := by
      intro q
      induction q with
      | zero => intro _; simp [itp, itc]
      | succ q ih =>
        intro hq
        have ih := ih (by omega)
        cases hb : s.by_ (itp s q (itp s i v)) with
        | none => exact absurd hb (hal q (by omega))
        | some e =>
          have := hP _ _ hb
          obtain ⟨p1, p2⟩ := pre_some hb
          show _ ≤ P (pre s (itp s q (itp s i v))) + (itc s q (itp s i v) + ce s (itp s q (itp s i v)))
          rw [p1, p2]; omega
    have := key p (Nat.le_refl _)
    rw [h3] at this
    omega
theorem fold_le (far : Int) : ∀ (L : List Ed) (s : BS) (v : Nat), (L.foldl (relax far) s).d v ≤ s.d v
  | [], _, _ => Int.le_refl _
  | e :: r, s, v => Int.le_trans (fold_le far r _ v) (relax_le far s e v)
theorem fold_edge (far : Int) : ∀ (L : List Ed) (s : BS) (e : Ed), e ∈ L → s.d e.u < far → (L.foldl (relax far) s).d e.v ≤ s.d e.u + e.c
  | x :: r, s, e, he, hf => by
    rcases List.mem_cons.1 he with rfl | he
    · refine Int.le_trans (fold_le far r _ _) ?_
      unfold relax
      split
      · show (if e.v = e.v then s.d e.u + e.c else s.d e.v) ≤ _
        rw [if_pos rfl]; omega
      · rename_i hc
        have : ¬ (s.d e.u + e.c < s.d e.v) := fun h => hc ⟨hf, h⟩
        omega
    · have a := relax_le far s x e.u
      have := fold_edge far r (relax far s x) e he (by omega)
      show (r.foldl (relax far) (relax far s x)).d e.v ≤ _
      omega
theorem rnds_mono (far : Int) (L : List Ed) (s : BS) (v : Nat) (a : Nat) : ∀ b, (rnds far L s (a + b)).d v ≤ (rnds far L s a).d v
  | 0 => Int.le_refl _
  | b + 1 => Int.le_trans (fold_le far L (fresh (rnds far L s (a + b))) v) (rnds_mono far L s v a b)
/-- Walks of k edges from where the costs are known at first. -/
inductive W (L : List Ed) (far : Int) (d0 : Nat → Int) : Nat → Nat → Int → Prop
  | nil (v : Nat) : d0 v < far → W L far d0 0 v (d0 v)
  | step {k : Nat} {e : Ed} {C : Int} : W L far d0 k e.u C → e ∈ L → W L far d0 (k + 1) e.v (C + e.c)
theorem W_le {L : List Ed} {far : Int} {s0 : BS} {R : Nat} (hfar : ∀ k v C, k ≤ R → W L far s0.d k v C → C < far) : ∀ {k v : Nat} {C : Int}, W L far s0.d k v C → k ≤ R → (rnds far L s0 k).d v ≤ C := by
  intro k v C h
  induction h with
  | nil v hv => intro _; exact Int.le_refl _
  | @step k e C h he ih =>
    intro hk
    have i := ih (by omega)
    have hC := hfar _ _ _ (by omega) h
    have := fold_edge far L (fresh (rnds far L s0 k)) e he (show (rnds far L s0 k).d e.u < far by omega)
    have h2 : (fresh (rnds far L s0 k)).d e.u = (rnds far L s0 k).d e.u := rfl
    show (rnd far L (rnds far L s0 k)).d e.v ≤ C + e.c
    unfold rnd
    omega
theorem chain_W {L : List Ed} {T : Nat → Nat} {τ : Nat} (h : Inv (fun e => e ∈ L) far d0 T τ s) (v : Nat) : ∀ (k : Nat), (∀ i, i < k → s.by_ (itp s i v) ≠ none) → ∀ (q : Nat) (C : Int), W L far d0 q (itp s k v) C → W L far d0 (q + k) v (C + itc s k v)
  | 0, _, q, C, w => by simpa [itp, itc] using w
  | k + 1, ha, q, C, w => by
    cases hx : s.by_ (itp s k v) with
    | none => exact absurd hx (ha k (by omega))
    | some e =>
      obtain ⟨p1, p2⟩ := pre_some hx
      obtain ⟨m1, m2, m3⟩ := h.mem _ _ hx
      have w' : W L far d0 q e.u C := by
        have : itp s (k + 1) v = e.u := p1
        rwa [this] at w
      have w2 := W.step w' m1
      rw [m2] at w2
      have := chain_W h v k (fun i hi => ha i (by omega)) (q + 1) _ w2
      rw [show q + (k + 1) = q + 1 + k by omega, show C + itc s (k + 1) v = C + e.c + itc s k v by
        show C + (itc s k v + ce s (itp s k v)) = _
        rw [p2]; omega]
      exact this
theorem chain_far {L : List Ed} {T : Nat → Nat} {τ : Nat} (h : Inv (fun e => e ∈ L) far d0 T τ s) {v : Nat} (hv : s.d v < far) : ∀ k, s.d (itp s k v) < far
  | 0 => hv
  | k + 1 => by
    show s.d (pre s (itp s k v)) < far
    cases hx : s.by_ (itp s k v) with
    | none => unfold pre; rw [hx]; exact chain_far h hv k
    | some e => rw [(pre_some hx).1]; exact (h.mem _ _ hx).2.2
/-- A node that is still changed in a late round has a long way back. -/
theorem late_alive {L : List Ed} {far : Int} {s0 : BS} {R : Nat} (hL : ∀ e ∈ L, e.u ≠ e.v) (h0 : s0.by_ = fun _ => none) (hfar : ∀ k v C, k ≤ R → W L far s0.d k v C → C < far) {v : Nat}
    (hv : (rnds far L s0 (R + 1)).d v < (rnds far L s0 R).d v) (hff : (rnds far L s0 (R + 1)).d v < far) : ∀ k, k ≤ R → (rnds far L s0 (R + 1)).by_ (itp (rnds far L s0 (R + 1)) k v) ≠ none := by
  have hi : InvE (fun e => e ∈ L) far s0.d (rnds far L s0 (R + 1)) := by
    refine rnds_inv ?_ (fun e he => ⟨he, hL e he⟩) (R + 1)
    refine ⟨fun _ => 0, 0, ⟨fun v e h => ?_, fun _ _ => rfl, fun v e h => ?_, fun v e h => ?_, fun _ => Nat.le_refl _⟩⟩ <;> (rw [h0] at h; cases h)
  obtain ⟨T, τ, hi⟩ := hi
  intro k
  induction k using Nat.strongRecOn with
  | _ k ih =>
    intro hk hc
    have al : ∀ i, i < k → (rnds far L s0 (R + 1)).by_ (itp (rnds far L s0 (R + 1)) i v) ≠ none := fun i hi => ih i hi (by omega)
    have e0 := hi.nil _ hc
    have f0 := chain_far hi hff k
    rw [e0] at f0
    have w := chain_W hi v k al 0 _ (W.nil _ f0)
    rw [Nat.zero_add] at w
    have l := (itp_low hi v k al).1
    rw [e0] at l
    have a := W_le hfar w hk
    have b := rnds_mono far L s0 v k (R - k)
    rw [show k + (R - k) = R by omega] at b
    omega
/-- What the number that was changed last tells. -/
theorem fold_last (far : Int) (N : Nat) (d1 : Nat → Int) : ∀ (L : List Ed) (s : BS), (∀ e ∈ L, e.v < N) → (∀ v, s.d v ≤ d1 v) → ((s.last = -1 ∧ s.d = d1) ∨ ∃ v, v < N ∧ s.last = (v : Int) ∧ s.d v < d1 v) →
    ((L.foldl (relax far) s).last = -1 ∧ (L.foldl (relax far) s).d = d1) ∨ ∃ v, v < N ∧ (L.foldl (relax far) s).last = (v : Int) ∧ (L.foldl (relax far) s).d v < d1 v
  | [], s, _, _, h => h
  | e :: r, s, hL, hd, h => by
    refine fold_last far N d1 r (relax far s e) (fun x hx => hL x (List.mem_cons_of_mem _ hx)) (fun v => Int.le_trans (relax_le far s e v) (hd v)) ?_
    unfold relax
    split
    · rename_i hf
      refine .inr ⟨e.v, hL e (List.mem_cons_self ..), rfl, ?_⟩
      show (if e.v = e.v then s.d e.u + e.c else s.d e.v) < _
      rw [if_pos rfl]
      have := hd e.v
      omega
    · exact h
theorem rnd_last {L : List Ed} {N : Nat} (hL : ∀ e ∈ L, e.v < N) (s : BS) : ((rnd far L s).last = -1 ∧ (rnd far L s).d = s.d) ∨ ∃ v, v < N ∧ (rnd far L s).last = (v : Int) ∧ (rnd far L s).d v < s.d v :=
  fold_last far N s.d L (fresh s) hL (fun _ => Int.le_refl _) (.inl ⟨rfl, rfl⟩)
theorem rnd_stable {L : List Ed} {s : BS} (h : (rnd far L s).d = s.d) : ∀ e ∈ L, s.d e.u < far → s.d e.v ≤ s.d e.u + e.c := fun e he hf => by
  have a := fold_edge far L (fresh s) e he hf
  have b : (rnd far L s).d e.v = s.d e.v := by rw [h]
  have c : (fresh s).d e.u = s.d e.u := rfl
  unfold rnd at b
  omega
/-- Bounds of what is known. -/
theorem fold_bnd (far M : Int) (hM : 0 ≤ M) : ∀ (L : List Ed) (s : BS) (lo : Int), (∀ e ∈ L, -M ≤ e.c) → (∀ v, lo ≤ s.d v) → ∀ v, lo - M * (L.length : Int) ≤ (L.foldl (relax far) s).d v
  | [], s, lo, _, h, v => by simpa using h v
  | e :: r, s, lo, hL, h, v => by
    have he := hL e (List.mem_cons_self ..)
    have := fold_bnd far M hM r (relax far s e) (lo - M) (fun x hx => hL x (List.mem_cons_of_mem _ hx)) (fun w => by
      have a := h w
      have b := h e.u
      unfold relax
      split
      · show lo - M ≤ (if w = e.v then s.d e.u + e.c else s.d w)
        split <;> omega
      · show lo - M ≤ s.d w
        omega) v
    rw [List.length_cons, show ((r.length + 1 : Nat) : Int) = (r.length : Int) + 1 by omega, Int.mul_add]
    show lo - (M * (r.length : Int) + M * 1) ≤ (r.foldl (relax far) (relax far s e)).d v
    omega
theorem rnds_bnd {far M : Int} (hM : 0 ≤ M) {L : List Ed} {s : BS} {lo : Int} (hL : ∀ e ∈ L, -M ≤ e.c) (h : ∀ v, lo ≤ s.d v) : ∀ (k : Nat) (v : Nat), lo - M * (L.length : Int) * (k : Int) ≤ (rnds far L s k).d v
  | 0, v => by simpa [rnds] using h v
  | k + 1, v => by
    have := fold_bnd far M hM L (fresh (rnds far L s k)) _ hL (fun w => rnds_bnd hM hL h k w) v
    rw [show ((k + 1 : Nat) : Int) = (k : Int) + 1 by omega, Int.mul_add]
    show _ ≤ (L.foldl (relax far) (fresh (rnds far L s k))).d v
    omega
theorem W_bnd {L : List Ed} {M : Int} (hL : ∀ e ∈ L, e.c ≤ M) (h0 : ∀ v, d0 v < far → d0 v ≤ 0) : ∀ {k v : Nat} {C : Int}, W L far d0 k v C → C ≤ M * (k : Int) := by
  intro k v C h
  induction h with
  | nil v hv => have := h0 v hv; simpa using this
  | @step k e C h he ih =>
    have := hL e he
    rw [show ((k + 1 : Nat) : Int) = (k : Int) + 1 by omega, Int.mul_add]
    omega
end
end Go.D7
