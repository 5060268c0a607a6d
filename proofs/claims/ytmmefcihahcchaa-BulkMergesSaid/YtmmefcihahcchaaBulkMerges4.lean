/- Lemmas and walks that the proof of this claim uses: D7m6, D7m7, D7m8, D7m9, D7m19, D7m20. -/
import Derived.Test.YtmmefcihahcchaaBulkMerges3
set_option linter.unusedVariables false
set_option linter.unusedSimpArgs false
namespace Go.D7
open Go.Tb Go.Proofs Go.RowKit
theorem Tc22 : callable Try.prog 22 = true := by kernel_rfl
theorem Tc57 : callable Try.prog 57 = true := by kernel_rfl
theorem Tc67 : callable Try.prog 67 = true := by kernel_rfl
theorem Tc87 : callable Try.prog 87 = true := by kernel_rfl
theorem Tf27_0 : tyF Try.prog 27 0 = some 0 := by kernel_rfl
theorem Tf27_1 : tyF Try.prog 27 1 = some 1 := by kernel_rfl
theorem Tk27 : tyK Try.prog 27 = some (true, 2) := by kernel_rfl
set_option maxRecDepth 20000 in
set_option maxHeartbeats 1000000 in
theorem bulk_priced_1_ok {a0 : Int} {w : World} {res : Bool} (F : bulk_priced_1 a0 = some res) : Calls Try.prog 87 #[.int .i64 a0] w (Rt w (.bool res)) := by
  refine calls_of_cw (args := [.int .i64 a0]) Try.func87 rfl rfl rfl rfl ?_
  have H := Hp.start w
  have R0 := H.ext
  unfold bulk_priced_1 at F
  refine CW.seq fun K1 hK1 => ?_
  refine CW.region ?_
  refine LW.pure rfl rfl (RV.assign rfl) ?_
  refine LW.nil (hK1 _ _ ?_)
  refine CW.seq fun K2 hK2 => ?_
  obtain ⟨r1, hr1, F⟩ := bnd_some F
  refine CW.region ?_
  refine LW.pure rfl rfl (RV.move rfl) ?_
  refine LW.go rfl rfl (OW.call Tc64 rfl (bulk_within_ok (a0 := a0) (a1 := (-1000 : Int)) (a2 := (1000 : Int)) hr1) ?_)
  rintro _ w1 ⟨rfl, E1⟩
  refine ⟨_, rfl, ?_⟩
  replace H := H.grow E1
  replace R0 := H.ext
  refine LW.pure rfl rfl (RV.not rfl) ?_
  refine LW.pure rfl rfl (RV.assign rfl) ?_
  refine LW.nil (hK2 _ _ ?_)
  refine CW.ret ?_
  obtain rfl := Option.some.inj F
  refine ⟨_, (ResOK.one rfl), ?_⟩
  refine ⟨(by first | rfl | simp), R0⟩
set_option maxRecDepth 20000 in
set_option maxHeartbeats 1000000 in
theorem bulk_priced_ok {a0 : List Int} {a1 : Int} {A_a0 : Option Addr} {c_a0 : Nat} {w : World} {res : Bool} (h_a0 : Sl w A_a0 c_a0 1 (a0.map encN)) (F : bulk_priced a0 a1 = some res) : Calls Try.prog 57 #[.slice A_a0 a0.length c_a0, .int .i64 a1] w (Rt w (.bool res)) := by
  refine calls_of_cw (args := [.slice A_a0 a0.length c_a0, .int .i64 a1]) Try.func57 rfl rfl rfl rfl ?_
  have H := Hp.start w
  have R0 := H.ext
  unfold bulk_priced at F
  refine CW.seq fun K1 hK1 => ?_
  refine CW.region ?_
  refine LW.pure rfl rfl (RV.assign rfl) ?_
  refine LW.nil (hK1 _ _ ?_)
  refine CW.seq fun K2 hK2 => ?_
  by_cases hp1 : ((a0.length : Int)) = a1
  ·
    replace F := ite_y hp1 F
    have hq1 := dec_t hp1
    obtain ⟨r1, hr1, F⟩ := bnd_some F
    refine CW.region ?_
    refine LW.pure rfl rfl (RV.move rfl) ?_
    refine LW.pure rfl rfl (RV.len Ts22 rfl) ?_
    refine LW.pure rfl rfl (RV.move rfl) ?_
    refine LW.pure rfl rfl (RV.eqi rfl rfl) ?_
    refine LW.pure rfl rfl (RV.move rfl) ?_
    refine LW.pureYB rfl rfl rfl rfl hq1 (RV.move rfl) ?_
    refine LW.yesB rfl rfl rfl rfl hq1 (OW.call Tc86 rfl (slices_ContainsFunc_int_ok (a0 := a0) (a1 := bulk_priced_1) (h_a0.ext R0) (fun x0 r hF w1 hE => CallsV.of Tc87 (bulk_priced_1_ok (a0 := x0) hF)) hr1) ?_)
    rintro _ w2 ⟨rfl, E1⟩
    refine ⟨_, rfl, ?_⟩
    replace H := H.grow E1
    replace R0 := H.ext
    refine LW.pureYB rfl rfl rfl rfl hq1 (RV.not rfl) ?_
    refine LW.pure rfl rfl (RV.pickTB rfl hq1 rfl) ?_
    refine LW.pure rfl rfl (RV.assign rfl) ?_
    refine LW.nil (hK2 _ _ ?_)
    refine CW.ret ?_
    obtain rfl := Option.some.inj F
    refine ⟨_, (ResOK.one rfl), ?_⟩
    refine ⟨(by first | rfl | simp), R0⟩
  ·
    replace F := ite_n hp1 F
    have hq1 := dec_f hp1
    refine CW.region ?_
    refine LW.pure rfl rfl (RV.move rfl) ?_
    refine LW.pure rfl rfl (RV.len Ts22 rfl) ?_
    refine LW.pure rfl rfl (RV.move rfl) ?_
    refine LW.pure rfl rfl (RV.eqi rfl rfl) ?_
    refine LW.pure rfl rfl (RV.move rfl) ?_
    refine LW.noB rfl rfl rfl rfl (ne_beq (v := false) hq1 rfl) ?_
    refine LW.noB rfl rfl rfl rfl (ne_beq (v := false) hq1 rfl) ?_
    refine LW.noB rfl rfl rfl rfl (ne_beq (v := false) hq1 rfl) ?_
    refine LW.pure rfl rfl (RV.pickFB rfl hq1 rfl) ?_
    refine LW.pure rfl rfl (RV.assign rfl) ?_
    refine LW.nil (hK2 _ _ ?_)
    refine CW.ret ?_
    obtain rfl := Option.some.inj F
    refine ⟨_, (ResOK.one rfl), ?_⟩
    refine ⟨(by first | rfl | simp), R0⟩
set_option maxRecDepth 20000 in
set_option maxHeartbeats 1000000 in
theorem bulk_CheckPrices_ok {a0 : Trade} {a1 : Prices} {A_a0_supply : Option Addr} {c_a0_supply : Nat} {A_a0_demand : Option Addr} {c_a0_demand : Nat} {A_a0_cost : Option Addr} {c_a0_cost : Nat} {A_a1_stores : Option Addr} {c_a1_stores : Nat} {A_a1_buyers : Option Addr} {c_a1_buyers : Nat} {w : World} {res : Int} (h_a0_supply : Sl w A_a0_supply c_a0_supply 1 (a0.supply.map encN)) (h_a0_demand : Sl w A_a0_demand c_a0_demand 1 (a0.demand.map encN)) (h_a0_cost : Sl2 w A_a0_cost c_a0_cost 1 encN a0.cost) (h_a1_stores : Sl w A_a1_stores c_a1_stores 1 (a1.stores.map encN)) (h_a1_buyers : Sl w A_a1_buyers c_a1_buyers 1 (a1.buyers.map encN)) (F : bulk_CheckPrices a0 a1 = some res) : Calls Try.prog 22 #[.agg #[.slice A_a0_supply a0.supply.length c_a0_supply, .slice A_a0_demand a0.demand.length c_a0_demand, .slice A_a0_cost a0.cost.length c_a0_cost], .agg #[.slice A_a1_stores a1.stores.length c_a1_stores, .slice A_a1_buyers a1.buyers.length c_a1_buyers]] w (Rt w (.int .i64 res)) := by
  refine calls_of_cw (args := [.agg #[.slice A_a0_supply a0.supply.length c_a0_supply, .slice A_a0_demand a0.demand.length c_a0_demand, .slice A_a0_cost a0.cost.length c_a0_cost], .agg #[.slice A_a1_stores a1.stores.length c_a1_stores, .slice A_a1_buyers a1.buyers.length c_a1_buyers]]) Try.func22 rfl rfl rfl rfl ?_
  have H := Hp.start w
  have R0 := H.ext
  unfold bulk_CheckPrices at F
  refine CW.seq fun K1 hK1 => ?_
  refine CW.region ?_
  refine LW.go rfl rfl (OW.box rfl fun b1 w1 N1 => ?_)
  replace H := H.new N1 N1.blk
  replace R0 := H.ext
  refine LW.go rfl rfl (OW.box rfl fun b2 w2 N2 => ?_)
  replace H := H.new N2 N2.blk
  replace R0 := H.ext
  refine LW.pure rfl rfl (RV.assign rfl) ?_
  refine LW.nil (hK1 _ _ ?_)
  refine CW.seq fun K2 hK2 => ?_
  refine CW.seq fun K3 hK3 => ?_
  obtain ⟨r1, hr1, F⟩ := bnd_some F
  refine CW.region ?_
  refine LW.pure rfl rfl (RV.loadA [.slice A_a0_supply a0.supply.length c_a0_supply, .slice A_a0_demand a0.demand.length c_a0_demand, .slice A_a0_cost a0.cost.length c_a0_cost] Tk25 rfl (H.blk 1 rfl).cells rfl rfl) ?_
  refine LW.go rfl rfl (OW.call Tc38 rfl (bulk_Validate_ok (a0 := a0) (h_a0_supply.ext R0) (h_a0_demand.ext R0) (h_a0_cost.ext R0) hr1) ?_)
  rintro _ w3 ⟨rfl, E1⟩
  refine ⟨_, rfl, ?_⟩
  replace H := H.grow E1
  replace R0 := H.ext
  refine LW.pure rfl rfl (RV.assign rfl) ?_
  refine LW.nil (hK3 _ _ ?_)
  refine CW.seq fun K4 hK4 => ?_
  refine CW.region ?_
  refine LW.pure rfl rfl (RV.move rfl) ?_
  refine LW.pure rfl rfl (RV.nei rfl rfl) ?_
  refine LW.nil (hK4 _ _ ?_)
  by_cases hp1 : r1 = 0
  ·
    replace F := ite_y hp1 F
    have hq1 := dec_t hp1
    refine CW.condF rfl (not_f hq1) ?_
    refine CW.skip (hK2 _ _ ?_)
    refine CW.seq fun K5 hK5 => ?_
    refine CW.seqJ (fun ρ wl1 => (∃ (t30_1 : Bool), bulk_CheckPrices_k3 a0 a1 t30_1 = some res ∧ ρ = [(2, .pointer (some (⟨b1, 0, none⟩))), (3, .pointer (some (⟨b2, 0, none⟩))), (4, .int .i64 0), (30, .bool t30_1)] ∧ Hp w wl1 [.blk b1 25 [.slice A_a0_supply a0.supply.length c_a0_supply, .slice A_a0_demand a0.demand.length c_a0_demand, .slice A_a0_cost a0.cost.length c_a0_cost], .blk b2 27 [.slice A_a1_stores a1.stores.length c_a1_stores, .slice A_a1_buyers a1.buyers.length c_a1_buyers]])) ?_ ?_
    ·
      rintro _ wl1 ⟨t30_1, F, rfl, H⟩
      have R0 := H.ext
      unfold bulk_CheckPrices_k3 at F
      by_cases hp2 : t30_1 = true
      ·
        replace F := ite_y hp2 F
        have hq2 : t30_1 = true := hp2
        refine CW.condT rfl hq2 ?_
        refine CW.seq fun K6 hK6 => ?_
        refine CW.region ?_
        refine LW.pure rfl rfl (RV.assign rfl) ?_
        refine LW.nil (hK6 _ _ ?_)
        refine CW.ret ?_
        obtain rfl := Option.some.inj F
        refine ⟨_, (ResOK.one rfl), ?_⟩
        refine ⟨(by first | rfl | simp), R0⟩
      ·
        replace F := ite_n hp2 F
        have hq2 : t30_1 = false := raw_f hp2
        refine CW.condF rfl hq2 ?_
        refine CW.skip (hK5 _ _ ?_)
        refine CW.seqJ (fun ρ wl2 => (bulk_CheckPrices_k1 = some res ∧ ρ = [(4, .int .i64 0)] ∧ Hp w wl2 [])) ?_ ?_
        ·
          rintro _ wl2 ⟨F, rfl, H⟩
          have R0 := H.ext
          unfold bulk_CheckPrices_k1 at F
          refine CW.seq fun K7 hK7 => ?_
          refine CW.region ?_
          refine LW.pure rfl rfl (RV.assign rfl) ?_
          refine LW.nil (hK7 _ _ ?_)
          refine CW.ret ?_
          obtain rfl := Option.some.inj F
          refine ⟨_, (ResOK.one rfl), ?_⟩
          refine ⟨(by first | rfl | simp), R0⟩
        ·
          intro K8 hK8 jK408
          refine CW.seq fun K9 hK9 => ?_
          refine CW.region ?_
          refine LW.pure rfl rfl (RV.fieldAddr Tf25_2 rfl) ?_
          refine LW.pure rfl rfl (RV.load1 Tk23 rfl ((H.blk 0 rfl).cells.off 2) rfl) ?_
          refine LW.pure rfl rfl (RV.len Ts23 rfl) ?_
          refine LW.pure rfl rfl (RV.move rfl) ?_
          refine LW.nil (hK9 _ _ ?_)
          refine CW.block ?_
          replace H := H.pick (L' := [.blk b2 27 [.slice A_a1_stores a1.stores.length c_a1_stores, .slice A_a1_buyers a1.buyers.length c_a1_buyers]]) [1] (by decide) rfl
          replace R0 := H.ext
          refine CW.loop (fun meas ρ wl3 => ∃ (t34_1 : Int), bulk_CheckPrices_L2 a0 a1 meas t34_1 = some res ∧ ρ = [(3, .pointer (some (⟨b2, 0, none⟩))), (4, .int .i64 0), (32, .slice A_a0_cost a0.cost.length c_a0_cost), (33, .int .i64 ((a0.cost.length : Int))), (34, .int .i64 t34_1)] ∧ Hp w wl3 [.blk b2 27 [.slice A_a1_stores a1.stores.length c_a1_stores, .slice A_a1_buyers a1.buyers.length c_a1_buyers]]) FU ⟨_, ?_, ((0 : Int)), F, rfl, H⟩ ?_
          · exact ⟨rfl, rfl, rfl, rfl, rfl, trivial⟩
          rintro mk1 _ wl3 ⟨t34_1, F, rfl, H⟩
          have R0 := H.ext
          replace F := bulk_CheckPrices_L2_s F
          obtain ⟨mk1, rfl, F⟩ := F
          generalize hrec1 : bulk_CheckPrices_L2 a0 a1 mk1 = rec1 at F
          unfold bulk_CheckPrices_B2 at F
          refine CW.seq fun K10 hK10 => ?_
          refine CW.region ?_
          refine LW.pure rfl rfl (RV.lss rfl rfl) ?_
          refine LW.nil (hK10 _ _ ?_)
          refine CW.seq fun K11 hK11 => ?_
          by_cases hp3 : t34_1 < ((a0.cost.length : Int))
          ·
            replace F := ite_y hp3 F
            have hq3 := dec_t hp3
            refine CW.condT rfl hq3 ?_
            refine CW.skip (hK11 _ _ ?_)
            refine CW.seqJ (fun ρ wl4 => (bulk_CheckPrices_k2 t34_1 rec1 = some res ∧ ρ = [(3, .pointer (some (⟨b2, 0, none⟩))), (4, .int .i64 0), (32, .slice A_a0_cost a0.cost.length c_a0_cost), (33, .int .i64 ((a0.cost.length : Int))), (34, .int .i64 t34_1)] ∧ Hp w wl4 [.blk b2 27 [.slice A_a1_stores a1.stores.length c_a1_stores, .slice A_a1_buyers a1.buyers.length c_a1_buyers]])) ?_ ?_
            ·
              rintro _ wl4 ⟨F, rfl, H⟩
              have R0 := H.ext
              unfold bulk_CheckPrices_k2 at F
              obtain ⟨hg1, F⟩ := gd_some F
              refine CW.region ?_
              refine LW.pure rfl rfl (RV.add rfl rfl hg1) ?_
              refine LW.pure rfl rfl (RV.move rfl) ?_
              refine LW.nil ?_
              subst hrec1
              refine ⟨mk1, Nat.lt_succ_self _, _, ?_, (t34_1 + 1), F, rfl, H⟩
              exact ⟨rfl, rfl, rfl, rfl, rfl, trivial⟩
            ·
              intro K12 hK12 jK518
              refine CW.block ?_
              refine CW.seq fun K13 hK13 => ?_
              obtain ⟨x1, hbx1, hx1, F⟩ := ix_some F
              refine CW.region ?_
              refine LW.pure rfl rfl (RV.move rfl) ?_
              obtain ⟨A1, c1, hC1, hS1⟩ := h_a0_cost.at_ hx1
              refine LW.pure rfl rfl (RV.indexAddr Ts23 rfl rfl hbx1 (h_a0_cost.addr hbx1)) ?_
              refine LW.pure rfl rfl (RV.load1 Tk22 rfl (hC1.ext R0) rfl) ?_
              refine LW.pure rfl rfl (RV.assign rfl) ?_
              refine LW.pure rfl rfl (RV.assign rfl) ?_
              refine LW.nil (hK13 _ _ ?_)
              refine CW.seq fun K14 hK14 => ?_
              refine CW.region ?_
              refine LW.pure rfl rfl (RV.move rfl) ?_
              refine LW.pure rfl rfl (RV.len Ts22 rfl) ?_
              refine LW.pure rfl rfl (RV.move rfl) ?_
              refine LW.nil (hK14 _ _ ?_)
              refine CW.block ?_
              refine CW.loop (fun meas ρ wl5 => ∃ (t41_1 : Int), bulk_CheckPrices_L1 a1 t34_1 rec1 x1 meas t41_1 = some res ∧ ρ = [(3, .pointer (some (⟨b2, 0, none⟩))), (4, .int .i64 0), (6, .int .i64 t34_1), (32, .slice A_a0_cost a0.cost.length c_a0_cost), (33, .int .i64 ((a0.cost.length : Int))), (34, .int .i64 t34_1), (39, .slice A1 x1.length c1), (40, .int .i64 ((x1.length : Int))), (41, .int .i64 t41_1)] ∧ Hp w wl5 [.blk b2 27 [.slice A_a1_stores a1.stores.length c_a1_stores, .slice A_a1_buyers a1.buyers.length c_a1_buyers]]) FU ⟨_, ?_, ((0 : Int)), F, rfl, H⟩ ?_
              · exact ⟨rfl, rfl, rfl, rfl, rfl, rfl, rfl, rfl, rfl, trivial⟩
              rintro mk2 _ wl5 ⟨t41_1, F, rfl, H⟩
              have R0 := H.ext
              replace F := bulk_CheckPrices_L1_s F
              obtain ⟨mk2, rfl, F⟩ := F
              generalize hrec2 : bulk_CheckPrices_L1 a1 t34_1 rec1 x1 mk2 = rec2 at F
              unfold bulk_CheckPrices_B1 at F
              refine CW.seq fun K15 hK15 => ?_
              refine CW.region ?_
              refine LW.pure rfl rfl (RV.lss rfl rfl) ?_
              refine LW.nil (hK15 _ _ ?_)
              refine CW.seq fun K16 hK16 => ?_
              by_cases hp4 : t41_1 < ((x1.length : Int))
              ·
                replace F := ite_y hp4 F
                have hq4 := dec_t hp4
                refine CW.condT rfl hq4 ?_
                refine CW.skip (hK16 _ _ ?_)
                refine CW.seq fun K17 hK17 => ?_
                refine CW.block ?_
                refine CW.seq fun K18 hK18 => ?_
                obtain ⟨x2, hbx2, hx2, F⟩ := ix_some F
                refine CW.region ?_
                refine LW.pure rfl rfl (RV.move rfl) ?_
                refine LW.pure rfl rfl (RV.indexAddr Ts22 rfl rfl hbx2 (hS1.addr_ hx2)) ?_
                refine LW.pure rfl rfl (RV.load1 Tk3 rfl ((hS1.at_ hx2).ext R0) rfl) ?_
                refine LW.pure rfl rfl (RV.assign rfl) ?_
                refine LW.pure rfl rfl (RV.assign rfl) ?_
                refine LW.nil (hK18 _ _ ?_)
                refine CW.seq fun K19 hK19 => ?_
                obtain ⟨x3, hbx3, hx3, F⟩ := ix_some F
                obtain ⟨x4, hbx4, hx4, F⟩ := ix_some F
                obtain ⟨hg2, F⟩ := gd_some F
                refine CW.draw [] (fun _ => True) (.cons 0 1 (.cons 1 1 (.cons 2 1 (.cons 3 1 (.cons 4 1 (.cons 5 1 (.cons 6 1 (.cons 7 1 (.cons 8 1 (.cons 9 1 (.cons 10 1 (.cons 11 1 (.cons 12 1 .nil))))))))))))) mixed (by kernel_rfl) fun w4 E2 => ?_
                replace H := H.grow E2
                replace R0 := H.ext
                refine DW.fix rfl rfl rfl (fun _ EQ => RV.fieldAddr Tf27_0 rfl) ?_
                refine DW.fix rfl rfl rfl (fun _ EQ => RV.load1 Tk22 rfl (((H.grow EQ).blk 0 rfl).cells.off 0) rfl) ?_
                refine DW.fix rfl rfl rfl (fun _ EQ => RV.move rfl) ?_
                refine DW.fix rfl rfl rfl (fun _ EQ => RV.indexAddr Ts22 rfl rfl hbx3 (h_a1_stores.addr_ hx3)) ?_
                refine DW.fix rfl rfl rfl (fun _ EQ => RV.load1 Tk3 rfl ((h_a1_stores.at_ hx3).ext (R0.trans EQ)) rfl) ?_
                refine DW.fix rfl rfl rfl (fun _ EQ => RV.fieldAddr Tf27_1 rfl) ?_
                refine DW.fix rfl rfl rfl (fun _ EQ => RV.load1 Tk22 rfl (((H.grow EQ).blk 0 rfl).cells.off 1) rfl) ?_
                refine DW.fix rfl rfl rfl (fun _ EQ => RV.move rfl) ?_
                refine DW.fix rfl rfl rfl (fun _ EQ => RV.indexAddr Ts22 rfl rfl hbx4 (h_a1_buyers.addr_ hx4)) ?_
                refine DW.fix rfl rfl rfl (fun _ EQ => RV.load1 Tk3 rfl ((h_a1_buyers.at_ hx4).ext (R0.trans EQ)) rfl) ?_
                refine DW.fix rfl rfl rfl (fun _ EQ => RV.add rfl rfl hg2) ?_
                refine DW.fix rfl rfl rfl (fun _ EQ => RV.move rfl) ?_
                refine DW.fix rfl rfl rfl (fun _ EQ => RV.gtr rfl rfl) ?_
                refine DW.nil (hK19 _ _ ?_)
                by_cases hp5 : x2 < (x3 + x4)
                ·
                  replace F := ite_y hp5 F
                  have hq5 := dec_t hp5
                  refine CW.condT rfl hq5 ?_
                  refine CW.seq fun K20 hK20 => ?_
                  refine CW.region ?_
                  refine LW.pure rfl rfl (RV.assign rfl) ?_
                  refine LW.nil (hK20 _ _ ?_)
                  refine CW.ret ?_
                  obtain rfl := Option.some.inj F
                  refine ⟨_, (ResOK.one rfl), ?_⟩
                  refine ⟨(by first | rfl | simp), R0⟩
                ·
                  replace F := ite_n hp5 F
                  have hq5 := dec_f hp5
                  refine CW.condF rfl hq5 ?_
                  refine CW.skip (hK17 _ _ ?_)
                  obtain ⟨hg3, F⟩ := gd_some F
                  refine CW.region ?_
                  refine LW.pure rfl rfl (RV.add rfl rfl hg3) ?_
                  refine LW.pure rfl rfl (RV.move rfl) ?_
                  refine LW.nil ?_
                  subst hrec2
                  refine ⟨mk2, Nat.lt_succ_self _, _, ?_, (t41_1 + 1), F, rfl, H⟩
                  exact ⟨rfl, rfl, rfl, rfl, rfl, rfl, rfl, rfl, rfl, trivial⟩
              ·
                replace F := ite_n hp4 F
                have hq4 := dec_f hp4
                refine CW.condF rfl hq4 ?_
                refine CW.exit (jK518 _ _ ⟨_, ?_, ⟨F, rfl, H⟩⟩)
                exact ⟨rfl, rfl, rfl, rfl, rfl, trivial⟩
          ·
            replace F := ite_n hp3 F
            have hq3 := dec_f hp3
            refine CW.condF rfl hq3 ?_
            replace H := H.pick (L' := []) [] (by decide) rfl
            replace R0 := H.ext
            refine CW.exit (jK408 _ _ ⟨_, ?_, ⟨F, rfl, H⟩⟩)
            exact ⟨rfl, trivial⟩
    ·
      intro K21 hK21 jK539
      obtain ⟨r2, hr2, F⟩ := bnd_some F
      by_cases hp6 : r2 = true
      ·
        replace F := ite_y hp6 F
        have hq6 : r2 = true := hp6
        obtain ⟨r3, hr3, F⟩ := bnd_some F
        refine CW.region ?_
        refine LW.pure rfl rfl (RV.fieldAddr Tf27_0 rfl) ?_
        refine LW.pure rfl rfl (RV.load1 Tk22 rfl ((H.blk 0 rfl).cells.off 0) rfl) ?_
        refine LW.pure rfl rfl (RV.fieldAddr Tf25_0 rfl) ?_
        refine LW.pure rfl rfl (RV.load1 Tk22 rfl ((H.blk 1 rfl).cells.off 0) rfl) ?_
        refine LW.pure rfl rfl (RV.len Ts22 rfl) ?_
        refine LW.go rfl rfl (OW.call Tc57 rfl (bulk_priced_ok (a0 := a1.stores) (a1 := (a0.supply.length : Int)) (h_a1_stores.ext R0) hr2) ?_)
        rintro _ w5 ⟨rfl, E3⟩
        refine ⟨_, rfl, ?_⟩
        replace H := H.grow E3
        replace R0 := H.ext
        refine LW.pure rfl rfl (RV.not rfl) ?_
        refine LW.pure rfl rfl (RV.move rfl) ?_
        refine LW.pureYB rfl rfl rfl rfl (not_f hq6) (RV.fieldAddr Tf27_1 rfl) ?_
        refine LW.pureYB rfl rfl rfl rfl (not_f hq6) (RV.load1 Tk22 rfl ((H.blk 0 rfl).cells.off 1) rfl) ?_
        refine LW.pureYB rfl rfl rfl rfl (not_f hq6) (RV.fieldAddr Tf25_1 rfl) ?_
        refine LW.pureYB rfl rfl rfl rfl (not_f hq6) (RV.load1 Tk22 rfl ((H.blk 1 rfl).cells.off 1) rfl) ?_
        refine LW.pureYB rfl rfl rfl rfl (not_f hq6) (RV.len Ts22 rfl) ?_
        refine LW.yesB rfl rfl rfl rfl (not_f hq6) (OW.call Tc57 rfl (bulk_priced_ok (a0 := a1.buyers) (a1 := (a0.demand.length : Int)) (h_a1_buyers.ext R0) hr3) ?_)
        rintro _ w6 ⟨rfl, E4⟩
        refine ⟨_, rfl, ?_⟩
        replace H := H.grow E4
        replace R0 := H.ext
        refine LW.pureYB rfl rfl rfl rfl (not_f hq6) (RV.not rfl) ?_
        refine LW.pure rfl rfl (RV.pickFB rfl (not_f hq6) rfl) ?_
        replace H := H.pick (L' := [.blk b1 25 [.slice A_a0_supply a0.supply.length c_a0_supply, .slice A_a0_demand a0.demand.length c_a0_demand, .slice A_a0_cost a0.cost.length c_a0_cost], .blk b2 27 [.slice A_a1_stores a1.stores.length c_a1_stores, .slice A_a1_buyers a1.buyers.length c_a1_buyers]]) [1, 0] (by decide) rfl
        replace R0 := H.ext
        refine LW.nil (jK539 _ _ ⟨_, ?_, ⟨(!r3), F, rfl, H⟩⟩)
        exact ⟨rfl, rfl, rfl, rfl, trivial⟩
      ·
        replace F := ite_n hp6 F
        have hq6 : r2 = false := raw_f hp6
        refine CW.region ?_
        refine LW.pure rfl rfl (RV.fieldAddr Tf27_0 rfl) ?_
        refine LW.pure rfl rfl (RV.load1 Tk22 rfl ((H.blk 0 rfl).cells.off 0) rfl) ?_
        refine LW.pure rfl rfl (RV.fieldAddr Tf25_0 rfl) ?_
        refine LW.pure rfl rfl (RV.load1 Tk22 rfl ((H.blk 1 rfl).cells.off 0) rfl) ?_
        refine LW.pure rfl rfl (RV.len Ts22 rfl) ?_
        refine LW.go rfl rfl (OW.call Tc57 rfl (bulk_priced_ok (a0 := a1.stores) (a1 := (a0.supply.length : Int)) (h_a1_stores.ext R0) hr2) ?_)
        rintro _ w7 ⟨rfl, E5⟩
        refine ⟨_, rfl, ?_⟩
        replace H := H.grow E5
        replace R0 := H.ext
        refine LW.pure rfl rfl (RV.not rfl) ?_
        refine LW.pure rfl rfl (RV.move rfl) ?_
        refine LW.noB rfl rfl rfl rfl (ne_beq (v := true) (not_t hq6) rfl) ?_
        refine LW.noB rfl rfl rfl rfl (ne_beq (v := true) (not_t hq6) rfl) ?_
        refine LW.noB rfl rfl rfl rfl (ne_beq (v := true) (not_t hq6) rfl) ?_
        refine LW.noB rfl rfl rfl rfl (ne_beq (v := true) (not_t hq6) rfl) ?_
        refine LW.noB rfl rfl rfl rfl (ne_beq (v := true) (not_t hq6) rfl) ?_
        refine LW.noB rfl rfl rfl rfl (ne_beq (v := true) (not_t hq6) rfl) ?_
        refine LW.noB rfl rfl rfl rfl (ne_beq (v := true) (not_t hq6) rfl) ?_
        refine LW.pure rfl rfl (RV.pickTB rfl (not_t hq6) rfl) ?_
        replace H := H.pick (L' := [.blk b1 25 [.slice A_a0_supply a0.supply.length c_a0_supply, .slice A_a0_demand a0.demand.length c_a0_demand, .slice A_a0_cost a0.cost.length c_a0_cost], .blk b2 27 [.slice A_a1_stores a1.stores.length c_a1_stores, .slice A_a1_buyers a1.buyers.length c_a1_buyers]]) [1, 0] (by decide) rfl
        replace R0 := H.ext
        refine LW.nil (jK539 _ _ ⟨_, ?_, ⟨true, F, rfl, H⟩⟩)
        exact ⟨rfl, rfl, rfl, rfl, trivial⟩
  ·
    replace F := ite_n hp1 F
    have hq1 := dec_f hp1
    refine CW.condT rfl (not_t hq1) ?_
    refine CW.seq fun K22 hK22 => ?_
    refine CW.region ?_
    refine LW.pure rfl rfl (RV.move rfl) ?_
    refine LW.pure rfl rfl (RV.assign rfl) ?_
    refine LW.nil (hK22 _ _ ?_)
    refine CW.ret ?_
    obtain rfl := Option.some.inj F
    refine ⟨_, (ResOK.one rfl), ?_⟩
    refine ⟨(by first | rfl | simp), R0⟩
set_option maxRecDepth 20000 in
set_option maxHeartbeats 1000000 in
theorem bulk_Worth_ok {a0 : Trade} {a1 : Prices} {A_a0_supply : Option Addr} {c_a0_supply : Nat} {A_a0_demand : Option Addr} {c_a0_demand : Nat} {A_a0_cost : Option Addr} {c_a0_cost : Nat} {A_a1_stores : Option Addr} {c_a1_stores : Nat} {A_a1_buyers : Option Addr} {c_a1_buyers : Nat} {w : World} {res : Int × Int} (h_a0_supply : Sl w A_a0_supply c_a0_supply 1 (a0.supply.map encN)) (h_a0_demand : Sl w A_a0_demand c_a0_demand 1 (a0.demand.map encN)) (h_a0_cost : Sl2 w A_a0_cost c_a0_cost 1 encN a0.cost) (h_a1_stores : Sl w A_a1_stores c_a1_stores 1 (a1.stores.map encN)) (h_a1_buyers : Sl w A_a1_buyers c_a1_buyers 1 (a1.buyers.map encN)) (F : bulk_Worth a0 a1 = some res) : Calls Try.prog 19 #[.agg #[.slice A_a0_supply a0.supply.length c_a0_supply, .slice A_a0_demand a0.demand.length c_a0_demand, .slice A_a0_cost a0.cost.length c_a0_cost], .agg #[.slice A_a1_stores a1.stores.length c_a1_stores, .slice A_a1_buyers a1.buyers.length c_a1_buyers]] w (Rt w (.tuple #[.int .i64 res.1, .int .i64 res.2])) := by
  refine calls_of_cw (args := [.agg #[.slice A_a0_supply a0.supply.length c_a0_supply, .slice A_a0_demand a0.demand.length c_a0_demand, .slice A_a0_cost a0.cost.length c_a0_cost], .agg #[.slice A_a1_stores a1.stores.length c_a1_stores, .slice A_a1_buyers a1.buyers.length c_a1_buyers]]) Try.func19 rfl rfl rfl rfl ?_
  have H := Hp.start w
  have R0 := H.ext
  unfold bulk_Worth at F
  refine CW.seq fun K1 hK1 => ?_
  refine CW.region ?_
  refine LW.go rfl rfl (OW.box rfl fun b1 w1 N1 => ?_)
  replace H := H.new N1 N1.blk
  replace R0 := H.ext
  refine LW.go rfl rfl (OW.box rfl fun b2 w2 N2 => ?_)
  replace H := H.new N2 N2.blk
  replace R0 := H.ext
  refine LW.pure rfl rfl (RV.assign rfl) ?_
  refine LW.pure rfl rfl (RV.assign rfl) ?_
  refine LW.nil (hK1 _ _ ?_)
  refine CW.seq fun K2 hK2 => ?_
  refine CW.seq fun K3 hK3 => ?_
  obtain ⟨r1, hr1, F⟩ := bnd_some F
  refine CW.region ?_
  refine LW.pure rfl rfl (RV.loadA [.slice A_a0_supply a0.supply.length c_a0_supply, .slice A_a0_demand a0.demand.length c_a0_demand, .slice A_a0_cost a0.cost.length c_a0_cost] Tk25 rfl (H.blk 1 rfl).cells rfl rfl) ?_
  refine LW.pure rfl rfl (RV.loadA [.slice A_a1_stores a1.stores.length c_a1_stores, .slice A_a1_buyers a1.buyers.length c_a1_buyers] Tk27 rfl (H.blk 0 rfl).cells rfl rfl) ?_
  refine LW.go rfl rfl (OW.call Tc22 rfl (bulk_CheckPrices_ok (a0 := a0) (a1 := a1) (h_a0_supply.ext R0) (h_a0_demand.ext R0) (h_a0_cost.ext R0) (h_a1_stores.ext R0) (h_a1_buyers.ext R0) hr1) ?_)
  rintro _ w3 ⟨rfl, E1⟩
  refine ⟨_, rfl, ?_⟩
  replace H := H.grow E1
  replace R0 := H.ext
  refine LW.pure rfl rfl (RV.assign rfl) ?_
  refine LW.nil (hK3 _ _ ?_)
  refine CW.seq fun K4 hK4 => ?_
  refine CW.region ?_
  refine LW.pure rfl rfl (RV.move rfl) ?_
  refine LW.pure rfl rfl (RV.nei rfl rfl) ?_
  refine LW.nil (hK4 _ _ ?_)
  by_cases hp1 : r1 = 0
  ·
    replace F := ite_y hp1 F
    have hq1 := dec_t hp1
    refine CW.condF rfl (not_f hq1) ?_
    refine CW.skip (hK2 _ _ ?_)
    refine CW.seq fun K5 hK5 => ?_
    refine CW.region ?_
    refine LW.pure rfl rfl (RV.assign rfl) ?_
    refine LW.nil (hK5 _ _ ?_)
    refine CW.seqJ (fun ρ wl1 => (∃ (t7_3 : Int), bulk_Worth_k2 a0 a1 t7_3 = some res ∧ ρ = [(2, .pointer (some (⟨b1, 0, none⟩))), (3, .pointer (some (⟨b2, 0, none⟩))), (4, .int .i64 0), (5, .int .i64 0), (7, .int .i64 t7_3)] ∧ Hp w wl1 [.blk b1 25 [.slice A_a0_supply a0.supply.length c_a0_supply, .slice A_a0_demand a0.demand.length c_a0_demand, .slice A_a0_cost a0.cost.length c_a0_cost], .blk b2 27 [.slice A_a1_stores a1.stores.length c_a1_stores, .slice A_a1_buyers a1.buyers.length c_a1_buyers]])) ?_ ?_
    ·
      rintro _ wl1 ⟨t7_3, F, rfl, H⟩
      have R0 := H.ext
      unfold bulk_Worth_k2 at F
      refine CW.seqJ (fun ρ wl2 => (∃ (t7_1 : Int), bulk_Worth_k1 t7_1 = some res ∧ ρ = [(4, .int .i64 0), (5, .int .i64 0), (7, .int .i64 t7_1)] ∧ Hp w wl2 [])) ?_ ?_
      ·
        rintro _ wl2 ⟨t7_1, F, rfl, H⟩
        have R0 := H.ext
        unfold bulk_Worth_k1 at F
        refine CW.seq fun K6 hK6 => ?_
        refine CW.region ?_
        refine LW.pure rfl rfl (RV.move rfl) ?_
        refine LW.pure rfl rfl (RV.assign rfl) ?_
        refine LW.pure rfl rfl (RV.assign rfl) ?_
        refine LW.nil (hK6 _ _ ?_)
        refine CW.ret ?_
        obtain rfl := Option.some.inj F
        refine ⟨_, (ResOK.two rfl rfl), ?_⟩
        refine ⟨(by first | rfl | simp), R0⟩
      ·
        intro K7 hK7 jK94
        refine CW.seq fun K8 hK8 => ?_
        refine CW.region ?_
        refine LW.pure rfl rfl (RV.fieldAddr Tf25_1 rfl) ?_
        refine LW.pure rfl rfl (RV.load1 Tk22 rfl ((H.blk 0 rfl).cells.off 1) rfl) ?_
        refine LW.pure rfl rfl (RV.len Ts22 rfl) ?_
        refine LW.pure rfl rfl (RV.move rfl) ?_
        refine LW.nil (hK8 _ _ ?_)
        refine CW.block ?_
        replace H := H.pick (L' := [.blk b2 27 [.slice A_a1_stores a1.stores.length c_a1_stores, .slice A_a1_buyers a1.buyers.length c_a1_buyers]]) [1] (by decide) rfl
        replace R0 := H.ext
        refine CW.loop (fun meas ρ wl3 => ∃ (t7_2 : Int) (t39_1 : Int), bulk_Worth_L1 a0 a1 meas t7_2 t39_1 = some res ∧ ρ = [(3, .pointer (some (⟨b2, 0, none⟩))), (4, .int .i64 0), (5, .int .i64 0), (7, .int .i64 t7_2), (37, .slice A_a0_demand a0.demand.length c_a0_demand), (38, .int .i64 ((a0.demand.length : Int))), (39, .int .i64 t39_1)] ∧ Hp w wl3 [.blk b2 27 [.slice A_a1_stores a1.stores.length c_a1_stores, .slice A_a1_buyers a1.buyers.length c_a1_buyers]]) FU ⟨_, ?_, t7_3, ((0 : Int)), F, rfl, H⟩ ?_
        · exact ⟨rfl, rfl, rfl, rfl, rfl, rfl, rfl, trivial⟩
        rintro mk1 _ wl3 ⟨t7_2, t39_1, F, rfl, H⟩
        have R0 := H.ext
        replace F := bulk_Worth_L1_s F
        obtain ⟨mk1, rfl, F⟩ := F
        generalize hrec1 : bulk_Worth_L1 a0 a1 mk1 = rec1 at F
        unfold bulk_Worth_B1 at F
        refine CW.seq fun K9 hK9 => ?_
        refine CW.region ?_
        refine LW.pure rfl rfl (RV.lss rfl rfl) ?_
        refine LW.nil (hK9 _ _ ?_)
        refine CW.seq fun K10 hK10 => ?_
        by_cases hp2 : t39_1 < ((a0.demand.length : Int))
        ·
          replace F := ite_y hp2 F
          have hq2 := dec_t hp2
          refine CW.condT rfl hq2 ?_
          refine CW.skip (hK10 _ _ ?_)
          refine CW.seq fun K11 hK11 => ?_
          refine CW.block ?_
          refine CW.seq fun K12 hK12 => ?_
          obtain ⟨x1, hbx1, hx1, F⟩ := ix_some F
          refine CW.region ?_
          refine LW.pure rfl rfl (RV.move rfl) ?_
          refine LW.pure rfl rfl (RV.indexAddr Ts22 rfl rfl hbx1 (h_a0_demand.addr_ hx1)) ?_
          refine LW.pure rfl rfl (RV.load1 Tk3 rfl ((h_a0_demand.at_ hx1).ext R0) rfl) ?_
          refine LW.pure rfl rfl (RV.assign rfl) ?_
          refine LW.pure rfl rfl (RV.assign rfl) ?_
          refine LW.nil (hK12 _ _ ?_)
          obtain ⟨x2, hbx2, hx2, F⟩ := ix_some F
          obtain ⟨hg1, F⟩ := gd_some F
          obtain ⟨hg2, F⟩ := gd_some F
          refine CW.region ?_
          refine LW.pure rfl rfl (RV.move rfl) ?_
          refine LW.pure rfl rfl (RV.move rfl) ?_
          refine LW.pure rfl rfl (RV.fieldAddr Tf27_1 rfl) ?_
          refine LW.pure rfl rfl (RV.load1 Tk22 rfl ((H.blk 0 rfl).cells.off 1) rfl) ?_
          refine LW.pure rfl rfl (RV.move rfl) ?_
          refine LW.pure rfl rfl (RV.indexAddr Ts22 rfl rfl hbx2 (h_a1_buyers.addr_ hx2)) ?_
          refine LW.pure rfl rfl (RV.load1 Tk3 rfl ((h_a1_buyers.at_ hx2).ext R0) rfl) ?_
          refine LW.pure rfl rfl (RV.mul rfl rfl hg1) ?_
          refine LW.pure rfl rfl (RV.add rfl rfl hg2) ?_
          refine LW.pure rfl rfl (RV.assign rfl) ?_
          refine LW.nil (hK11 _ _ ?_)
          obtain ⟨hg3, F⟩ := gd_some F
          refine CW.region ?_
          refine LW.pure rfl rfl (RV.add rfl rfl hg3) ?_
          refine LW.pure rfl rfl (RV.move rfl) ?_
          refine LW.nil ?_
          subst hrec1
          refine ⟨mk1, Nat.lt_succ_self _, _, ?_, (t7_2 + (x1 * x2)), (t39_1 + 1), F, rfl, H⟩
          exact ⟨rfl, rfl, rfl, rfl, rfl, rfl, rfl, trivial⟩
        ·
          replace F := ite_n hp2 F
          have hq2 := dec_f hp2
          refine CW.condF rfl hq2 ?_
          replace H := H.pick (L' := []) [] (by decide) rfl
          replace R0 := H.ext
          refine CW.exit (jK94 _ _ ⟨_, ?_, ⟨t7_2, F, rfl, H⟩⟩)
          exact ⟨rfl, rfl, rfl, trivial⟩
    ·
      intro K13 hK13 jK108
      refine CW.seq fun K14 hK14 => ?_
      refine CW.region ?_
      refine LW.pure rfl rfl (RV.fieldAddr Tf25_0 rfl) ?_
      refine LW.pure rfl rfl (RV.load1 Tk22 rfl ((H.blk 1 rfl).cells.off 0) rfl) ?_
      refine LW.pure rfl rfl (RV.len Ts22 rfl) ?_
      refine LW.pure rfl rfl (RV.move rfl) ?_
      refine LW.nil (hK14 _ _ ?_)
      refine CW.block ?_
      replace H := H.pick (L' := [.blk b1 25 [.slice A_a0_supply a0.supply.length c_a0_supply, .slice A_a0_demand a0.demand.length c_a0_demand, .slice A_a0_cost a0.cost.length c_a0_cost], .blk b2 27 [.slice A_a1_stores a1.stores.length c_a1_stores, .slice A_a1_buyers a1.buyers.length c_a1_buyers]]) [1, 0] (by decide) rfl
      replace R0 := H.ext
      refine CW.loop (fun meas ρ wl4 => ∃ (t7_4 : Int) (t21_1 : Int), bulk_Worth_L2 a0 a1 meas t7_4 t21_1 = some res ∧ ρ = [(2, .pointer (some (⟨b1, 0, none⟩))), (3, .pointer (some (⟨b2, 0, none⟩))), (4, .int .i64 0), (5, .int .i64 0), (7, .int .i64 t7_4), (19, .slice A_a0_supply a0.supply.length c_a0_supply), (20, .int .i64 ((a0.supply.length : Int))), (21, .int .i64 t21_1)] ∧ Hp w wl4 [.blk b1 25 [.slice A_a0_supply a0.supply.length c_a0_supply, .slice A_a0_demand a0.demand.length c_a0_demand, .slice A_a0_cost a0.cost.length c_a0_cost], .blk b2 27 [.slice A_a1_stores a1.stores.length c_a1_stores, .slice A_a1_buyers a1.buyers.length c_a1_buyers]]) FU ⟨_, ?_, ((0 : Int)), ((0 : Int)), F, rfl, H⟩ ?_
      · exact ⟨rfl, rfl, rfl, rfl, rfl, rfl, rfl, rfl, trivial⟩
      rintro mk2 _ wl4 ⟨t7_4, t21_1, F, rfl, H⟩
      have R0 := H.ext
      replace F := bulk_Worth_L2_s F
      obtain ⟨mk2, rfl, F⟩ := F
      generalize hrec2 : bulk_Worth_L2 a0 a1 mk2 = rec2 at F
      unfold bulk_Worth_B2 at F
      refine CW.seq fun K15 hK15 => ?_
      refine CW.region ?_
      refine LW.pure rfl rfl (RV.lss rfl rfl) ?_
      refine LW.nil (hK15 _ _ ?_)
      refine CW.seq fun K16 hK16 => ?_
      by_cases hp3 : t21_1 < ((a0.supply.length : Int))
      ·
        replace F := ite_y hp3 F
        have hq3 := dec_t hp3
        refine CW.condT rfl hq3 ?_
        refine CW.skip (hK16 _ _ ?_)
        refine CW.seq fun K17 hK17 => ?_
        refine CW.block ?_
        refine CW.seq fun K18 hK18 => ?_
        obtain ⟨x3, hbx3, hx3, F⟩ := ix_some F
        refine CW.region ?_
        refine LW.pure rfl rfl (RV.move rfl) ?_
        refine LW.pure rfl rfl (RV.indexAddr Ts22 rfl rfl hbx3 (h_a0_supply.addr_ hx3)) ?_
        refine LW.pure rfl rfl (RV.load1 Tk3 rfl ((h_a0_supply.at_ hx3).ext R0) rfl) ?_
        refine LW.pure rfl rfl (RV.assign rfl) ?_
        refine LW.pure rfl rfl (RV.assign rfl) ?_
        refine LW.nil (hK18 _ _ ?_)
        obtain ⟨x4, hbx4, hx4, F⟩ := ix_some F
        obtain ⟨hg4, F⟩ := gd_some F
        obtain ⟨hg5, F⟩ := gd_some F
        refine CW.region ?_
        refine LW.pure rfl rfl (RV.move rfl) ?_
        refine LW.pure rfl rfl (RV.move rfl) ?_
        refine LW.pure rfl rfl (RV.fieldAddr Tf27_0 rfl) ?_
        refine LW.pure rfl rfl (RV.load1 Tk22 rfl ((H.blk 1 rfl).cells.off 0) rfl) ?_
        refine LW.pure rfl rfl (RV.move rfl) ?_
        refine LW.pure rfl rfl (RV.indexAddr Ts22 rfl rfl hbx4 (h_a1_stores.addr_ hx4)) ?_
        refine LW.pure rfl rfl (RV.load1 Tk3 rfl ((h_a1_stores.at_ hx4).ext R0) rfl) ?_
        refine LW.pure rfl rfl (RV.mul rfl rfl hg4) ?_
        refine LW.pure rfl rfl (RV.add rfl rfl hg5) ?_
        refine LW.pure rfl rfl (RV.assign rfl) ?_
        refine LW.nil (hK17 _ _ ?_)
        obtain ⟨hg6, F⟩ := gd_some F
        refine CW.region ?_
        refine LW.pure rfl rfl (RV.add rfl rfl hg6) ?_
        refine LW.pure rfl rfl (RV.move rfl) ?_
        refine LW.nil ?_
        subst hrec2
        refine ⟨mk2, Nat.lt_succ_self _, _, ?_, (t7_4 + (x3 * x4)), (t21_1 + 1), F, rfl, H⟩
        exact ⟨rfl, rfl, rfl, rfl, rfl, rfl, rfl, rfl, trivial⟩
      ·
        replace F := ite_n hp3 F
        have hq3 := dec_f hp3
        refine CW.condF rfl hq3 ?_
        refine CW.exit (jK108 _ _ ⟨_, ?_, ⟨t7_4, F, rfl, H⟩⟩)
        exact ⟨rfl, rfl, rfl, rfl, rfl, trivial⟩
  ·
    replace F := ite_n hp1 F
    have hq1 := dec_f hp1
    refine CW.condT rfl (not_t hq1) ?_
    refine CW.seq fun K19 hK19 => ?_
    refine CW.region ?_
    refine LW.pure rfl rfl (RV.move rfl) ?_
    refine LW.pure rfl rfl (RV.assign rfl) ?_
    refine LW.pure rfl rfl (RV.assign rfl) ?_
    refine LW.nil (hK19 _ _ ?_)
    refine CW.ret ?_
    obtain rfl := Option.some.inj F
    refine ⟨_, (ResOK.two rfl rfl), ?_⟩
    refine ⟨(by first | rfl | simp), R0⟩
set_option maxRecDepth 20000 in
set_option maxHeartbeats 1000000 in
theorem ref07_SameInts_ok {a0 : List Int} {a1 : List Int} {A_a0 : Option Addr} {c_a0 : Nat} {A_a1 : Option Addr} {c_a1 : Nat} {w : World} {res : Bool} (h_a0 : Sl w A_a0 c_a0 1 (a0.map encN)) (h_a1 : Sl w A_a1 c_a1 1 (a1.map encN)) (F : ref07_SameInts a0 a1 = some res) : Calls Try.prog 67 #[.slice A_a0 a0.length c_a0, .slice A_a1 a1.length c_a1] w (Rt w (.bool res)) := by
  refine calls_of_cw (args := [.slice A_a0 a0.length c_a0, .slice A_a1 a1.length c_a1]) Try.func67 rfl rfl rfl rfl ?_
  have H := Hp.start w
  have R0 := H.ext
  unfold ref07_SameInts at F
  refine CW.seq fun K1 hK1 => ?_
  refine CW.region ?_
  refine LW.pure rfl rfl (RV.assign rfl) ?_
  refine LW.nil (hK1 _ _ ?_)
  refine CW.seq fun K2 hK2 => ?_
  refine CW.seq fun K3 hK3 => ?_
  refine CW.region ?_
  refine LW.pure rfl rfl (RV.move rfl) ?_
  refine LW.pure rfl rfl (RV.len Ts22 rfl) ?_
  refine LW.pure rfl rfl (RV.move rfl) ?_
  refine LW.pure rfl rfl (RV.len Ts22 rfl) ?_
  refine LW.pure rfl rfl (RV.nei rfl rfl) ?_
  refine LW.nil (hK3 _ _ ?_)
  by_cases hp1 : ((a0.length : Int)) = ((a1.length : Int))
  ·
    replace F := ite_y hp1 F
    have hq1 := dec_t hp1
    refine CW.condF rfl (not_f hq1) ?_
    refine CW.skip (hK2 _ _ ?_)
    refine CW.seqJ (fun ρ wl1 => (ref07_SameInts_k1 = some res ∧ ρ = [(4, .bool false)] ∧ Hp w wl1 [])) ?_ ?_
    ·
      rintro _ wl1 ⟨F, rfl, H⟩
      have R0 := H.ext
      unfold ref07_SameInts_k1 at F
      refine CW.seq fun K4 hK4 => ?_
      refine CW.region ?_
      refine LW.pure rfl rfl (RV.assign rfl) ?_
      refine LW.nil (hK4 _ _ ?_)
      refine CW.ret ?_
      obtain rfl := Option.some.inj F
      refine ⟨_, (ResOK.one rfl), ?_⟩
      refine ⟨(by first | rfl | simp), R0⟩
    ·
      intro K5 hK5 jK59
      refine CW.seq fun K6 hK6 => ?_
      refine CW.region ?_
      refine LW.pure rfl rfl (RV.assign rfl) ?_
      refine LW.nil (hK6 _ _ ?_)
      refine CW.block ?_
      refine CW.loop (fun meas ρ wl2 => ∃ (t5_1 : Int), ref07_SameInts_L1 a0 a1 meas t5_1 = some res ∧ ρ = [(0, .slice A_a0 a0.length c_a0), (1, .slice A_a1 a1.length c_a1), (4, .bool false), (5, .int .i64 t5_1)] ∧ Hp w wl2 []) FU ⟨_, ?_, ((0 : Int)), F, rfl, H⟩ ?_
      · exact ⟨rfl, rfl, rfl, rfl, trivial⟩
      rintro mk1 _ wl2 ⟨t5_1, F, rfl, H⟩
      have R0 := H.ext
      replace F := ref07_SameInts_L1_s F
      obtain ⟨mk1, rfl, F⟩ := F
      generalize hrec1 : ref07_SameInts_L1 a0 a1 mk1 = rec1 at F
      unfold ref07_SameInts_B1 at F
      refine CW.seq fun K7 hK7 => ?_
      refine CW.seq fun K8 hK8 => ?_
      refine CW.region ?_
      refine LW.pure rfl rfl (RV.move rfl) ?_
      refine LW.pure rfl rfl (RV.move rfl) ?_
      refine LW.pure rfl rfl (RV.len Ts22 rfl) ?_
      refine LW.pure rfl rfl (RV.lss rfl rfl) ?_
      refine LW.nil (hK8 _ _ ?_)
      by_cases hp2 : t5_1 < ((a0.length : Int))
      ·
        replace F := ite_y hp2 F
        have hq2 := dec_t hp2
        refine CW.condT rfl hq2 ?_
        refine CW.skip (hK7 _ _ ?_)
        refine CW.seq fun K9 hK9 => ?_
        refine CW.block ?_
        refine CW.seq fun K10 hK10 => ?_
        obtain ⟨x1, hbx1, hx1, F⟩ := ix_some F
        obtain ⟨x2, hbx2, hx2, F⟩ := ix_some F
        refine CW.draw [] (fun _ => True) (.cons 0 1 (.cons 1 1 (.cons 2 1 (.cons 3 1 (.cons 4 1 (.cons 5 1 (.cons 6 1 (.cons 7 1 (.cons 8 1 .nil))))))))) mixed (by kernel_rfl) fun w1 E1 => ?_
        replace H := H.grow E1
        replace R0 := H.ext
        refine DW.fix rfl rfl rfl (fun _ EQ => RV.move rfl) ?_
        refine DW.fix rfl rfl rfl (fun _ EQ => RV.move rfl) ?_
        refine DW.fix rfl rfl rfl (fun _ EQ => RV.indexAddr Ts22 rfl rfl hbx1 (h_a0.addr_ hx1)) ?_
        refine DW.fix rfl rfl rfl (fun _ EQ => RV.load1 Tk3 rfl ((h_a0.at_ hx1).ext (R0.trans EQ)) rfl) ?_
        refine DW.fix rfl rfl rfl (fun _ EQ => RV.move rfl) ?_
        refine DW.fix rfl rfl rfl (fun _ EQ => RV.move rfl) ?_
        refine DW.fix rfl rfl rfl (fun _ EQ => RV.indexAddr Ts22 rfl rfl hbx2 (h_a1.addr_ hx2)) ?_
        refine DW.fix rfl rfl rfl (fun _ EQ => RV.load1 Tk3 rfl ((h_a1.at_ hx2).ext (R0.trans EQ)) rfl) ?_
        refine DW.fix rfl rfl rfl (fun _ EQ => RV.nei rfl rfl) ?_
        refine DW.nil (hK10 _ _ ?_)
        by_cases hp3 : x1 = x2
        ·
          replace F := ite_y hp3 F
          have hq3 := dec_t hp3
          refine CW.condF rfl (not_f hq3) ?_
          refine CW.skip (hK9 _ _ ?_)
          obtain ⟨hg1, F⟩ := gd_some F
          refine CW.region ?_
          refine LW.pure rfl rfl (RV.move rfl) ?_
          refine LW.pure rfl rfl (RV.add rfl rfl hg1) ?_
          refine LW.pure rfl rfl (RV.assign rfl) ?_
          refine LW.nil ?_
          subst hrec1
          refine ⟨mk1, Nat.lt_succ_self _, _, ?_, (t5_1 + 1), F, rfl, H⟩
          exact ⟨rfl, rfl, rfl, rfl, trivial⟩
        ·
          replace F := ite_n hp3 F
          have hq3 := dec_f hp3
          refine CW.condT rfl (not_t hq3) ?_
          refine CW.seq fun K11 hK11 => ?_
          refine CW.region ?_
          refine LW.pure rfl rfl (RV.assign rfl) ?_
          refine LW.nil (hK11 _ _ ?_)
          refine CW.ret ?_
          obtain rfl := Option.some.inj F
          refine ⟨_, (ResOK.one rfl), ?_⟩
          refine ⟨(by first | rfl | simp), R0⟩
      ·
        replace F := ite_n hp2 F
        have hq2 := dec_f hp2
        refine CW.condF rfl hq2 ?_
        refine CW.exit (jK59 _ _ ⟨_, ?_, ⟨F, rfl, H⟩⟩)
        exact ⟨rfl, trivial⟩
  ·
    replace F := ite_n hp1 F
    have hq1 := dec_f hp1
    refine CW.condT rfl (not_t hq1) ?_
    refine CW.seq fun K12 hK12 => ?_
    refine CW.region ?_
    refine LW.pure rfl rfl (RV.assign rfl) ?_
    refine LW.nil (hK12 _ _ ?_)
    refine CW.ret ?_
    obtain rfl := Option.some.inj F
    refine ⟨_, (ResOK.one rfl), ?_⟩
    refine ⟨(by first | rfl | simp), R0⟩
set_option maxRecDepth 20000 in
set_option maxHeartbeats 1000000 in
theorem ref07_SameTables_ok {a0 : List (List Int)} {a1 : List (List Int)} {A_a0 : Option Addr} {c_a0 : Nat} {A_a1 : Option Addr} {c_a1 : Nat} {w : World} {res : Bool} (h_a0 : Sl2 w A_a0 c_a0 1 encN a0) (h_a1 : Sl2 w A_a1 c_a1 1 encN a1) (F : ref07_SameTables a0 a1 = some res) : Calls Try.prog 33 #[.slice A_a0 a0.length c_a0, .slice A_a1 a1.length c_a1] w (Rt w (.bool res)) := by
  refine calls_of_cw (args := [.slice A_a0 a0.length c_a0, .slice A_a1 a1.length c_a1]) Try.func33 rfl rfl rfl rfl ?_
  have H := Hp.start w
  have R0 := H.ext
  unfold ref07_SameTables at F
  refine CW.seq fun K1 hK1 => ?_
  refine CW.region ?_
  refine LW.pure rfl rfl (RV.assign rfl) ?_
  refine LW.nil (hK1 _ _ ?_)
  refine CW.seq fun K2 hK2 => ?_
  refine CW.seq fun K3 hK3 => ?_
  refine CW.region ?_
  refine LW.pure rfl rfl (RV.move rfl) ?_
  refine LW.pure rfl rfl (RV.len Ts23 rfl) ?_
  refine LW.pure rfl rfl (RV.move rfl) ?_
  refine LW.pure rfl rfl (RV.len Ts23 rfl) ?_
  refine LW.pure rfl rfl (RV.nei rfl rfl) ?_
  refine LW.nil (hK3 _ _ ?_)
  by_cases hp1 : ((a0.length : Int)) = ((a1.length : Int))
  ·
    replace F := ite_y hp1 F
    have hq1 := dec_t hp1
    refine CW.condF rfl (not_f hq1) ?_
    refine CW.skip (hK2 _ _ ?_)
    refine CW.seqJ (fun ρ wl1 => (ref07_SameTables_k1 = some res ∧ ρ = [(4, .bool false)] ∧ Hp w wl1 [])) ?_ ?_
    ·
      rintro _ wl1 ⟨F, rfl, H⟩
      have R0 := H.ext
      unfold ref07_SameTables_k1 at F
      refine CW.seq fun K4 hK4 => ?_
      refine CW.region ?_
      refine LW.pure rfl rfl (RV.assign rfl) ?_
      refine LW.nil (hK4 _ _ ?_)
      refine CW.ret ?_
      obtain rfl := Option.some.inj F
      refine ⟨_, (ResOK.one rfl), ?_⟩
      refine ⟨(by first | rfl | simp), R0⟩
    ·
      intro K5 hK5 jK59
      refine CW.seq fun K6 hK6 => ?_
      refine CW.region ?_
      refine LW.pure rfl rfl (RV.assign rfl) ?_
      refine LW.nil (hK6 _ _ ?_)
      refine CW.block ?_
      refine CW.loop (fun meas ρ wl2 => ∃ (t5_1 : Int), ref07_SameTables_L1 a0 a1 meas t5_1 = some res ∧ ρ = [(0, .slice A_a0 a0.length c_a0), (1, .slice A_a1 a1.length c_a1), (4, .bool false), (5, .int .i64 t5_1)] ∧ Hp w wl2 []) FU ⟨_, ?_, ((0 : Int)), F, rfl, H⟩ ?_
      · exact ⟨rfl, rfl, rfl, rfl, trivial⟩
      rintro mk1 _ wl2 ⟨t5_1, F, rfl, H⟩
      have R0 := H.ext
      replace F := ref07_SameTables_L1_s F
      obtain ⟨mk1, rfl, F⟩ := F
      generalize hrec1 : ref07_SameTables_L1 a0 a1 mk1 = rec1 at F
      unfold ref07_SameTables_B1 at F
      refine CW.seq fun K7 hK7 => ?_
      refine CW.seq fun K8 hK8 => ?_
      refine CW.region ?_
      refine LW.pure rfl rfl (RV.move rfl) ?_
      refine LW.pure rfl rfl (RV.move rfl) ?_
      refine LW.pure rfl rfl (RV.len Ts23 rfl) ?_
      refine LW.pure rfl rfl (RV.lss rfl rfl) ?_
      refine LW.nil (hK8 _ _ ?_)
      by_cases hp2 : t5_1 < ((a0.length : Int))
      ·
        replace F := ite_y hp2 F
        have hq2 := dec_t hp2
        refine CW.condT rfl hq2 ?_
        refine CW.skip (hK7 _ _ ?_)
        refine CW.seq fun K9 hK9 => ?_
        refine CW.block ?_
        refine CW.seq fun K10 hK10 => ?_
        obtain ⟨x1, hbx1, hx1, F⟩ := ix_some F
        obtain ⟨x2, hbx2, hx2, F⟩ := ix_some F
        obtain ⟨r1, hr1, F⟩ := bnd_some F
        refine CW.draw [] (fun _ => True) (.cons 0 1 (.cons 1 1 (.cons 2 1 (.cons 3 1 (.cons 4 1 (.cons 5 1 (.cons 6 1 (.cons 7 1 (.cons 8 0 (.cons 9 1 .nil)))))))))) mixed (by kernel_rfl) fun w1 E1 => ?_
        replace H := H.grow E1
        replace R0 := H.ext
        refine DW.fix rfl rfl rfl (fun _ EQ => RV.move rfl) ?_
        refine DW.fix rfl rfl rfl (fun _ EQ => RV.move rfl) ?_
        obtain ⟨A1, c1, hC1, hS1⟩ := h_a0.at_ hx1
        refine DW.fix rfl rfl rfl (fun _ EQ => RV.indexAddr Ts23 rfl rfl hbx1 (h_a0.addr hbx1)) ?_
        refine DW.fix rfl rfl rfl (fun _ EQ => RV.load1 Tk22 rfl (hC1.ext (R0.trans EQ)) rfl) ?_
        refine DW.fix rfl rfl rfl (fun _ EQ => RV.move rfl) ?_
        refine DW.fix rfl rfl rfl (fun _ EQ => RV.move rfl) ?_
        obtain ⟨A2, c2, hC2, hS2⟩ := h_a1.at_ hx2
        refine DW.fix rfl rfl rfl (fun _ EQ => RV.indexAddr Ts23 rfl rfl hbx2 (h_a1.addr hbx2)) ?_
        refine DW.fix rfl rfl rfl (fun _ EQ => RV.load1 Tk22 rfl (hC2.ext (R0.trans EQ)) rfl) ?_
        refine DW.sole rfl rfl rfl (OW.call Tc67 rfl (ref07_SameInts_ok (a0 := x1) (a1 := x2) (hS1.ext R0) (hS2.ext R0) hr1) ?_)
        rintro _ w2 ⟨rfl, E2⟩
        refine ⟨_, rfl, fun _ => E2, ModX.ext E2, ?_⟩
        replace H := H.grow E2
        replace R0 := H.ext
        refine DW.fix rfl rfl rfl (fun _ EQ => RV.not rfl) ?_
        refine DW.nil (hK10 _ _ ?_)
        by_cases hp3 : r1 = true
        ·
          replace F := ite_y hp3 F
          have hq3 : r1 = true := hp3
          refine CW.condF rfl (not_f hq3) ?_
          refine CW.skip (hK9 _ _ ?_)
          obtain ⟨hg1, F⟩ := gd_some F
          refine CW.region ?_
          refine LW.pure rfl rfl (RV.move rfl) ?_
          refine LW.pure rfl rfl (RV.add rfl rfl hg1) ?_
          refine LW.pure rfl rfl (RV.assign rfl) ?_
          refine LW.nil ?_
          subst hrec1
          refine ⟨mk1, Nat.lt_succ_self _, _, ?_, (t5_1 + 1), F, rfl, H⟩
          exact ⟨rfl, rfl, rfl, rfl, trivial⟩
        ·
          replace F := ite_n hp3 F
          have hq3 : r1 = false := raw_f hp3
          refine CW.condT rfl (not_t hq3) ?_
          refine CW.seq fun K11 hK11 => ?_
          refine CW.region ?_
          refine LW.pure rfl rfl (RV.assign rfl) ?_
          refine LW.nil (hK11 _ _ ?_)
          refine CW.ret ?_
          obtain rfl := Option.some.inj F
          refine ⟨_, (ResOK.one rfl), ?_⟩
          refine ⟨(by first | rfl | simp), R0⟩
      ·
        replace F := ite_n hp2 F
        have hq2 := dec_f hp2
        refine CW.condF rfl hq2 ?_
        refine CW.exit (jK59 _ _ ⟨_, ?_, ⟨F, rfl, H⟩⟩)
        exact ⟨rfl, trivial⟩
  ·
    replace F := ite_n hp1 F
    have hq1 := dec_f hp1
    refine CW.condT rfl (not_t hq1) ?_
    refine CW.seq fun K12 hK12 => ?_
    refine CW.region ?_
    refine LW.pure rfl rfl (RV.assign rfl) ?_
    refine LW.nil (hK12 _ _ ?_)
    refine CW.ret ?_
    obtain rfl := Option.some.inj F
    refine ⟨_, (ResOK.one rfl), ?_⟩
    refine ⟨(by first | rfl | simp), R0⟩
end Go.D7

set_option linter.unusedVariables false
set_option linter.unusedSimpArgs false
namespace Go.D7
open Go.Tb Go.Proofs Go.RowKit
theorem Tc19 : callable Try.prog 19 = true := by kernel_rfl
theorem Tc21 : callable Try.prog 21 = true := by kernel_rfl
theorem Tc31 : callable Try.prog 31 = true := by kernel_rfl
theorem Tc33 : callable Try.prog 33 = true := by kernel_rfl
theorem Tz25 : tyZ Try.prog 25 = some (.agg #[.slice none 0 0, .slice none 0 0, .slice none 0 0]) := by kernel_rfl
set_option maxRecDepth 20000 in
set_option maxHeartbeats 1000000 in
theorem law07_sane_ok {w : World} {res : Bool} (F : law07_sane = some res) : Calls Try.prog 18 #[] w (Rt w (.bool res)) := by
  refine calls_of_cw (args := []) Try.func18 rfl rfl rfl rfl ?_
  have H := Hp.start w
  have R0 := H.ext
  unfold law07_sane at F
  refine CW.seq fun K1 hK1 => ?_
  refine CW.region ?_
  refine LW.pure rfl rfl (RV.assign rfl) ?_
  refine LW.nil (hK1 _ _ ?_)
  refine CW.seq fun K2 hK2 => ?_
  refine CW.region ?_
  refine LW.go rfl rfl (OW.buildSlice (e := 3) (vs := [.int .i64 3, .int .i64 4]) (cs := [.int .i64 3, .int .i64 4]) rfl (fun _ => by kernel_rfl) fun b1 w1 N1 => ?_)
  replace H := H.made' (k := 1) (t := 3) (enc := encN) (l := ([3, 4] : List Int)) N1 N1.blk (fun _ => rfl) rfl (by first | decide | omega | (simp; done) | (simp; omega))
  replace R0 := H.ext
  refine LW.go rfl rfl (OW.buildSlice (e := 3) (vs := [.int .i64 5, .int .i64 2]) (cs := [.int .i64 5, .int .i64 2]) rfl (fun _ => by kernel_rfl) fun b2 w2 N2 => ?_)
  replace H := H.made' (k := 1) (t := 3) (enc := encN) (l := ([5, 2] : List Int)) N2 N2.blk (fun _ => rfl) rfl (by first | decide | omega | (simp; done) | (simp; omega))
  replace R0 := H.ext
  refine LW.go rfl rfl (OW.buildSlice (e := 3) (vs := [.int .i64 1, .int .i64 2]) (cs := [.int .i64 1, .int .i64 2]) rfl (fun _ => by kernel_rfl) fun b3 w3 N3 => ?_)
  replace H := H.made' (k := 1) (t := 3) (enc := encN) (l := ([1, 2] : List Int)) N3 N3.blk (fun _ => rfl) rfl (by first | decide | omega | (simp; done) | (simp; omega))
  replace R0 := H.ext
  refine LW.go rfl rfl (OW.buildSlice (e := 3) (vs := [.int .i64 3, .int .i64 1]) (cs := [.int .i64 3, .int .i64 1]) rfl (fun _ => by kernel_rfl) fun b4 w4 N4 => ?_)
  replace H := H.made' (k := 1) (t := 3) (enc := encN) (l := ([3, 1] : List Int)) N4 N4.blk (fun _ => rfl) rfl (by first | decide | omega | (simp; done) | (simp; omega))
  replace R0 := H.ext
  refine LW.go rfl rfl (OW.buildSlice (e := 22) (vs := [.slice (some ⟨b3, 0, none⟩) 2 ((([1, 2] : List Int)).length), .slice (some ⟨b4, 0, none⟩) 2 ((([3, 1] : List Int)).length)]) (cs := [.slice (some ⟨b3, 0, none⟩) 2 ((([1, 2] : List Int)).length), .slice (some ⟨b4, 0, none⟩) 2 ((([3, 1] : List Int)).length)]) rfl (fun _ => by kernel_rfl) fun b5 w5 N5 => ?_)
  replace H := H.made' (k := 1) (t := 22) (enc := encH) (l := ([((some ⟨b3, 0, none⟩, (([1, 2] : List Int)).length), ([1, 2] : List Int)), ((some ⟨b4, 0, none⟩, (([3, 1] : List Int)).length), ([3, 1] : List Int))] : List ((Option Addr × Nat) × List Int))) N5 (by have q := N5.blk; simp only [List.flatMap_cons, List.flatMap_nil, encH, List.length_nil, List.append_nil, List.cons_append, List.nil_append]; first | done | exact q) (fun _ => rfl) rfl (by first | decide | omega | (simp; done) | (simp; omega))
  replace R0 := H.ext
  have hS24 : Sl2 w5 (some ⟨b5, 0, none⟩) 2 1 encN [([1, 2] : List Int), ([3, 1] : List Int)] := Sl2.two (H.own 0 rfl).sl (H.own 2 rfl).sl (H.own 1 rfl).sl
  refine LW.pure rfl rfl (RV.build (vs := [.slice (some ⟨b1, 0, none⟩) 2 ((([3, 4] : List Int)).length), .slice (some ⟨b2, 0, none⟩) 2 ((([5, 2] : List Int)).length), .slice (some ⟨b5, 0, none⟩) 2 2]) (cs := [.slice (some ⟨b1, 0, none⟩) 2 ((([3, 4] : List Int)).length), .slice (some ⟨b2, 0, none⟩) 2 ((([5, 2] : List Int)).length), .slice (some ⟨b5, 0, none⟩) 2 2]) rfl (fun _ => by kernel_rfl)) ?_
  refine LW.go rfl rfl (OW.alloc Tz25 fun b6 w6 N6 => ?_)
  have hS24 := hS24.ext N6.ext
  replace H := H.new N6 N6.blk
  replace R0 := H.ext
  refine LW.go rfl rfl (OW.store Tk25 rfl rfl (H.blk 0 rfl) (off := 0) (vs := [.slice (some ⟨b1, 0, none⟩) 2 ((([3, 4] : List Int)).length), .slice (some ⟨b2, 0, none⟩) 2 ((([5, 2] : List Int)).length), .slice (some ⟨b5, 0, none⟩) 2 2]) rfl rfl rfl rfl rfl fun w7 S1 => ?_)
  replace H : Hp w w7 [.blk b6 25 [.slice (some ⟨b1, 0, none⟩) 2 ((([3, 4] : List Int)).length), .slice (some ⟨b2, 0, none⟩) 2 ((([5, 2] : List Int)).length), .slice (some ⟨b5, 0, none⟩) 2 2], .own (some ⟨b5, 0, none⟩) ((([((some ⟨b3, 0, none⟩, (([1, 2] : List Int)).length), ([1, 2] : List Int)), ((some ⟨b4, 0, none⟩, (([3, 1] : List Int)).length), ([3, 1] : List Int))] : List ((Option Addr × Nat) × List Int))).length) 22 1 (List.map encH (([((some ⟨b3, 0, none⟩, (([1, 2] : List Int)).length), ([1, 2] : List Int)), ((some ⟨b4, 0, none⟩, (([3, 1] : List Int)).length), ([3, 1] : List Int))] : List ((Option Addr × Nat) × List Int)))), .own (some ⟨b4, 0, none⟩) ((([3, 1] : List Int)).length) 3 1 (List.map encN (([3, 1] : List Int))), .own (some ⟨b3, 0, none⟩) ((([1, 2] : List Int)).length) 3 1 (List.map encN (([1, 2] : List Int))), .own (some ⟨b2, 0, none⟩) ((([5, 2] : List Int)).length) 3 1 (List.map encN (([5, 2] : List Int))), .own (some ⟨b1, 0, none⟩) ((([3, 4] : List Int)).length) 3 1 (List.map encN (([3, 4] : List Int)))] := H.stored 0 rfl S1
  replace R0 := H.ext
  refine LW.nil (hK2 _ _ ?_)
  refine CW.seq fun K3 hK3 => ?_
  obtain ⟨r1, hr1, F⟩ := bnd_some F
  refine CW.region ?_
  refine LW.pure rfl rfl (RV.loadA [.slice (some ⟨b1, 0, none⟩) 2 ((([3, 4] : List Int)).length), .slice (some ⟨b2, 0, none⟩) 2 ((([5, 2] : List Int)).length), .slice (some ⟨b5, 0, none⟩) 2 2] Tk25 rfl (H.blk 0 rfl).cells rfl rfl) ?_
  refine LW.go rfl rfl (OW.call Tc31 (evs_cast rfl (by first | rfl | (simp; done) | (simp; omega))) (bulk_Corner_ok (a0 := (⟨([3, 4] : List Int), ([5, 2] : List Int), ([([1, 2] : List Int), ([3, 1] : List Int)] : List (List Int))⟩ : Trade)) (H.own 5 rfl).sl (H.own 4 rfl).sl (Sl2.two (H.own 1 rfl).sl (H.own 3 rfl).sl (H.own 2 rfl).sl) hr1) ?_)
  rintro _ w8 ⟨A6_0, c6_0, hs6_0, rfl, E1⟩
  refine ⟨_, rfl, ?_⟩
  replace H : Hp w w8 [.tab A6_0 c6_0 22 hs6_0 3 1 (encM encN r1.1), .blk b6 25 [.slice (some ⟨b1, 0, none⟩) 2 ((([3, 4] : List Int)).length), .slice (some ⟨b2, 0, none⟩) 2 ((([5, 2] : List Int)).length), .slice (some ⟨b5, 0, none⟩) 2 2], .own (some ⟨b5, 0, none⟩) ((([((some ⟨b3, 0, none⟩, (([1, 2] : List Int)).length), ([1, 2] : List Int)), ((some ⟨b4, 0, none⟩, (([3, 1] : List Int)).length), ([3, 1] : List Int))] : List ((Option Addr × Nat) × List Int))).length) 22 1 (List.map encH (([((some ⟨b3, 0, none⟩, (([1, 2] : List Int)).length), ([1, 2] : List Int)), ((some ⟨b4, 0, none⟩, (([3, 1] : List Int)).length), ([3, 1] : List Int))] : List ((Option Addr × Nat) × List Int)))), .own (some ⟨b4, 0, none⟩) ((([3, 1] : List Int)).length) 3 1 (List.map encN (([3, 1] : List Int))), .own (some ⟨b3, 0, none⟩) ((([1, 2] : List Int)).length) 3 1 (List.map encN (([1, 2] : List Int))), .own (some ⟨b2, 0, none⟩) ((([5, 2] : List Int)).length) 3 1 (List.map encN (([5, 2] : List Int))), .own (some ⟨b1, 0, none⟩) ((([3, 4] : List Int)).length) 3 1 (List.map encN (([3, 4] : List Int)))] := H.append E1
  replace R0 := H.ext
  refine LW.pure rfl rfl (RV.move rfl) ?_
  refine LW.pure rfl rfl (RV.extract rfl rfl) ?_
  refine LW.pure rfl rfl (RV.extract rfl rfl) ?_
  refine LW.pure rfl rfl (RV.assign rfl) ?_
  refine LW.pure rfl rfl (RV.assign rfl) ?_
  refine LW.nil (hK3 _ _ ?_)
  refine CW.seq fun K4 hK4 => ?_
  obtain ⟨r2, hr2, F⟩ := bnd_some F
  refine CW.region ?_
  refine LW.pure rfl rfl (RV.loadA [.slice (some ⟨b1, 0, none⟩) 2 ((([3, 4] : List Int)).length), .slice (some ⟨b2, 0, none⟩) 2 ((([5, 2] : List Int)).length), .slice (some ⟨b5, 0, none⟩) 2 2] Tk25 rfl (H.blk 1 rfl).cells rfl rfl) ?_
  refine LW.go rfl rfl (OW.call Tc21 (evs_cast rfl (by first | rfl | (simp; done) | (simp; omega))) (bulk_Least_ok (a0 := (⟨([3, 4] : List Int), ([5, 2] : List Int), ([([1, 2] : List Int), ([3, 1] : List Int)] : List (List Int))⟩ : Trade)) (H.own 6 rfl).sl (H.own 5 rfl).sl (Sl2.two (H.own 2 rfl).sl (H.own 4 rfl).sl (H.own 3 rfl).sl) hr2) ?_)
  rintro _ w9 ⟨rfl, E2⟩
  refine ⟨_, rfl, ?_⟩
  replace H := H.grow E2
  replace R0 := H.ext
  refine LW.pure rfl rfl (RV.move rfl) ?_
  refine LW.pure rfl rfl (RV.extract rfl rfl) ?_
  refine LW.pure rfl rfl (RV.extract rfl rfl) ?_
  refine LW.pure rfl rfl (RV.assign rfl) ?_
  refine LW.pure rfl rfl (RV.assign rfl) ?_
  refine LW.nil (hK4 _ _ ?_)
  refine CW.seq fun K5 hK5 => ?_
  obtain ⟨r3, hr3, F⟩ := bnd_some F
  refine CW.region ?_
  refine LW.pure rfl rfl (RV.loadA [.slice (some ⟨b1, 0, none⟩) 2 ((([3, 4] : List Int)).length), .slice (some ⟨b2, 0, none⟩) 2 ((([5, 2] : List Int)).length), .slice (some ⟨b5, 0, none⟩) 2 2] Tk25 rfl (H.blk 1 rfl).cells rfl rfl) ?_
  refine LW.go rfl rfl (OW.buildSlice (e := 3) (vs := [.int .i64 1, .int .i64 3]) (cs := [.int .i64 1, .int .i64 3]) rfl (fun _ => by kernel_rfl) fun b7 w10 N7 => ?_)
  replace H := H.made' (k := 1) (t := 3) (enc := encN) (l := ([1, 3] : List Int)) N7 N7.blk (fun _ => rfl) rfl (by first | decide | omega | (simp; done) | (simp; omega))
  replace R0 := H.ext
  refine LW.go rfl rfl (OW.buildSlice (e := 3) (vs := [.int .i64 0, .int .i64 (-2)]) (cs := [.int .i64 0, .int .i64 (-2)]) rfl (fun _ => by kernel_rfl) fun b8 w11 N8 => ?_)
  replace H := H.made' (k := 1) (t := 3) (enc := encN) (l := ([0, -2] : List Int)) N8 N8.blk (fun _ => rfl) rfl (by first | decide | omega | (simp; done) | (simp; omega))
  replace R0 := H.ext
  refine LW.pure rfl rfl (RV.build (vs := [.slice (some ⟨b7, 0, none⟩) 2 ((([1, 3] : List Int)).length), .slice (some ⟨b8, 0, none⟩) 2 ((([0, -2] : List Int)).length)]) (cs := [.slice (some ⟨b7, 0, none⟩) 2 ((([1, 3] : List Int)).length), .slice (some ⟨b8, 0, none⟩) 2 ((([0, -2] : List Int)).length)]) rfl (fun _ => by kernel_rfl)) ?_
  refine LW.go rfl rfl (OW.call Tc19 (evs_cast rfl (by first | rfl | (simp; done) | (simp; omega))) (bulk_Worth_ok (a0 := (⟨([3, 4] : List Int), ([5, 2] : List Int), ([([1, 2] : List Int), ([3, 1] : List Int)] : List (List Int))⟩ : Trade)) (a1 := (⟨([1, 3] : List Int), ([0, -2] : List Int)⟩ : Prices)) (H.own 8 rfl).sl (H.own 7 rfl).sl (Sl2.two (H.own 4 rfl).sl (H.own 6 rfl).sl (H.own 5 rfl).sl) (H.own 1 rfl).sl (H.own 0 rfl).sl hr3) ?_)
  rintro _ w12 ⟨rfl, E3⟩
  refine ⟨_, rfl, ?_⟩
  replace H := H.grow E3
  replace R0 := H.ext
  refine LW.pure rfl rfl (RV.move rfl) ?_
  refine LW.pure rfl rfl (RV.extract rfl rfl) ?_
  refine LW.pure rfl rfl (RV.extract rfl rfl) ?_
  refine LW.pure rfl rfl (RV.assign rfl) ?_
  refine LW.pure rfl rfl (RV.assign rfl) ?_
  refine LW.nil (hK5 _ _ ?_)
  refine CW.seq fun K6 hK6 => ?_
  by_cases hp1 : r1.2 = 0
  ·
    replace F := ite_y hp1 F
    have hq1 := dec_t hp1
    obtain ⟨r4, hr4, F⟩ := bnd_some F
    by_cases hp2 : r4 = true
    ·
      replace F := ite_y hp2 F
      have hq2 : r4 = true := hp2
      by_cases hp3 : r2.2 = 0
      ·
        replace F := ite_y hp3 F
        have hq3 := dec_t hp3
        by_cases hp4 : r2.1 = 11
        ·
          replace F := ite_y hp4 F
          have hq4 := dec_t hp4
          by_cases hp5 : r3.2 = 0
          ·
            replace F := ite_y hp5 F
            have hq5 := dec_t hp5
            refine CW.region ?_
            refine LW.pure rfl rfl (RV.move rfl) ?_
            refine LW.pure rfl rfl (RV.eqi rfl rfl) ?_
            refine LW.pure rfl rfl (RV.move rfl) ?_
            refine LW.pureYB rfl rfl rfl rfl hq1 (RV.move rfl) ?_
            refine LW.yesB rfl rfl rfl rfl hq1 (OW.buildSlice (e := 3) (vs := [.int .i64 3, .int .i64 0]) (cs := [.int .i64 3, .int .i64 0]) rfl (fun _ => by kernel_rfl) fun b9 w13 N9 => ?_)
            replace H := H.made' (k := 1) (t := 3) (enc := encN) (l := ([3, 0] : List Int)) N9 N9.blk (fun _ => rfl) rfl (by first | decide | omega | (simp; done) | (simp; omega))
            replace R0 := H.ext
            refine LW.yesB rfl rfl rfl rfl hq1 (OW.buildSlice (e := 3) (vs := [.int .i64 2, .int .i64 2]) (cs := [.int .i64 2, .int .i64 2]) rfl (fun _ => by kernel_rfl) fun b10 w14 N10 => ?_)
            replace H := H.made' (k := 1) (t := 3) (enc := encN) (l := ([2, 2] : List Int)) N10 N10.blk (fun _ => rfl) rfl (by first | decide | omega | (simp; done) | (simp; omega))
            replace R0 := H.ext
            refine LW.yesB rfl rfl rfl rfl hq1 (OW.buildSlice (e := 22) (vs := [.slice (some ⟨b9, 0, none⟩) 2 ((([3, 0] : List Int)).length), .slice (some ⟨b10, 0, none⟩) 2 ((([2, 2] : List Int)).length)]) (cs := [.slice (some ⟨b9, 0, none⟩) 2 ((([3, 0] : List Int)).length), .slice (some ⟨b10, 0, none⟩) 2 ((([2, 2] : List Int)).length)]) rfl (fun _ => by kernel_rfl) fun b11 w15 N11 => ?_)
            replace H := H.made' (k := 1) (t := 22) (enc := encH) (l := ([((some ⟨b9, 0, none⟩, (([3, 0] : List Int)).length), ([3, 0] : List Int)), ((some ⟨b10, 0, none⟩, (([2, 2] : List Int)).length), ([2, 2] : List Int))] : List ((Option Addr × Nat) × List Int))) N11 (by have q := N11.blk; simp only [List.flatMap_cons, List.flatMap_nil, encH, List.length_nil, List.append_nil, List.cons_append, List.nil_append]; first | done | exact q) (fun _ => rfl) rfl (by first | decide | omega | (simp; done) | (simp; omega))
            replace R0 := H.ext
            have hS26 : Sl2 w15 (some ⟨b11, 0, none⟩) 2 1 encN [([3, 0] : List Int), ([2, 2] : List Int)] := Sl2.two (H.own 0 rfl).sl (H.own 2 rfl).sl (H.own 1 rfl).sl
            refine LW.yesB rfl rfl rfl rfl hq1 (OW.call Tc33 (evs_cast rfl (by first | rfl | (simp; done) | (simp; omega))) (ref07_SameTables_ok (a0 := r1.1) (a1 := ([([3, 0] : List Int), ([2, 2] : List Int)] : List (List Int))) (H.tab 5 rfl).sl2 (Sl2.two (H.own 0 rfl).sl (H.own 2 rfl).sl (H.own 1 rfl).sl) hr4) ?_)
            rintro _ w16 ⟨rfl, E4⟩
            refine ⟨_, rfl, ?_⟩
            have hS26 := hS26.ext E4
            replace H := H.grow E4
            replace R0 := H.ext
            refine LW.pure rfl rfl (RV.pickTB rfl hq1 rfl) ?_
            refine LW.pure rfl rfl (RV.move rfl) ?_
            refine LW.pureYB rfl rfl rfl rfl hq2 (RV.move rfl) ?_
            refine LW.pureYB rfl rfl rfl rfl hq2 (RV.eqi rfl rfl) ?_
            refine LW.pure rfl rfl (RV.pickTB rfl hq2 rfl) ?_
            refine LW.pure rfl rfl (RV.move rfl) ?_
            refine LW.pureYB rfl rfl rfl rfl hq3 (RV.move rfl) ?_
            refine LW.pureYB rfl rfl rfl rfl hq3 (RV.eqi rfl rfl) ?_
            refine LW.pure rfl rfl (RV.pickTB rfl hq3 rfl) ?_
            refine LW.pure rfl rfl (RV.move rfl) ?_
            refine LW.pureYB rfl rfl rfl rfl hq4 (RV.move rfl) ?_
            refine LW.pureYB rfl rfl rfl rfl hq4 (RV.eqi rfl rfl) ?_
            refine LW.pure rfl rfl (RV.pickTB rfl hq4 rfl) ?_
            refine LW.pure rfl rfl (RV.move rfl) ?_
            refine LW.pureYB rfl rfl rfl rfl hq5 (RV.move rfl) ?_
            refine LW.pureYB rfl rfl rfl rfl hq5 (RV.eqi rfl rfl) ?_
            refine LW.pure rfl rfl (RV.pickTB rfl hq5 rfl) ?_
            refine LW.pure rfl rfl (RV.assign rfl) ?_
            refine LW.nil (hK6 _ _ ?_)
            refine CW.ret ?_
            obtain rfl := Option.some.inj F
            refine ⟨_, (ResOK.one rfl), ?_⟩
            refine ⟨(by first | rfl | simp), R0⟩
          ·
            replace F := ite_n hp5 F
            have hq5 := dec_f hp5
            refine CW.region ?_
            refine LW.pure rfl rfl (RV.move rfl) ?_
            refine LW.pure rfl rfl (RV.eqi rfl rfl) ?_
            refine LW.pure rfl rfl (RV.move rfl) ?_
            refine LW.pureYB rfl rfl rfl rfl hq1 (RV.move rfl) ?_
            refine LW.yesB rfl rfl rfl rfl hq1 (OW.buildSlice (e := 3) (vs := [.int .i64 3, .int .i64 0]) (cs := [.int .i64 3, .int .i64 0]) rfl (fun _ => by kernel_rfl) fun b12 w17 N12 => ?_)
            replace H := H.made' (k := 1) (t := 3) (enc := encN) (l := ([3, 0] : List Int)) N12 N12.blk (fun _ => rfl) rfl (by first | decide | omega | (simp; done) | (simp; omega))
            replace R0 := H.ext
            refine LW.yesB rfl rfl rfl rfl hq1 (OW.buildSlice (e := 3) (vs := [.int .i64 2, .int .i64 2]) (cs := [.int .i64 2, .int .i64 2]) rfl (fun _ => by kernel_rfl) fun b13 w18 N13 => ?_)
            replace H := H.made' (k := 1) (t := 3) (enc := encN) (l := ([2, 2] : List Int)) N13 N13.blk (fun _ => rfl) rfl (by first | decide | omega | (simp; done) | (simp; omega))
            replace R0 := H.ext
            refine LW.yesB rfl rfl rfl rfl hq1 (OW.buildSlice (e := 22) (vs := [.slice (some ⟨b12, 0, none⟩) 2 ((([3, 0] : List Int)).length), .slice (some ⟨b13, 0, none⟩) 2 ((([2, 2] : List Int)).length)]) (cs := [.slice (some ⟨b12, 0, none⟩) 2 ((([3, 0] : List Int)).length), .slice (some ⟨b13, 0, none⟩) 2 ((([2, 2] : List Int)).length)]) rfl (fun _ => by kernel_rfl) fun b14 w19 N14 => ?_)
            replace H := H.made' (k := 1) (t := 22) (enc := encH) (l := ([((some ⟨b12, 0, none⟩, (([3, 0] : List Int)).length), ([3, 0] : List Int)), ((some ⟨b13, 0, none⟩, (([2, 2] : List Int)).length), ([2, 2] : List Int))] : List ((Option Addr × Nat) × List Int))) N14 (by have q := N14.blk; simp only [List.flatMap_cons, List.flatMap_nil, encH, List.length_nil, List.append_nil, List.cons_append, List.nil_append]; first | done | exact q) (fun _ => rfl) rfl (by first | decide | omega | (simp; done) | (simp; omega))
            replace R0 := H.ext
            have hS27 : Sl2 w19 (some ⟨b14, 0, none⟩) 2 1 encN [([3, 0] : List Int), ([2, 2] : List Int)] := Sl2.two (H.own 0 rfl).sl (H.own 2 rfl).sl (H.own 1 rfl).sl
            refine LW.yesB rfl rfl rfl rfl hq1 (OW.call Tc33 (evs_cast rfl (by first | rfl | (simp; done) | (simp; omega))) (ref07_SameTables_ok (a0 := r1.1) (a1 := ([([3, 0] : List Int), ([2, 2] : List Int)] : List (List Int))) (H.tab 5 rfl).sl2 (Sl2.two (H.own 0 rfl).sl (H.own 2 rfl).sl (H.own 1 rfl).sl) hr4) ?_)
            rintro _ w20 ⟨rfl, E5⟩
            refine ⟨_, rfl, ?_⟩
            have hS27 := hS27.ext E5
            replace H := H.grow E5
            replace R0 := H.ext
            refine LW.pure rfl rfl (RV.pickTB rfl hq1 rfl) ?_
            refine LW.pure rfl rfl (RV.move rfl) ?_
            refine LW.pureYB rfl rfl rfl rfl hq2 (RV.move rfl) ?_
            refine LW.pureYB rfl rfl rfl rfl hq2 (RV.eqi rfl rfl) ?_
            refine LW.pure rfl rfl (RV.pickTB rfl hq2 rfl) ?_
            refine LW.pure rfl rfl (RV.move rfl) ?_
            refine LW.pureYB rfl rfl rfl rfl hq3 (RV.move rfl) ?_
            refine LW.pureYB rfl rfl rfl rfl hq3 (RV.eqi rfl rfl) ?_
            refine LW.pure rfl rfl (RV.pickTB rfl hq3 rfl) ?_
            refine LW.pure rfl rfl (RV.move rfl) ?_
            refine LW.pureYB rfl rfl rfl rfl hq4 (RV.move rfl) ?_
            refine LW.pureYB rfl rfl rfl rfl hq4 (RV.eqi rfl rfl) ?_
            refine LW.pure rfl rfl (RV.pickTB rfl hq4 rfl) ?_
            refine LW.pure rfl rfl (RV.move rfl) ?_
            refine LW.noB rfl rfl rfl rfl (ne_beq (v := false) hq5 rfl) ?_
            refine LW.noB rfl rfl rfl rfl (ne_beq (v := false) hq5 rfl) ?_
            refine LW.pure rfl rfl (RV.pickFB rfl hq5 rfl) ?_
            refine LW.pure rfl rfl (RV.assign rfl) ?_
            refine LW.nil (hK6 _ _ ?_)
            refine CW.ret ?_
            obtain rfl := Option.some.inj F
            refine ⟨_, (ResOK.one rfl), ?_⟩
            refine ⟨(by first | rfl | simp), R0⟩
        ·
          replace F := ite_n hp4 F
          have hq4 := dec_f hp4
          refine CW.region ?_
          refine LW.pure rfl rfl (RV.move rfl) ?_
          refine LW.pure rfl rfl (RV.eqi rfl rfl) ?_
          refine LW.pure rfl rfl (RV.move rfl) ?_
          refine LW.pureYB rfl rfl rfl rfl hq1 (RV.move rfl) ?_
          refine LW.yesB rfl rfl rfl rfl hq1 (OW.buildSlice (e := 3) (vs := [.int .i64 3, .int .i64 0]) (cs := [.int .i64 3, .int .i64 0]) rfl (fun _ => by kernel_rfl) fun b15 w21 N15 => ?_)
          replace H := H.made' (k := 1) (t := 3) (enc := encN) (l := ([3, 0] : List Int)) N15 N15.blk (fun _ => rfl) rfl (by first | decide | omega | (simp; done) | (simp; omega))
          replace R0 := H.ext
          refine LW.yesB rfl rfl rfl rfl hq1 (OW.buildSlice (e := 3) (vs := [.int .i64 2, .int .i64 2]) (cs := [.int .i64 2, .int .i64 2]) rfl (fun _ => by kernel_rfl) fun b16 w22 N16 => ?_)
          replace H := H.made' (k := 1) (t := 3) (enc := encN) (l := ([2, 2] : List Int)) N16 N16.blk (fun _ => rfl) rfl (by first | decide | omega | (simp; done) | (simp; omega))
          replace R0 := H.ext
          refine LW.yesB rfl rfl rfl rfl hq1 (OW.buildSlice (e := 22) (vs := [.slice (some ⟨b15, 0, none⟩) 2 ((([3, 0] : List Int)).length), .slice (some ⟨b16, 0, none⟩) 2 ((([2, 2] : List Int)).length)]) (cs := [.slice (some ⟨b15, 0, none⟩) 2 ((([3, 0] : List Int)).length), .slice (some ⟨b16, 0, none⟩) 2 ((([2, 2] : List Int)).length)]) rfl (fun _ => by kernel_rfl) fun b17 w23 N17 => ?_)
          replace H := H.made' (k := 1) (t := 22) (enc := encH) (l := ([((some ⟨b15, 0, none⟩, (([3, 0] : List Int)).length), ([3, 0] : List Int)), ((some ⟨b16, 0, none⟩, (([2, 2] : List Int)).length), ([2, 2] : List Int))] : List ((Option Addr × Nat) × List Int))) N17 (by have q := N17.blk; simp only [List.flatMap_cons, List.flatMap_nil, encH, List.length_nil, List.append_nil, List.cons_append, List.nil_append]; first | done | exact q) (fun _ => rfl) rfl (by first | decide | omega | (simp; done) | (simp; omega))
          replace R0 := H.ext
          have hS28 : Sl2 w23 (some ⟨b17, 0, none⟩) 2 1 encN [([3, 0] : List Int), ([2, 2] : List Int)] := Sl2.two (H.own 0 rfl).sl (H.own 2 rfl).sl (H.own 1 rfl).sl
          refine LW.yesB rfl rfl rfl rfl hq1 (OW.call Tc33 (evs_cast rfl (by first | rfl | (simp; done) | (simp; omega))) (ref07_SameTables_ok (a0 := r1.1) (a1 := ([([3, 0] : List Int), ([2, 2] : List Int)] : List (List Int))) (H.tab 5 rfl).sl2 (Sl2.two (H.own 0 rfl).sl (H.own 2 rfl).sl (H.own 1 rfl).sl) hr4) ?_)
          rintro _ w24 ⟨rfl, E6⟩
          refine ⟨_, rfl, ?_⟩
          have hS28 := hS28.ext E6
          replace H := H.grow E6
          replace R0 := H.ext
          refine LW.pure rfl rfl (RV.pickTB rfl hq1 rfl) ?_
          refine LW.pure rfl rfl (RV.move rfl) ?_
          refine LW.pureYB rfl rfl rfl rfl hq2 (RV.move rfl) ?_
          refine LW.pureYB rfl rfl rfl rfl hq2 (RV.eqi rfl rfl) ?_
          refine LW.pure rfl rfl (RV.pickTB rfl hq2 rfl) ?_
          refine LW.pure rfl rfl (RV.move rfl) ?_
          refine LW.pureYB rfl rfl rfl rfl hq3 (RV.move rfl) ?_
          refine LW.pureYB rfl rfl rfl rfl hq3 (RV.eqi rfl rfl) ?_
          refine LW.pure rfl rfl (RV.pickTB rfl hq3 rfl) ?_
          refine LW.pure rfl rfl (RV.move rfl) ?_
          refine LW.noB rfl rfl rfl rfl (ne_beq (v := false) hq4 rfl) ?_
          refine LW.noB rfl rfl rfl rfl (ne_beq (v := false) hq4 rfl) ?_
          refine LW.pure rfl rfl (RV.pickFB rfl hq4 rfl) ?_
          refine LW.pure rfl rfl (RV.move rfl) ?_
          refine LW.noB rfl rfl rfl rfl (ne_beq (v := false) rfl rfl) ?_
          refine LW.noB rfl rfl rfl rfl (ne_beq (v := false) rfl rfl) ?_
          refine LW.pure rfl rfl (RV.pickFB rfl rfl rfl) ?_
          refine LW.pure rfl rfl (RV.assign rfl) ?_
          refine LW.nil (hK6 _ _ ?_)
          refine CW.ret ?_
          obtain rfl := Option.some.inj F
          refine ⟨_, (ResOK.one rfl), ?_⟩
          refine ⟨(by first | rfl | simp), R0⟩
      ·
        replace F := ite_n hp3 F
        have hq3 := dec_f hp3
        refine CW.region ?_
        refine LW.pure rfl rfl (RV.move rfl) ?_
        refine LW.pure rfl rfl (RV.eqi rfl rfl) ?_
        refine LW.pure rfl rfl (RV.move rfl) ?_
        refine LW.pureYB rfl rfl rfl rfl hq1 (RV.move rfl) ?_
        refine LW.yesB rfl rfl rfl rfl hq1 (OW.buildSlice (e := 3) (vs := [.int .i64 3, .int .i64 0]) (cs := [.int .i64 3, .int .i64 0]) rfl (fun _ => by kernel_rfl) fun b18 w25 N18 => ?_)
        replace H := H.made' (k := 1) (t := 3) (enc := encN) (l := ([3, 0] : List Int)) N18 N18.blk (fun _ => rfl) rfl (by first | decide | omega | (simp; done) | (simp; omega))
        replace R0 := H.ext
        refine LW.yesB rfl rfl rfl rfl hq1 (OW.buildSlice (e := 3) (vs := [.int .i64 2, .int .i64 2]) (cs := [.int .i64 2, .int .i64 2]) rfl (fun _ => by kernel_rfl) fun b19 w26 N19 => ?_)
        replace H := H.made' (k := 1) (t := 3) (enc := encN) (l := ([2, 2] : List Int)) N19 N19.blk (fun _ => rfl) rfl (by first | decide | omega | (simp; done) | (simp; omega))
        replace R0 := H.ext
        refine LW.yesB rfl rfl rfl rfl hq1 (OW.buildSlice (e := 22) (vs := [.slice (some ⟨b18, 0, none⟩) 2 ((([3, 0] : List Int)).length), .slice (some ⟨b19, 0, none⟩) 2 ((([2, 2] : List Int)).length)]) (cs := [.slice (some ⟨b18, 0, none⟩) 2 ((([3, 0] : List Int)).length), .slice (some ⟨b19, 0, none⟩) 2 ((([2, 2] : List Int)).length)]) rfl (fun _ => by kernel_rfl) fun b20 w27 N20 => ?_)
        replace H := H.made' (k := 1) (t := 22) (enc := encH) (l := ([((some ⟨b18, 0, none⟩, (([3, 0] : List Int)).length), ([3, 0] : List Int)), ((some ⟨b19, 0, none⟩, (([2, 2] : List Int)).length), ([2, 2] : List Int))] : List ((Option Addr × Nat) × List Int))) N20 (by have q := N20.blk; simp only [List.flatMap_cons, List.flatMap_nil, encH, List.length_nil, List.append_nil, List.cons_append, List.nil_append]; first | done | exact q) (fun _ => rfl) rfl (by first | decide | omega | (simp; done) | (simp; omega))
        replace R0 := H.ext
        have hS29 : Sl2 w27 (some ⟨b20, 0, none⟩) 2 1 encN [([3, 0] : List Int), ([2, 2] : List Int)] := Sl2.two (H.own 0 rfl).sl (H.own 2 rfl).sl (H.own 1 rfl).sl
        refine LW.yesB rfl rfl rfl rfl hq1 (OW.call Tc33 (evs_cast rfl (by first | rfl | (simp; done) | (simp; omega))) (ref07_SameTables_ok (a0 := r1.1) (a1 := ([([3, 0] : List Int), ([2, 2] : List Int)] : List (List Int))) (H.tab 5 rfl).sl2 (Sl2.two (H.own 0 rfl).sl (H.own 2 rfl).sl (H.own 1 rfl).sl) hr4) ?_)
        rintro _ w28 ⟨rfl, E7⟩
        refine ⟨_, rfl, ?_⟩
        have hS29 := hS29.ext E7
        replace H := H.grow E7
        replace R0 := H.ext
        refine LW.pure rfl rfl (RV.pickTB rfl hq1 rfl) ?_
        refine LW.pure rfl rfl (RV.move rfl) ?_
        refine LW.pureYB rfl rfl rfl rfl hq2 (RV.move rfl) ?_
        refine LW.pureYB rfl rfl rfl rfl hq2 (RV.eqi rfl rfl) ?_
        refine LW.pure rfl rfl (RV.pickTB rfl hq2 rfl) ?_
        refine LW.pure rfl rfl (RV.move rfl) ?_
        refine LW.noB rfl rfl rfl rfl (ne_beq (v := false) hq3 rfl) ?_
        refine LW.noB rfl rfl rfl rfl (ne_beq (v := false) hq3 rfl) ?_
        refine LW.pure rfl rfl (RV.pickFB rfl hq3 rfl) ?_
        refine LW.pure rfl rfl (RV.move rfl) ?_
        refine LW.noB rfl rfl rfl rfl (ne_beq (v := false) rfl rfl) ?_
        refine LW.noB rfl rfl rfl rfl (ne_beq (v := false) rfl rfl) ?_
        refine LW.pure rfl rfl (RV.pickFB rfl rfl rfl) ?_
        refine LW.pure rfl rfl (RV.move rfl) ?_
        refine LW.noB rfl rfl rfl rfl (ne_beq (v := false) rfl rfl) ?_
        refine LW.noB rfl rfl rfl rfl (ne_beq (v := false) rfl rfl) ?_
        refine LW.pure rfl rfl (RV.pickFB rfl rfl rfl) ?_
        refine LW.pure rfl rfl (RV.assign rfl) ?_
        refine LW.nil (hK6 _ _ ?_)
        refine CW.ret ?_
        obtain rfl := Option.some.inj F
        refine ⟨_, (ResOK.one rfl), ?_⟩
        refine ⟨(by first | rfl | simp), R0⟩
    ·
      replace F := ite_n hp2 F
      have hq2 : r4 = false := raw_f hp2
      refine CW.region ?_
      refine LW.pure rfl rfl (RV.move rfl) ?_
      refine LW.pure rfl rfl (RV.eqi rfl rfl) ?_
      refine LW.pure rfl rfl (RV.move rfl) ?_
      refine LW.pureYB rfl rfl rfl rfl hq1 (RV.move rfl) ?_
      refine LW.yesB rfl rfl rfl rfl hq1 (OW.buildSlice (e := 3) (vs := [.int .i64 3, .int .i64 0]) (cs := [.int .i64 3, .int .i64 0]) rfl (fun _ => by kernel_rfl) fun b21 w29 N21 => ?_)
      replace H := H.made' (k := 1) (t := 3) (enc := encN) (l := ([3, 0] : List Int)) N21 N21.blk (fun _ => rfl) rfl (by first | decide | omega | (simp; done) | (simp; omega))
      replace R0 := H.ext
      refine LW.yesB rfl rfl rfl rfl hq1 (OW.buildSlice (e := 3) (vs := [.int .i64 2, .int .i64 2]) (cs := [.int .i64 2, .int .i64 2]) rfl (fun _ => by kernel_rfl) fun b22 w30 N22 => ?_)
      replace H := H.made' (k := 1) (t := 3) (enc := encN) (l := ([2, 2] : List Int)) N22 N22.blk (fun _ => rfl) rfl (by first | decide | omega | (simp; done) | (simp; omega))
      replace R0 := H.ext
      refine LW.yesB rfl rfl rfl rfl hq1 (OW.buildSlice (e := 22) (vs := [.slice (some ⟨b21, 0, none⟩) 2 ((([3, 0] : List Int)).length), .slice (some ⟨b22, 0, none⟩) 2 ((([2, 2] : List Int)).length)]) (cs := [.slice (some ⟨b21, 0, none⟩) 2 ((([3, 0] : List Int)).length), .slice (some ⟨b22, 0, none⟩) 2 ((([2, 2] : List Int)).length)]) rfl (fun _ => by kernel_rfl) fun b23 w31 N23 => ?_)
      replace H := H.made' (k := 1) (t := 22) (enc := encH) (l := ([((some ⟨b21, 0, none⟩, (([3, 0] : List Int)).length), ([3, 0] : List Int)), ((some ⟨b22, 0, none⟩, (([2, 2] : List Int)).length), ([2, 2] : List Int))] : List ((Option Addr × Nat) × List Int))) N23 (by have q := N23.blk; simp only [List.flatMap_cons, List.flatMap_nil, encH, List.length_nil, List.append_nil, List.cons_append, List.nil_append]; first | done | exact q) (fun _ => rfl) rfl (by first | decide | omega | (simp; done) | (simp; omega))
      replace R0 := H.ext
      have hS210 : Sl2 w31 (some ⟨b23, 0, none⟩) 2 1 encN [([3, 0] : List Int), ([2, 2] : List Int)] := Sl2.two (H.own 0 rfl).sl (H.own 2 rfl).sl (H.own 1 rfl).sl
      refine LW.yesB rfl rfl rfl rfl hq1 (OW.call Tc33 (evs_cast rfl (by first | rfl | (simp; done) | (simp; omega))) (ref07_SameTables_ok (a0 := r1.1) (a1 := ([([3, 0] : List Int), ([2, 2] : List Int)] : List (List Int))) (H.tab 5 rfl).sl2 (Sl2.two (H.own 0 rfl).sl (H.own 2 rfl).sl (H.own 1 rfl).sl) hr4) ?_)
      rintro _ w32 ⟨rfl, E8⟩
      refine ⟨_, rfl, ?_⟩
      have hS210 := hS210.ext E8
      replace H := H.grow E8
      replace R0 := H.ext
      refine LW.pure rfl rfl (RV.pickTB rfl hq1 rfl) ?_
      refine LW.pure rfl rfl (RV.move rfl) ?_
      refine LW.noB rfl rfl rfl rfl (ne_beq (v := false) hq2 rfl) ?_
      refine LW.noB rfl rfl rfl rfl (ne_beq (v := false) hq2 rfl) ?_
      refine LW.pure rfl rfl (RV.pickFB rfl hq2 rfl) ?_
      refine LW.pure rfl rfl (RV.move rfl) ?_
      refine LW.noB rfl rfl rfl rfl (ne_beq (v := false) rfl rfl) ?_
      refine LW.noB rfl rfl rfl rfl (ne_beq (v := false) rfl rfl) ?_
      refine LW.pure rfl rfl (RV.pickFB rfl rfl rfl) ?_
      refine LW.pure rfl rfl (RV.move rfl) ?_
      refine LW.noB rfl rfl rfl rfl (ne_beq (v := false) rfl rfl) ?_
      refine LW.noB rfl rfl rfl rfl (ne_beq (v := false) rfl rfl) ?_
      refine LW.pure rfl rfl (RV.pickFB rfl rfl rfl) ?_
      refine LW.pure rfl rfl (RV.move rfl) ?_
      refine LW.noB rfl rfl rfl rfl (ne_beq (v := false) rfl rfl) ?_
      refine LW.noB rfl rfl rfl rfl (ne_beq (v := false) rfl rfl) ?_
      refine LW.pure rfl rfl (RV.pickFB rfl rfl rfl) ?_
      refine LW.pure rfl rfl (RV.assign rfl) ?_
      refine LW.nil (hK6 _ _ ?_)
      refine CW.ret ?_
      obtain rfl := Option.some.inj F
      refine ⟨_, (ResOK.one rfl), ?_⟩
      refine ⟨(by first | rfl | simp), R0⟩
  ·
    replace F := ite_n hp1 F
    have hq1 := dec_f hp1
    refine CW.region ?_
    refine LW.pure rfl rfl (RV.move rfl) ?_
    refine LW.pure rfl rfl (RV.eqi rfl rfl) ?_
    refine LW.pure rfl rfl (RV.move rfl) ?_
    refine LW.noB rfl rfl rfl rfl (ne_beq (v := false) hq1 rfl) ?_
    refine LW.noB rfl rfl rfl rfl (ne_beq (v := false) hq1 rfl) ?_
    refine LW.noB rfl rfl rfl rfl (ne_beq (v := false) hq1 rfl) ?_
    refine LW.noB rfl rfl rfl rfl (ne_beq (v := false) hq1 rfl) ?_
    refine LW.noB rfl rfl rfl rfl (ne_beq (v := false) hq1 rfl) ?_
    refine LW.pure rfl rfl (RV.pickFB rfl hq1 rfl) ?_
    refine LW.pure rfl rfl (RV.move rfl) ?_
    refine LW.noB rfl rfl rfl rfl (ne_beq (v := false) rfl rfl) ?_
    refine LW.noB rfl rfl rfl rfl (ne_beq (v := false) rfl rfl) ?_
    refine LW.pure rfl rfl (RV.pickFB rfl rfl rfl) ?_
    refine LW.pure rfl rfl (RV.move rfl) ?_
    refine LW.noB rfl rfl rfl rfl (ne_beq (v := false) rfl rfl) ?_
    refine LW.noB rfl rfl rfl rfl (ne_beq (v := false) rfl rfl) ?_
    refine LW.pure rfl rfl (RV.pickFB rfl rfl rfl) ?_
    refine LW.pure rfl rfl (RV.move rfl) ?_
    refine LW.noB rfl rfl rfl rfl (ne_beq (v := false) rfl rfl) ?_
    refine LW.noB rfl rfl rfl rfl (ne_beq (v := false) rfl rfl) ?_
    refine LW.pure rfl rfl (RV.pickFB rfl rfl rfl) ?_
    refine LW.pure rfl rfl (RV.move rfl) ?_
    refine LW.noB rfl rfl rfl rfl (ne_beq (v := false) rfl rfl) ?_
    refine LW.noB rfl rfl rfl rfl (ne_beq (v := false) rfl rfl) ?_
    refine LW.pure rfl rfl (RV.pickFB rfl rfl rfl) ?_
    refine LW.pure rfl rfl (RV.assign rfl) ?_
    refine LW.nil (hK6 _ _ ?_)
    refine CW.ret ?_
    obtain rfl := Option.some.inj F
    refine ⟨_, (ResOK.one rfl), ?_⟩
    refine ⟨(by first | rfl | simp), R0⟩
end Go.D7

set_option linter.unusedVariables false
set_option linter.unusedSimpArgs false
namespace Go.D7
open Go.Tb Go.Proofs Go.RowKit
theorem Tc39 : callable Try.prog 39 = true := by kernel_rfl
theorem Tc58 : callable Try.prog 58 = true := by kernel_rfl
theorem Tc76 : callable Try.prog 76 = true := by kernel_rfl
theorem Tc77 : callable Try.prog 77 = true := by kernel_rfl
theorem Tc78 : callable Try.prog 78 = true := by kernel_rfl
set_option maxRecDepth 20000 in
set_option maxHeartbeats 1000000 in
theorem ref07_within_ok {a0 : Int} {a1 : Int} {a2 : Int} {w : World} {res : Bool} (F : ref07_within a0 a1 a2 = some res) : Calls Try.prog 58 #[.int .i64 a0, .int .i64 a1, .int .i64 a2] w (Rt w (.bool res)) := by
  refine calls_of_cw (args := [.int .i64 a0, .int .i64 a1, .int .i64 a2]) Try.func58 rfl rfl rfl rfl ?_
  have H := Hp.start w
  have R0 := H.ext
  unfold ref07_within at F
  refine CW.seq fun K1 hK1 => ?_
  refine CW.region ?_
  refine LW.pure rfl rfl (RV.assign rfl) ?_
  refine LW.nil (hK1 _ _ ?_)
  refine CW.seq fun K2 hK2 => ?_
  by_cases hp1 : a1 ≤ a0
  ·
    replace F := ite_y hp1 F
    have hq1 := dec_t hp1
    refine CW.region ?_
    refine LW.pure rfl rfl (RV.move rfl) ?_
    refine LW.pure rfl rfl (RV.move rfl) ?_
    refine LW.pure rfl rfl (RV.geq rfl rfl) ?_
    refine LW.pure rfl rfl (RV.move rfl) ?_
    refine LW.pureYB rfl rfl rfl rfl hq1 (RV.move rfl) ?_
    refine LW.pureYB rfl rfl rfl rfl hq1 (RV.move rfl) ?_
    refine LW.pureYB rfl rfl rfl rfl hq1 (RV.leq rfl rfl) ?_
    refine LW.pure rfl rfl (RV.pickTB rfl hq1 rfl) ?_
    refine LW.pure rfl rfl (RV.assign rfl) ?_
    refine LW.nil (hK2 _ _ ?_)
    refine CW.ret ?_
    obtain rfl := Option.some.inj F
    refine ⟨_, (ResOK.one rfl), ?_⟩
    refine ⟨(by first | rfl | simp), R0⟩
  ·
    replace F := ite_n hp1 F
    have hq1 := dec_f hp1
    refine CW.region ?_
    refine LW.pure rfl rfl (RV.move rfl) ?_
    refine LW.pure rfl rfl (RV.move rfl) ?_
    refine LW.pure rfl rfl (RV.geq rfl rfl) ?_
    refine LW.pure rfl rfl (RV.move rfl) ?_
    refine LW.noB rfl rfl rfl rfl (ne_beq (v := false) hq1 rfl) ?_
    refine LW.noB rfl rfl rfl rfl (ne_beq (v := false) hq1 rfl) ?_
    refine LW.noB rfl rfl rfl rfl (ne_beq (v := false) hq1 rfl) ?_
    refine LW.pure rfl rfl (RV.pickFB rfl hq1 rfl) ?_
    refine LW.pure rfl rfl (RV.assign rfl) ?_
    refine LW.nil (hK2 _ _ ?_)
    refine CW.ret ?_
    obtain rfl := Option.some.inj F
    refine ⟨_, (ResOK.one rfl), ?_⟩
    refine ⟨(by first | rfl | simp), R0⟩
set_option maxRecDepth 20000 in
set_option maxHeartbeats 1000000 in
theorem ref07_amounts_ok {a0 : List Int} {A_a0 : Option Addr} {c_a0 : Nat} {w : World} {res : Bool} (h_a0 : Sl w A_a0 c_a0 1 (a0.map encN)) (F : ref07_amounts a0 = some res) : Calls Try.prog 76 #[.slice A_a0 a0.length c_a0] w (Rt w (.bool res)) := by
  refine calls_of_cw (args := [.slice A_a0 a0.length c_a0]) Try.func76 rfl rfl rfl rfl ?_
  have H := Hp.start w
  have R0 := H.ext
  unfold ref07_amounts at F
  refine CW.seq fun K1 hK1 => ?_
  refine CW.region ?_
  refine LW.pure rfl rfl (RV.assign rfl) ?_
  refine LW.nil (hK1 _ _ ?_)
  refine CW.seqJ (fun ρ wl1 => (ref07_amounts_k1 a0 = some res ∧ ρ = [(0, .slice A_a0 a0.length c_a0), (2, .bool false)] ∧ Hp w wl1 [])) ?_ ?_
  ·
    rintro _ wl1 ⟨F, rfl, H⟩
    have R0 := H.ext
    unfold ref07_amounts_k1 at F
    refine CW.seq fun K2 hK2 => ?_
    obtain ⟨r1, hr1, F⟩ := bnd_some F
    refine CW.region ?_
    refine LW.pure rfl rfl (RV.move rfl) ?_
    refine LW.pure rfl rfl (RV.len Ts22 rfl) ?_
    refine LW.go rfl rfl (OW.call Tc58 rfl (ref07_within_ok (a0 := (a0.length : Int)) (a1 := (1 : Int)) (a2 := (4 : Int)) hr1) ?_)
    rintro _ w1 ⟨rfl, E1⟩
    refine ⟨_, rfl, ?_⟩
    replace H := H.grow E1
    replace R0 := H.ext
    refine LW.pure rfl rfl (RV.assign rfl) ?_
    refine LW.nil (hK2 _ _ ?_)
    refine CW.ret ?_
    obtain rfl := Option.some.inj F
    refine ⟨_, (ResOK.one rfl), ?_⟩
    refine ⟨(by first | rfl | simp), R0⟩
  ·
    intro K3 hK3 jK54
    refine CW.seq fun K4 hK4 => ?_
    refine CW.region ?_
    refine LW.pure rfl rfl (RV.assign rfl) ?_
    refine LW.nil (hK4 _ _ ?_)
    refine CW.block ?_
    refine CW.loop (fun meas ρ wl2 => ∃ (t3_1 : Int), ref07_amounts_L1 a0 meas t3_1 = some res ∧ ρ = [(0, .slice A_a0 a0.length c_a0), (2, .bool false), (3, .int .i64 t3_1)] ∧ Hp w wl2 []) FU ⟨_, ?_, ((0 : Int)), F, rfl, H⟩ ?_
    · exact ⟨rfl, rfl, rfl, trivial⟩
    rintro mk1 _ wl2 ⟨t3_1, F, rfl, H⟩
    have R0 := H.ext
    replace F := ref07_amounts_L1_s F
    obtain ⟨mk1, rfl, F⟩ := F
    generalize hrec1 : ref07_amounts_L1 a0 mk1 = rec1 at F
    unfold ref07_amounts_B1 at F
    refine CW.seq fun K5 hK5 => ?_
    refine CW.seq fun K6 hK6 => ?_
    refine CW.region ?_
    refine LW.pure rfl rfl (RV.move rfl) ?_
    refine LW.pure rfl rfl (RV.move rfl) ?_
    refine LW.pure rfl rfl (RV.len Ts22 rfl) ?_
    refine LW.pure rfl rfl (RV.lss rfl rfl) ?_
    refine LW.nil (hK6 _ _ ?_)
    by_cases hp1 : t3_1 < ((a0.length : Int))
    ·
      replace F := ite_y hp1 F
      have hq1 := dec_t hp1
      refine CW.condT rfl hq1 ?_
      refine CW.skip (hK5 _ _ ?_)
      refine CW.seq fun K7 hK7 => ?_
      refine CW.block ?_
      refine CW.seq fun K8 hK8 => ?_
      obtain ⟨x1, hbx1, hx1, F⟩ := ix_some F
      obtain ⟨r2, hr2, F⟩ := bnd_some F
      refine CW.region ?_
      refine LW.pure rfl rfl (RV.move rfl) ?_
      refine LW.pure rfl rfl (RV.move rfl) ?_
      refine LW.pure rfl rfl (RV.indexAddr Ts22 rfl rfl hbx1 (h_a0.addr_ hx1)) ?_
      refine LW.pure rfl rfl (RV.load1 Tk3 rfl ((h_a0.at_ hx1).ext R0) rfl) ?_
      refine LW.go rfl rfl (OW.call Tc58 rfl (ref07_within_ok (a0 := x1) (a1 := (0 : Int)) (a2 := (30 : Int)) hr2) ?_)
      rintro _ w2 ⟨rfl, E2⟩
      refine ⟨_, rfl, ?_⟩
      replace H := H.grow E2
      replace R0 := H.ext
      refine LW.pure rfl rfl (RV.not rfl) ?_
      refine LW.nil (hK8 _ _ ?_)
      by_cases hp2 : r2 = true
      ·
        replace F := ite_y hp2 F
        have hq2 : r2 = true := hp2
        refine CW.condF rfl (not_f hq2) ?_
        refine CW.skip (hK7 _ _ ?_)
        obtain ⟨hg1, F⟩ := gd_some F
        refine CW.region ?_
        refine LW.pure rfl rfl (RV.move rfl) ?_
        refine LW.pure rfl rfl (RV.add rfl rfl hg1) ?_
        refine LW.pure rfl rfl (RV.assign rfl) ?_
        refine LW.nil ?_
        subst hrec1
        refine ⟨mk1, Nat.lt_succ_self _, _, ?_, (t3_1 + 1), F, rfl, H⟩
        exact ⟨rfl, rfl, rfl, trivial⟩
      ·
        replace F := ite_n hp2 F
        have hq2 : r2 = false := raw_f hp2
        refine CW.condT rfl (not_t hq2) ?_
        refine CW.seq fun K9 hK9 => ?_
        refine CW.region ?_
        refine LW.pure rfl rfl (RV.assign rfl) ?_
        refine LW.nil (hK9 _ _ ?_)
        refine CW.ret ?_
        obtain rfl := Option.some.inj F
        refine ⟨_, (ResOK.one rfl), ?_⟩
        refine ⟨(by first | rfl | simp), R0⟩
    ·
      replace F := ite_n hp1 F
      have hq1 := dec_f hp1
      refine CW.condF rfl hq1 ?_
      refine CW.exit (jK54 _ _ ⟨_, ?_, ⟨F, rfl, H⟩⟩)
      exact ⟨rfl, rfl, trivial⟩
set_option maxRecDepth 20000 in
set_option maxHeartbeats 1000000 in
theorem ref07_sum_ok {a0 : List Int} {A_a0 : Option Addr} {c_a0 : Nat} {w : World} {res : Int} (h_a0 : Sl w A_a0 c_a0 1 (a0.map encN)) (F : ref07_sum a0 = some res) : Calls Try.prog 77 #[.slice A_a0 a0.length c_a0] w (Rt w (.int .i64 res)) := by
  refine calls_of_cw (args := [.slice A_a0 a0.length c_a0]) Try.func77 rfl rfl rfl rfl ?_
  have H := Hp.start w
  have R0 := H.ext
  unfold ref07_sum at F
  refine CW.seq fun K1 hK1 => ?_
  refine CW.region ?_
  refine LW.pure rfl rfl (RV.assign rfl) ?_
  refine LW.nil (hK1 _ _ ?_)
  refine CW.seq fun K2 hK2 => ?_
  refine CW.region ?_
  refine LW.pure rfl rfl (RV.assign rfl) ?_
  refine LW.nil (hK2 _ _ ?_)
  refine CW.seqJ (fun ρ wl1 => (∃ (t3_1 : Int), ref07_sum_k1 t3_1 = some res ∧ ρ = [(2, .int .i64 0), (3, .int .i64 t3_1)] ∧ Hp w wl1 [])) ?_ ?_
  ·
    rintro _ wl1 ⟨t3_1, F, rfl, H⟩
    have R0 := H.ext
    unfold ref07_sum_k1 at F
    refine CW.seq fun K3 hK3 => ?_
    refine CW.region ?_
    refine LW.pure rfl rfl (RV.move rfl) ?_
    refine LW.pure rfl rfl (RV.assign rfl) ?_
    refine LW.nil (hK3 _ _ ?_)
    refine CW.ret ?_
    obtain rfl := Option.some.inj F
    refine ⟨_, (ResOK.one rfl), ?_⟩
    refine ⟨(by first | rfl | simp), R0⟩
  ·
    intro K4 hK4 jK38
    refine CW.seq fun K5 hK5 => ?_
    refine CW.region ?_
    refine LW.pure rfl rfl (RV.assign rfl) ?_
    refine LW.nil (hK5 _ _ ?_)
    refine CW.block ?_
    refine CW.loop (fun meas ρ wl2 => ∃ (t3_2 : Int) (t4_1 : Int), ref07_sum_L1 a0 meas t3_2 t4_1 = some res ∧ ρ = [(0, .slice A_a0 a0.length c_a0), (2, .int .i64 0), (3, .int .i64 t3_2), (4, .int .i64 t4_1)] ∧ Hp w wl2 []) FU ⟨_, ?_, ((0 : Int)), ((0 : Int)), F, rfl, H⟩ ?_
    · exact ⟨rfl, rfl, rfl, rfl, trivial⟩
    rintro mk1 _ wl2 ⟨t3_2, t4_1, F, rfl, H⟩
    have R0 := H.ext
    replace F := ref07_sum_L1_s F
    obtain ⟨mk1, rfl, F⟩ := F
    generalize hrec1 : ref07_sum_L1 a0 mk1 = rec1 at F
    unfold ref07_sum_B1 at F
    refine CW.seq fun K6 hK6 => ?_
    refine CW.seq fun K7 hK7 => ?_
    refine CW.region ?_
    refine LW.pure rfl rfl (RV.move rfl) ?_
    refine LW.pure rfl rfl (RV.move rfl) ?_
    refine LW.pure rfl rfl (RV.len Ts22 rfl) ?_
    refine LW.pure rfl rfl (RV.lss rfl rfl) ?_
    refine LW.nil (hK7 _ _ ?_)
    by_cases hp1 : t4_1 < ((a0.length : Int))
    ·
      replace F := ite_y hp1 F
      have hq1 := dec_t hp1
      refine CW.condT rfl hq1 ?_
      refine CW.skip (hK6 _ _ ?_)
      refine CW.seq fun K8 hK8 => ?_
      refine CW.block ?_
      obtain ⟨x1, hbx1, hx1, F⟩ := ix_some F
      obtain ⟨hg1, F⟩ := gd_some F
      refine CW.region ?_
      refine LW.pure rfl rfl (RV.move rfl) ?_
      refine LW.pure rfl rfl (RV.move rfl) ?_
      refine LW.pure rfl rfl (RV.move rfl) ?_
      refine LW.pure rfl rfl (RV.indexAddr Ts22 rfl rfl hbx1 (h_a0.addr_ hx1)) ?_
      refine LW.pure rfl rfl (RV.load1 Tk3 rfl ((h_a0.at_ hx1).ext R0) rfl) ?_
      refine LW.pure rfl rfl (RV.add rfl rfl hg1) ?_
      refine LW.pure rfl rfl (RV.assign rfl) ?_
      refine LW.nil (hK8 _ _ ?_)
      obtain ⟨hg2, F⟩ := gd_some F
      refine CW.region ?_
      refine LW.pure rfl rfl (RV.move rfl) ?_
      refine LW.pure rfl rfl (RV.add rfl rfl hg2) ?_
      refine LW.pure rfl rfl (RV.assign rfl) ?_
      refine LW.nil ?_
      subst hrec1
      refine ⟨mk1, Nat.lt_succ_self _, _, ?_, (t3_2 + x1), (t4_1 + 1), F, rfl, H⟩
      exact ⟨rfl, rfl, rfl, rfl, trivial⟩
    ·
      replace F := ite_n hp1 F
      have hq1 := dec_f hp1
      refine CW.condF rfl hq1 ?_
      refine CW.exit (jK38 _ _ ⟨_, ?_, ⟨t3_2, F, rfl, H⟩⟩)
      exact ⟨rfl, rfl, trivial⟩
set_option maxRecDepth 20000 in
set_option maxHeartbeats 1000000 in
theorem ref07_table_ok {a0 : Trade} {a1 : List (List Int)} {a2 : Int} {A_a0_supply : Option Addr} {c_a0_supply : Nat} {A_a0_demand : Option Addr} {c_a0_demand : Nat} {A_a0_cost : Option Addr} {c_a0_cost : Nat} {A_a1 : Option Addr} {c_a1 : Nat} {w : World} {res : Bool} (h_a0_supply : Sl w A_a0_supply c_a0_supply 1 (a0.supply.map encN)) (h_a0_demand : Sl w A_a0_demand c_a0_demand 1 (a0.demand.map encN)) (h_a0_cost : Sl2 w A_a0_cost c_a0_cost 1 encN a0.cost) (h_a1 : Sl2 w A_a1 c_a1 1 encN a1) (F : ref07_table a0 a1 a2 = some res) : Calls Try.prog 78 #[.agg #[.slice A_a0_supply a0.supply.length c_a0_supply, .slice A_a0_demand a0.demand.length c_a0_demand, .slice A_a0_cost a0.cost.length c_a0_cost], .slice A_a1 a1.length c_a1, .int .i64 a2] w (Rt w (.bool res)) := by
  refine calls_of_cw (args := [.agg #[.slice A_a0_supply a0.supply.length c_a0_supply, .slice A_a0_demand a0.demand.length c_a0_demand, .slice A_a0_cost a0.cost.length c_a0_cost], .slice A_a1 a1.length c_a1, .int .i64 a2]) Try.func78 rfl rfl rfl rfl ?_
  have H := Hp.start w
  have R0 := H.ext
  unfold ref07_table at F
  refine CW.seq fun K1 hK1 => ?_
  refine CW.region ?_
  refine LW.go rfl rfl (OW.box rfl fun b1 w1 N1 => ?_)
  replace H := H.new N1 N1.blk
  replace R0 := H.ext
  refine LW.pure rfl rfl (RV.assign rfl) ?_
  refine LW.nil (hK1 _ _ ?_)
  refine CW.seq fun K2 hK2 => ?_
  refine CW.seq fun K3 hK3 => ?_
  refine CW.region ?_
  refine LW.pure rfl rfl (RV.move rfl) ?_
  refine LW.pure rfl rfl (RV.len Ts23 rfl) ?_
  refine LW.pure rfl rfl (RV.fieldAddr Tf25_0 rfl) ?_
  refine LW.pure rfl rfl (RV.load1 Tk22 rfl ((H.blk 0 rfl).cells.off 0) rfl) ?_
  refine LW.pure rfl rfl (RV.len Ts22 rfl) ?_
  refine LW.pure rfl rfl (RV.nei rfl rfl) ?_
  refine LW.nil (hK3 _ _ ?_)
  by_cases hp1 : ((a1.length : Int)) = ((a0.supply.length : Int))
  ·
    replace F := ite_y hp1 F
    have hq1 := dec_t hp1
    refine CW.condF rfl (not_f hq1) ?_
    refine CW.skip (hK2 _ _ ?_)
    refine CW.seqJ (fun ρ wl1 => (ref07_table_k1 = some res ∧ ρ = [(6, .bool false)] ∧ Hp w wl1 [])) ?_ ?_
    ·
      rintro _ wl1 ⟨F, rfl, H⟩
      have R0 := H.ext
      unfold ref07_table_k1 at F
      refine CW.seq fun K4 hK4 => ?_
      refine CW.region ?_
      refine LW.pure rfl rfl (RV.assign rfl) ?_
      refine LW.nil (hK4 _ _ ?_)
      refine CW.ret ?_
      obtain rfl := Option.some.inj F
      refine ⟨_, (ResOK.one rfl), ?_⟩
      refine ⟨(by first | rfl | simp), R0⟩
    ·
      intro K5 hK5 jK383
      refine CW.seq fun K6 hK6 => ?_
      refine CW.region ?_
      refine LW.pure rfl rfl (RV.assign rfl) ?_
      refine LW.nil (hK6 _ _ ?_)
      refine CW.block ?_
      refine CW.loop (fun meas ρ wl2 => ∃ (t7_1 : Int), ref07_table_L2 a0 a1 a2 meas t7_1 = some res ∧ ρ = [(1, .slice A_a1 a1.length c_a1), (2, .int .i64 a2), (3, .pointer (some (⟨b1, 0, none⟩))), (6, .bool false), (7, .int .i64 t7_1)] ∧ Hp w wl2 [.blk b1 25 [.slice A_a0_supply a0.supply.length c_a0_supply, .slice A_a0_demand a0.demand.length c_a0_demand, .slice A_a0_cost a0.cost.length c_a0_cost]]) FU ⟨_, ?_, ((0 : Int)), F, rfl, H⟩ ?_
      · exact ⟨rfl, rfl, rfl, rfl, rfl, trivial⟩
      rintro mk1 _ wl2 ⟨t7_1, F, rfl, H⟩
      have R0 := H.ext
      replace F := ref07_table_L2_s F
      obtain ⟨mk1, rfl, F⟩ := F
      generalize hrec1 : ref07_table_L2 a0 a1 a2 mk1 = rec1 at F
      unfold ref07_table_B2 at F
      refine CW.seq fun K7 hK7 => ?_
      refine CW.seq fun K8 hK8 => ?_
      refine CW.region ?_
      refine LW.pure rfl rfl (RV.move rfl) ?_
      refine LW.pure rfl rfl (RV.move rfl) ?_
      refine LW.pure rfl rfl (RV.len Ts23 rfl) ?_
      refine LW.pure rfl rfl (RV.lss rfl rfl) ?_
      refine LW.nil (hK8 _ _ ?_)
      by_cases hp2 : t7_1 < ((a1.length : Int))
      ·
        replace F := ite_y hp2 F
        have hq2 := dec_t hp2
        refine CW.condT rfl hq2 ?_
        refine CW.skip (hK7 _ _ ?_)
        refine CW.seqJ (fun ρ wl3 => (ref07_table_k2 t7_1 rec1 = some res ∧ ρ = [(1, .slice A_a1 a1.length c_a1), (2, .int .i64 a2), (3, .pointer (some (⟨b1, 0, none⟩))), (6, .bool false), (7, .int .i64 t7_1)] ∧ Hp w wl3 [.blk b1 25 [.slice A_a0_supply a0.supply.length c_a0_supply, .slice A_a0_demand a0.demand.length c_a0_demand, .slice A_a0_cost a0.cost.length c_a0_cost]])) ?_ ?_
        ·
          rintro _ wl3 ⟨F, rfl, H⟩
          have R0 := H.ext
          unfold ref07_table_k2 at F
          obtain ⟨hg1, F⟩ := gd_some F
          refine CW.region ?_
          refine LW.pure rfl rfl (RV.move rfl) ?_
          refine LW.pure rfl rfl (RV.add rfl rfl hg1) ?_
          refine LW.pure rfl rfl (RV.assign rfl) ?_
          refine LW.nil ?_
          subst hrec1
          refine ⟨mk1, Nat.lt_succ_self _, _, ?_, (t7_1 + 1), F, rfl, H⟩
          exact ⟨rfl, rfl, rfl, rfl, rfl, trivial⟩
        ·
          intro K9 hK9 jK488
          refine CW.block ?_
          refine CW.seq fun K10 hK10 => ?_
          refine CW.seq fun K11 hK11 => ?_
          obtain ⟨x4, hbx4, hx4, F⟩ := ix_some F
          refine CW.draw [] (fun _ => True) (.cons 0 1 (.cons 1 1 (.cons 2 1 (.cons 3 1 (.cons 4 1 (.cons 5 1 (.cons 6 1 (.cons 7 1 (.cons 8 1 .nil))))))))) mixed (by kernel_rfl) fun w2 E1 => ?_
          replace H := H.grow E1
          replace R0 := H.ext
          refine DW.fix rfl rfl rfl (fun _ EQ => RV.move rfl) ?_
          refine DW.fix rfl rfl rfl (fun _ EQ => RV.move rfl) ?_
          obtain ⟨A1, c1, hC1, hS1⟩ := h_a1.at_ hx4
          refine DW.fix rfl rfl rfl (fun _ EQ => RV.indexAddr Ts23 rfl rfl hbx4 (h_a1.addr hbx4)) ?_
          refine DW.fix rfl rfl rfl (fun _ EQ => RV.load1 Tk22 rfl (hC1.ext (R0.trans EQ)) rfl) ?_
          refine DW.fix rfl rfl rfl (fun _ EQ => RV.len Ts22 rfl) ?_
          refine DW.fix rfl rfl rfl (fun _ EQ => RV.fieldAddr Tf25_1 rfl) ?_
          refine DW.fix rfl rfl rfl (fun _ EQ => RV.load1 Tk22 rfl (((H.grow EQ).blk 0 rfl).cells.off 1) rfl) ?_
          refine DW.fix rfl rfl rfl (fun _ EQ => RV.len Ts22 rfl) ?_
          refine DW.fix rfl rfl rfl (fun _ EQ => RV.nei rfl rfl) ?_
          refine DW.nil (hK11 _ _ ?_)
          by_cases hp3 : ((x4.length : Int)) = ((a0.demand.length : Int))
          ·
            replace F := ite_y hp3 F
            have hq3 := dec_t hp3
            refine CW.condF rfl (not_f hq3) ?_
            refine CW.skip (hK10 _ _ ?_)
            refine CW.seq fun K12 hK12 => ?_
            refine CW.region ?_
            refine LW.pure rfl rfl (RV.assign rfl) ?_
            refine LW.nil (hK12 _ _ ?_)
            refine CW.block ?_
            refine CW.loop (fun meas ρ wl4 => ∃ (t8_1 : Int), ref07_table_L1 a1 a2 t7_1 rec1 meas t8_1 = some res ∧ ρ = [(1, .slice A_a1 a1.length c_a1), (2, .int .i64 a2), (3, .pointer (some (⟨b1, 0, none⟩))), (6, .bool false), (7, .int .i64 t7_1), (8, .int .i64 t8_1)] ∧ Hp w wl4 [.blk b1 25 [.slice A_a0_supply a0.supply.length c_a0_supply, .slice A_a0_demand a0.demand.length c_a0_demand, .slice A_a0_cost a0.cost.length c_a0_cost]]) FU ⟨_, ?_, ((0 : Int)), F, rfl, H⟩ ?_
            · exact ⟨rfl, rfl, rfl, rfl, rfl, rfl, trivial⟩
            rintro mk2 _ wl4 ⟨t8_1, F, rfl, H⟩
            have R0 := H.ext
            replace F := ref07_table_L1_s F
            obtain ⟨mk2, rfl, F⟩ := F
            generalize hrec2 : ref07_table_L1 a1 a2 t7_1 rec1 mk2 = rec2 at F
            unfold ref07_table_B1 at F
            refine CW.seq fun K13 hK13 => ?_
            refine CW.seq fun K14 hK14 => ?_
            obtain ⟨x1, hbx1, hx1, F⟩ := ix_some F
            refine CW.region ?_
            refine LW.pure rfl rfl (RV.move rfl) ?_
            refine LW.pure rfl rfl (RV.move rfl) ?_
            refine LW.pure rfl rfl (RV.move rfl) ?_
            obtain ⟨A2, c2, hC2, hS2⟩ := h_a1.at_ hx1
            refine LW.pure rfl rfl (RV.indexAddr Ts23 rfl rfl hbx1 (h_a1.addr hbx1)) ?_
            refine LW.pure rfl rfl (RV.load1 Tk22 rfl (hC2.ext R0) rfl) ?_
            refine LW.pure rfl rfl (RV.len Ts22 rfl) ?_
            refine LW.pure rfl rfl (RV.lss rfl rfl) ?_
            refine LW.nil (hK14 _ _ ?_)
            by_cases hp4 : t8_1 < ((x1.length : Int))
            ·
              replace F := ite_y hp4 F
              have hq4 := dec_t hp4
              refine CW.condT rfl hq4 ?_
              refine CW.skip (hK13 _ _ ?_)
              refine CW.seq fun K15 hK15 => ?_
              refine CW.block ?_
              refine CW.seq fun K16 hK16 => ?_
              obtain ⟨x2, hbx2, hx2, F⟩ := ix_some F
              obtain ⟨x3, hbx3, hx3, F⟩ := ix_some F
              obtain ⟨r1, hr1, F⟩ := bnd_some F
              refine CW.region ?_
              refine LW.pure rfl rfl (RV.move rfl) ?_
              refine LW.pure rfl rfl (RV.move rfl) ?_
              obtain ⟨A3, c3, hC3, hS3⟩ := h_a1.at_ hx2
              refine LW.pure rfl rfl (RV.indexAddr Ts23 rfl rfl hbx2 (h_a1.addr hbx2)) ?_
              refine LW.pure rfl rfl (RV.load1 Tk22 rfl (hC3.ext R0) rfl) ?_
              refine LW.pure rfl rfl (RV.move rfl) ?_
              refine LW.pure rfl rfl (RV.indexAddr Ts22 rfl rfl hbx3 (hS3.addr_ hx3)) ?_
              refine LW.pure rfl rfl (RV.load1 Tk3 rfl ((hS3.at_ hx3).ext R0) rfl) ?_
              refine LW.pure rfl rfl (RV.move rfl) ?_
              refine LW.go rfl rfl (OW.call Tc58 rfl (ref07_within_ok (a0 := x3) (a1 := (0 : Int)) (a2 := a2) hr1) ?_)
              rintro _ w3 ⟨rfl, E2⟩
              refine ⟨_, rfl, ?_⟩
              replace H := H.grow E2
              replace R0 := H.ext
              refine LW.pure rfl rfl (RV.not rfl) ?_
              refine LW.nil (hK16 _ _ ?_)
              by_cases hp5 : r1 = true
              ·
                replace F := ite_y hp5 F
                have hq5 : r1 = true := hp5
                refine CW.condF rfl (not_f hq5) ?_
                refine CW.skip (hK15 _ _ ?_)
                obtain ⟨hg2, F⟩ := gd_some F
                refine CW.region ?_
                refine LW.pure rfl rfl (RV.move rfl) ?_
                refine LW.pure rfl rfl (RV.add rfl rfl hg2) ?_
                refine LW.pure rfl rfl (RV.assign rfl) ?_
                refine LW.nil ?_
                subst hrec2
                refine ⟨mk2, Nat.lt_succ_self _, _, ?_, (t8_1 + 1), F, rfl, H⟩
                exact ⟨rfl, rfl, rfl, rfl, rfl, rfl, trivial⟩
              ·
                replace F := ite_n hp5 F
                have hq5 : r1 = false := raw_f hp5
                refine CW.condT rfl (not_t hq5) ?_
                refine CW.seq fun K17 hK17 => ?_
                refine CW.region ?_
                refine LW.pure rfl rfl (RV.assign rfl) ?_
                refine LW.nil (hK17 _ _ ?_)
                refine CW.ret ?_
                obtain rfl := Option.some.inj F
                refine ⟨_, (ResOK.one rfl), ?_⟩
                refine ⟨(by first | rfl | simp), R0⟩
            ·
              replace F := ite_n hp4 F
              have hq4 := dec_f hp4
              refine CW.condF rfl hq4 ?_
              refine CW.exit (jK488 _ _ ⟨_, ?_, ⟨F, rfl, H⟩⟩)
              exact ⟨rfl, rfl, rfl, rfl, rfl, trivial⟩
          ·
            replace F := ite_n hp3 F
            have hq3 := dec_f hp3
            refine CW.condT rfl (not_t hq3) ?_
            refine CW.seq fun K18 hK18 => ?_
            refine CW.region ?_
            refine LW.pure rfl rfl (RV.assign rfl) ?_
            refine LW.nil (hK18 _ _ ?_)
            refine CW.ret ?_
            obtain rfl := Option.some.inj F
            refine ⟨_, (ResOK.one rfl), ?_⟩
            refine ⟨(by first | rfl | simp), R0⟩
      ·
        replace F := ite_n hp2 F
        have hq2 := dec_f hp2
        refine CW.condF rfl hq2 ?_
        replace H := H.pick (L' := []) [] (by decide) rfl
        replace R0 := H.ext
        refine CW.exit (jK383 _ _ ⟨_, ?_, ⟨F, rfl, H⟩⟩)
        exact ⟨rfl, trivial⟩
  ·
    replace F := ite_n hp1 F
    have hq1 := dec_f hp1
    refine CW.condT rfl (not_t hq1) ?_
    refine CW.seq fun K19 hK19 => ?_
    refine CW.region ?_
    refine LW.pure rfl rfl (RV.assign rfl) ?_
    refine LW.nil (hK19 _ _ ?_)
    refine CW.ret ?_
    obtain rfl := Option.some.inj F
    refine ⟨_, (ResOK.one rfl), ?_⟩
    refine ⟨(by first | rfl | simp), R0⟩
set_option maxRecDepth 20000 in
set_option maxHeartbeats 1000000 in
theorem ref07_Validate_ok {a0 : Trade} {A_a0_supply : Option Addr} {c_a0_supply : Nat} {A_a0_demand : Option Addr} {c_a0_demand : Nat} {A_a0_cost : Option Addr} {c_a0_cost : Nat} {w : World} {res : Int} (h_a0_supply : Sl w A_a0_supply c_a0_supply 1 (a0.supply.map encN)) (h_a0_demand : Sl w A_a0_demand c_a0_demand 1 (a0.demand.map encN)) (h_a0_cost : Sl2 w A_a0_cost c_a0_cost 1 encN a0.cost) (F : ref07_Validate a0 = some res) : Calls Try.prog 39 #[.agg #[.slice A_a0_supply a0.supply.length c_a0_supply, .slice A_a0_demand a0.demand.length c_a0_demand, .slice A_a0_cost a0.cost.length c_a0_cost]] w (Rt w (.int .i64 res)) := by
  refine calls_of_cw (args := [.agg #[.slice A_a0_supply a0.supply.length c_a0_supply, .slice A_a0_demand a0.demand.length c_a0_demand, .slice A_a0_cost a0.cost.length c_a0_cost]]) Try.func39 rfl rfl rfl rfl ?_
  have H := Hp.start w
  have R0 := H.ext
  unfold ref07_Validate at F
  refine CW.seq fun K1 hK1 => ?_
  refine CW.region ?_
  refine LW.go rfl rfl (OW.box rfl fun b1 w1 N1 => ?_)
  replace H := H.new N1 N1.blk
  replace R0 := H.ext
  refine LW.pure rfl rfl (RV.assign rfl) ?_
  refine LW.nil (hK1 _ _ ?_)
  refine CW.seq fun K2 hK2 => ?_
  refine CW.seqJ (fun ρ wl1 => (∃ (t28_1 : Bool), ref07_Validate_k1 t28_1 = some res ∧ ρ = [(2, .int .i64 0), (28, .bool t28_1)] ∧ Hp w wl1 [])) ?_ ?_
  ·
    rintro _ wl1 ⟨t28_1, F, rfl, H⟩
    have R0 := H.ext
    unfold ref07_Validate_k1 at F
    by_cases hp1 : t28_1 = true
    ·
      replace F := ite_y hp1 F
      have hq1 : t28_1 = true := hp1
      refine CW.condT rfl hq1 ?_
      refine CW.seq fun K3 hK3 => ?_
      refine CW.region ?_
      refine LW.pure rfl rfl (RV.assign rfl) ?_
      refine LW.nil (hK3 _ _ ?_)
      refine CW.ret ?_
      obtain rfl := Option.some.inj F
      refine ⟨_, (ResOK.one rfl), ?_⟩
      refine ⟨(by first | rfl | simp), R0⟩
    ·
      replace F := ite_n hp1 F
      have hq1 : t28_1 = false := raw_f hp1
      refine CW.condF rfl hq1 ?_
      refine CW.skip (hK2 _ _ ?_)
      refine CW.seq fun K4 hK4 => ?_
      refine CW.region ?_
      refine LW.pure rfl rfl (RV.assign rfl) ?_
      refine LW.nil (hK4 _ _ ?_)
      refine CW.ret ?_
      obtain rfl := Option.some.inj F
      refine ⟨_, (ResOK.one rfl), ?_⟩
      refine ⟨(by first | rfl | simp), R0⟩
  ·
    intro K5 hK5 jK10
    obtain ⟨r1, hr1, F⟩ := bnd_some F
    by_cases hp2 : r1 = true
    ·
      replace F := ite_y hp2 F
      have hq2 : r1 = true := hp2
      obtain ⟨r2, hr2, F⟩ := bnd_some F
      by_cases hp3 : r2 = true
      ·
        replace F := ite_y hp3 F
        have hq3 : r2 = true := hp3
        obtain ⟨r3, hr3, F⟩ := bnd_some F
        obtain ⟨r4, hr4, F⟩ := bnd_some F
        by_cases hp4 : r3 = r4
        ·
          replace F := ite_y hp4 F
          have hq4 := dec_t hp4
          obtain ⟨r5, hr5, F⟩ := bnd_some F
          refine CW.draw [] (fun _ => True) (.cons 0 1 (.cons 1 1 (.cons 2 0 (.cons 3 1 (.cons 4 1 (.cons 5 1 (.cons 6 1 (.cons 7 0 (.cons 8 1 (.cons 9 1 (.cons 10 1 (.cons 11 1 (.cons 12 1 (.cons 14 1 (.cons 15 1 (.cons 13 0 (.cons 16 0 (.cons 17 1 (.cons 18 1 (.cons 19 1 (.cons 20 1 (.cons 21 1 (.cons 22 1 (.cons 23 0 (.cons 24 1 (.cons 25 1 .nil)))))))))))))))))))))))))) mixed (by kernel_rfl) fun w2 E1 => ?_
          replace H := H.grow E1
          replace R0 := H.ext
          refine DW.fix rfl rfl rfl (fun _ EQ => RV.fieldAddr Tf25_0 rfl) ?_
          refine DW.fix rfl rfl rfl (fun _ EQ => RV.load1 Tk22 rfl (((H.grow EQ).blk 0 rfl).cells.off 0) rfl) ?_
          refine DW.sole rfl rfl rfl (OW.call Tc76 rfl (ref07_amounts_ok (a0 := a0.supply) (h_a0_supply.ext R0) hr1) ?_)
          rintro _ w3 ⟨rfl, E2⟩
          refine ⟨_, rfl, fun _ => E2, ModX.ext E2, ?_⟩
          replace H := H.grow E2
          replace R0 := H.ext
          refine DW.fix rfl rfl rfl (fun _ EQ => RV.not rfl) ?_
          refine DW.fix rfl rfl rfl (fun _ EQ => RV.move rfl) ?_
          refine DW.fixYB rfl rfl rfl rfl rfl (not_f hq2) (fun _ EQ => RV.fieldAddr Tf25_1 rfl) ?_
          refine DW.fixYB rfl rfl rfl rfl rfl (not_f hq2) (fun _ EQ => RV.load1 Tk22 rfl (((H.grow EQ).blk 0 rfl).cells.off 1) rfl) ?_
          refine DW.soleYB rfl rfl rfl rfl rfl (not_f hq2) (OW.call Tc76 rfl (ref07_amounts_ok (a0 := a0.demand) (h_a0_demand.ext R0) hr2) ?_)
          rintro _ w4 ⟨rfl, E3⟩
          refine ⟨_, rfl, fun _ => E3, ModX.ext E3, ?_⟩
          replace H := H.grow E3
          replace R0 := H.ext
          refine DW.fixYB rfl rfl rfl rfl rfl (not_f hq2) (fun _ EQ => RV.not rfl) ?_
          refine DW.fix rfl rfl rfl (fun _ EQ => RV.pickFB rfl (not_f hq2) rfl) ?_
          refine DW.fix rfl rfl rfl (fun _ EQ => RV.move rfl) ?_
          refine DW.fixYB rfl rfl rfl rfl rfl (not_f hq3) (fun _ EQ => RV.fieldAddr Tf25_0 rfl) ?_
          refine DW.fixYB rfl rfl rfl rfl rfl (not_f hq3) (fun _ EQ => RV.load1 Tk22 rfl (((H.grow EQ).blk 0 rfl).cells.off 0) rfl) ?_
          refine DW.fixYB rfl rfl rfl rfl rfl (not_f hq3) (fun _ EQ => RV.fieldAddr Tf25_1 rfl) ?_
          refine DW.fixYB rfl rfl rfl rfl rfl (not_f hq3) (fun _ EQ => RV.load1 Tk22 rfl (((H.grow EQ).blk 0 rfl).cells.off 1) rfl) ?_
          refine DW.soleYB rfl rfl rfl rfl rfl (not_f hq3) (OW.call Tc77 rfl (ref07_sum_ok (a0 := a0.supply) (h_a0_supply.ext R0) hr3) ?_)
          rintro _ w5 ⟨rfl, E4⟩
          refine ⟨_, rfl, fun _ => E4, ModX.ext E4, ?_⟩
          replace H := H.grow E4
          replace R0 := H.ext
          refine DW.soleYB rfl rfl rfl rfl rfl (not_f hq3) (OW.call Tc77 rfl (ref07_sum_ok (a0 := a0.demand) (h_a0_demand.ext R0) hr4) ?_)
          rintro _ w6 ⟨rfl, E5⟩
          refine ⟨_, rfl, fun _ => E5, ModX.ext E5, ?_⟩
          replace H := H.grow E5
          replace R0 := H.ext
          refine DW.fixYB rfl rfl rfl rfl rfl (not_f hq3) (fun _ EQ => RV.nei rfl rfl) ?_
          refine DW.fix rfl rfl rfl (fun _ EQ => RV.pickFB rfl (not_f hq3) rfl) ?_
          refine DW.fix rfl rfl rfl (fun _ EQ => RV.move rfl) ?_
          refine DW.fixYB rfl rfl rfl rfl rfl (not_f hq4) (fun _ EQ => RV.loadA [.slice A_a0_supply a0.supply.length c_a0_supply, .slice A_a0_demand a0.demand.length c_a0_demand, .slice A_a0_cost a0.cost.length c_a0_cost] Tk25 rfl ((H.grow EQ).blk 0 rfl).cells rfl rfl) ?_
          refine DW.fixYB rfl rfl rfl rfl rfl (not_f hq4) (fun _ EQ => RV.fieldAddr Tf25_2 rfl) ?_
          refine DW.fixYB rfl rfl rfl rfl rfl (not_f hq4) (fun _ EQ => RV.load1 Tk23 rfl (((H.grow EQ).blk 0 rfl).cells.off 2) rfl) ?_
          refine DW.soleYB rfl rfl rfl rfl rfl (not_f hq4) (OW.call Tc78 rfl (ref07_table_ok (a0 := a0) (a1 := a0.cost) (a2 := (99 : Int)) (h_a0_supply.ext R0) (h_a0_demand.ext R0) (h_a0_cost.ext R0) (h_a0_cost.ext R0) hr5) ?_)
          rintro _ w7 ⟨rfl, E6⟩
          refine ⟨_, rfl, fun _ => E6, ModX.ext E6, ?_⟩
          replace H := H.grow E6
          replace R0 := H.ext
          refine DW.fixYB rfl rfl rfl rfl rfl (not_f hq4) (fun _ EQ => RV.not rfl) ?_
          refine DW.fix rfl rfl rfl (fun _ EQ => RV.pickFB rfl (not_f hq4) rfl) ?_
          replace H := H.pick (L' := []) [] (by decide) rfl
          replace R0 := H.ext
          refine DW.nil (jK10 _ _ ⟨_, ?_, ⟨(!r5), F, rfl, H⟩⟩)
          exact ⟨rfl, rfl, trivial⟩
        ·
          replace F := ite_n hp4 F
          have hq4 := dec_f hp4
          refine CW.draw [] (fun _ => True) (.cons 0 1 (.cons 1 1 (.cons 2 0 (.cons 3 1 (.cons 4 1 (.cons 5 1 (.cons 6 1 (.cons 7 0 (.cons 8 1 (.cons 9 1 (.cons 10 1 (.cons 11 1 (.cons 12 1 (.cons 14 1 (.cons 15 1 (.cons 13 0 (.cons 16 0 (.cons 17 1 (.cons 18 1 (.cons 19 1 (.cons 20 1 (.cons 21 1 (.cons 22 1 (.cons 23 0 (.cons 24 1 (.cons 25 1 .nil)))))))))))))))))))))))))) mixed (by kernel_rfl) fun w8 E7 => ?_
          replace H := H.grow E7
          replace R0 := H.ext
          refine DW.fix rfl rfl rfl (fun _ EQ => RV.fieldAddr Tf25_0 rfl) ?_
          refine DW.fix rfl rfl rfl (fun _ EQ => RV.load1 Tk22 rfl (((H.grow EQ).blk 0 rfl).cells.off 0) rfl) ?_
          refine DW.sole rfl rfl rfl (OW.call Tc76 rfl (ref07_amounts_ok (a0 := a0.supply) (h_a0_supply.ext R0) hr1) ?_)
          rintro _ w9 ⟨rfl, E8⟩
          refine ⟨_, rfl, fun _ => E8, ModX.ext E8, ?_⟩
          replace H := H.grow E8
          replace R0 := H.ext
          refine DW.fix rfl rfl rfl (fun _ EQ => RV.not rfl) ?_
          refine DW.fix rfl rfl rfl (fun _ EQ => RV.move rfl) ?_
          refine DW.fixYB rfl rfl rfl rfl rfl (not_f hq2) (fun _ EQ => RV.fieldAddr Tf25_1 rfl) ?_
          refine DW.fixYB rfl rfl rfl rfl rfl (not_f hq2) (fun _ EQ => RV.load1 Tk22 rfl (((H.grow EQ).blk 0 rfl).cells.off 1) rfl) ?_
          refine DW.soleYB rfl rfl rfl rfl rfl (not_f hq2) (OW.call Tc76 rfl (ref07_amounts_ok (a0 := a0.demand) (h_a0_demand.ext R0) hr2) ?_)
          rintro _ w10 ⟨rfl, E9⟩
          refine ⟨_, rfl, fun _ => E9, ModX.ext E9, ?_⟩
          replace H := H.grow E9
          replace R0 := H.ext
          refine DW.fixYB rfl rfl rfl rfl rfl (not_f hq2) (fun _ EQ => RV.not rfl) ?_
          refine DW.fix rfl rfl rfl (fun _ EQ => RV.pickFB rfl (not_f hq2) rfl) ?_
          refine DW.fix rfl rfl rfl (fun _ EQ => RV.move rfl) ?_
          refine DW.fixYB rfl rfl rfl rfl rfl (not_f hq3) (fun _ EQ => RV.fieldAddr Tf25_0 rfl) ?_
          refine DW.fixYB rfl rfl rfl rfl rfl (not_f hq3) (fun _ EQ => RV.load1 Tk22 rfl (((H.grow EQ).blk 0 rfl).cells.off 0) rfl) ?_
          refine DW.fixYB rfl rfl rfl rfl rfl (not_f hq3) (fun _ EQ => RV.fieldAddr Tf25_1 rfl) ?_
          refine DW.fixYB rfl rfl rfl rfl rfl (not_f hq3) (fun _ EQ => RV.load1 Tk22 rfl (((H.grow EQ).blk 0 rfl).cells.off 1) rfl) ?_
          refine DW.soleYB rfl rfl rfl rfl rfl (not_f hq3) (OW.call Tc77 rfl (ref07_sum_ok (a0 := a0.supply) (h_a0_supply.ext R0) hr3) ?_)
          rintro _ w11 ⟨rfl, E10⟩
          refine ⟨_, rfl, fun _ => E10, ModX.ext E10, ?_⟩
          replace H := H.grow E10
          replace R0 := H.ext
          refine DW.soleYB rfl rfl rfl rfl rfl (not_f hq3) (OW.call Tc77 rfl (ref07_sum_ok (a0 := a0.demand) (h_a0_demand.ext R0) hr4) ?_)
          rintro _ w12 ⟨rfl, E11⟩
          refine ⟨_, rfl, fun _ => E11, ModX.ext E11, ?_⟩
          replace H := H.grow E11
          replace R0 := H.ext
          refine DW.fixYB rfl rfl rfl rfl rfl (not_f hq3) (fun _ EQ => RV.nei rfl rfl) ?_
          refine DW.fix rfl rfl rfl (fun _ EQ => RV.pickFB rfl (not_f hq3) rfl) ?_
          refine DW.fix rfl rfl rfl (fun _ EQ => RV.move rfl) ?_
          refine DW.fixNB rfl rfl rfl rfl rfl (ne_beq (v := true) (not_t hq4) rfl) ?_
          refine DW.fixNB rfl rfl rfl rfl rfl (ne_beq (v := true) (not_t hq4) rfl) ?_
          refine DW.fixNB rfl rfl rfl rfl rfl (ne_beq (v := true) (not_t hq4) rfl) ?_
          refine DW.soleNB rfl rfl rfl rfl rfl (ne_beq (v := true) (not_t hq4) rfl) ?_
          refine DW.fixNB rfl rfl rfl rfl rfl (ne_beq (v := true) (not_t hq4) rfl) ?_
          refine DW.fix rfl rfl rfl (fun _ EQ => RV.pickTB rfl (not_t hq4) rfl) ?_
          replace H := H.pick (L' := []) [] (by decide) rfl
          replace R0 := H.ext
          refine DW.nil (jK10 _ _ ⟨_, ?_, ⟨true, F, rfl, H⟩⟩)
          exact ⟨rfl, rfl, trivial⟩
      ·
        replace F := ite_n hp3 F
        have hq3 : r2 = false := raw_f hp3
        refine CW.draw [] (fun _ => True) (.cons 0 1 (.cons 1 1 (.cons 2 0 (.cons 3 1 (.cons 4 1 (.cons 5 1 (.cons 6 1 (.cons 7 0 (.cons 8 1 (.cons 9 1 (.cons 10 1 (.cons 11 1 (.cons 12 1 (.cons 14 1 (.cons 15 1 (.cons 13 0 (.cons 16 0 (.cons 17 1 (.cons 18 1 (.cons 19 1 (.cons 20 1 (.cons 21 1 (.cons 22 1 (.cons 23 0 (.cons 24 1 (.cons 25 1 .nil)))))))))))))))))))))))))) mixed (by kernel_rfl) fun w13 E12 => ?_
        replace H := H.grow E12
        replace R0 := H.ext
        refine DW.fix rfl rfl rfl (fun _ EQ => RV.fieldAddr Tf25_0 rfl) ?_
        refine DW.fix rfl rfl rfl (fun _ EQ => RV.load1 Tk22 rfl (((H.grow EQ).blk 0 rfl).cells.off 0) rfl) ?_
        refine DW.sole rfl rfl rfl (OW.call Tc76 rfl (ref07_amounts_ok (a0 := a0.supply) (h_a0_supply.ext R0) hr1) ?_)
        rintro _ w14 ⟨rfl, E13⟩
        refine ⟨_, rfl, fun _ => E13, ModX.ext E13, ?_⟩
        replace H := H.grow E13
        replace R0 := H.ext
        refine DW.fix rfl rfl rfl (fun _ EQ => RV.not rfl) ?_
        refine DW.fix rfl rfl rfl (fun _ EQ => RV.move rfl) ?_
        refine DW.fixYB rfl rfl rfl rfl rfl (not_f hq2) (fun _ EQ => RV.fieldAddr Tf25_1 rfl) ?_
        refine DW.fixYB rfl rfl rfl rfl rfl (not_f hq2) (fun _ EQ => RV.load1 Tk22 rfl (((H.grow EQ).blk 0 rfl).cells.off 1) rfl) ?_
        refine DW.soleYB rfl rfl rfl rfl rfl (not_f hq2) (OW.call Tc76 rfl (ref07_amounts_ok (a0 := a0.demand) (h_a0_demand.ext R0) hr2) ?_)
        rintro _ w15 ⟨rfl, E14⟩
        refine ⟨_, rfl, fun _ => E14, ModX.ext E14, ?_⟩
        replace H := H.grow E14
        replace R0 := H.ext
        refine DW.fixYB rfl rfl rfl rfl rfl (not_f hq2) (fun _ EQ => RV.not rfl) ?_
        refine DW.fix rfl rfl rfl (fun _ EQ => RV.pickFB rfl (not_f hq2) rfl) ?_
        refine DW.fix rfl rfl rfl (fun _ EQ => RV.move rfl) ?_
        refine DW.fixNB rfl rfl rfl rfl rfl (ne_beq (v := true) (not_t hq3) rfl) ?_
        refine DW.fixNB rfl rfl rfl rfl rfl (ne_beq (v := true) (not_t hq3) rfl) ?_
        refine DW.fixNB rfl rfl rfl rfl rfl (ne_beq (v := true) (not_t hq3) rfl) ?_
        refine DW.fixNB rfl rfl rfl rfl rfl (ne_beq (v := true) (not_t hq3) rfl) ?_
        refine DW.soleNB rfl rfl rfl rfl rfl (ne_beq (v := true) (not_t hq3) rfl) ?_
        refine DW.soleNB rfl rfl rfl rfl rfl (ne_beq (v := true) (not_t hq3) rfl) ?_
        refine DW.fixNB rfl rfl rfl rfl rfl (ne_beq (v := true) (not_t hq3) rfl) ?_
        refine DW.fix rfl rfl rfl (fun _ EQ => RV.pickTB rfl (not_t hq3) rfl) ?_
        refine DW.fix rfl rfl rfl (fun _ EQ => RV.move rfl) ?_
        refine DW.fixNB rfl rfl rfl rfl rfl (ne_beq (v := true) rfl rfl) ?_
        refine DW.fixNB rfl rfl rfl rfl rfl (ne_beq (v := true) rfl rfl) ?_
        refine DW.fixNB rfl rfl rfl rfl rfl (ne_beq (v := true) rfl rfl) ?_
        refine DW.soleNB rfl rfl rfl rfl rfl (ne_beq (v := true) rfl rfl) ?_
        refine DW.fixNB rfl rfl rfl rfl rfl (ne_beq (v := true) rfl rfl) ?_
        refine DW.fix rfl rfl rfl (fun _ EQ => RV.pickTB rfl rfl rfl) ?_
        replace H := H.pick (L' := []) [] (by decide) rfl
        replace R0 := H.ext
        refine DW.nil (jK10 _ _ ⟨_, ?_, ⟨true, F, rfl, H⟩⟩)
        exact ⟨rfl, rfl, trivial⟩
    ·
      replace F := ite_n hp2 F
      have hq2 : r1 = false := raw_f hp2
      refine CW.draw [] (fun _ => True) (.cons 0 1 (.cons 1 1 (.cons 2 0 (.cons 3 1 (.cons 4 1 (.cons 5 1 (.cons 6 1 (.cons 7 0 (.cons 8 1 (.cons 9 1 (.cons 10 1 (.cons 11 1 (.cons 12 1 (.cons 14 1 (.cons 15 1 (.cons 13 0 (.cons 16 0 (.cons 17 1 (.cons 18 1 (.cons 19 1 (.cons 20 1 (.cons 21 1 (.cons 22 1 (.cons 23 0 (.cons 24 1 (.cons 25 1 .nil)))))))))))))))))))))))))) mixed (by kernel_rfl) fun w16 E15 => ?_
      replace H := H.grow E15
      replace R0 := H.ext
      refine DW.fix rfl rfl rfl (fun _ EQ => RV.fieldAddr Tf25_0 rfl) ?_
      refine DW.fix rfl rfl rfl (fun _ EQ => RV.load1 Tk22 rfl (((H.grow EQ).blk 0 rfl).cells.off 0) rfl) ?_
      refine DW.sole rfl rfl rfl (OW.call Tc76 rfl (ref07_amounts_ok (a0 := a0.supply) (h_a0_supply.ext R0) hr1) ?_)
      rintro _ w17 ⟨rfl, E16⟩
      refine ⟨_, rfl, fun _ => E16, ModX.ext E16, ?_⟩
      replace H := H.grow E16
      replace R0 := H.ext
      refine DW.fix rfl rfl rfl (fun _ EQ => RV.not rfl) ?_
      refine DW.fix rfl rfl rfl (fun _ EQ => RV.move rfl) ?_
      refine DW.fixNB rfl rfl rfl rfl rfl (ne_beq (v := true) (not_t hq2) rfl) ?_
      refine DW.fixNB rfl rfl rfl rfl rfl (ne_beq (v := true) (not_t hq2) rfl) ?_
      refine DW.soleNB rfl rfl rfl rfl rfl (ne_beq (v := true) (not_t hq2) rfl) ?_
      refine DW.fixNB rfl rfl rfl rfl rfl (ne_beq (v := true) (not_t hq2) rfl) ?_
      refine DW.fix rfl rfl rfl (fun _ EQ => RV.pickTB rfl (not_t hq2) rfl) ?_
      refine DW.fix rfl rfl rfl (fun _ EQ => RV.move rfl) ?_
      refine DW.fixNB rfl rfl rfl rfl rfl (ne_beq (v := true) rfl rfl) ?_
      refine DW.fixNB rfl rfl rfl rfl rfl (ne_beq (v := true) rfl rfl) ?_
      refine DW.fixNB rfl rfl rfl rfl rfl (ne_beq (v := true) rfl rfl) ?_
      refine DW.fixNB rfl rfl rfl rfl rfl (ne_beq (v := true) rfl rfl) ?_
      refine DW.soleNB rfl rfl rfl rfl rfl (ne_beq (v := true) rfl rfl) ?_
      refine DW.soleNB rfl rfl rfl rfl rfl (ne_beq (v := true) rfl rfl) ?_
      refine DW.fixNB rfl rfl rfl rfl rfl (ne_beq (v := true) rfl rfl) ?_
      refine DW.fix rfl rfl rfl (fun _ EQ => RV.pickTB rfl rfl rfl) ?_
      refine DW.fix rfl rfl rfl (fun _ EQ => RV.move rfl) ?_
      refine DW.fixNB rfl rfl rfl rfl rfl (ne_beq (v := true) rfl rfl) ?_
      refine DW.fixNB rfl rfl rfl rfl rfl (ne_beq (v := true) rfl rfl) ?_
      refine DW.fixNB rfl rfl rfl rfl rfl (ne_beq (v := true) rfl rfl) ?_
      refine DW.soleNB rfl rfl rfl rfl rfl (ne_beq (v := true) rfl rfl) ?_
      refine DW.fixNB rfl rfl rfl rfl rfl (ne_beq (v := true) rfl rfl) ?_
      refine DW.fix rfl rfl rfl (fun _ EQ => RV.pickTB rfl rfl rfl) ?_
      replace H := H.pick (L' := []) [] (by decide) rfl
      replace R0 := H.ext
      refine DW.nil (jK10 _ _ ⟨_, ?_, ⟨true, F, rfl, H⟩⟩)
      exact ⟨rfl, rfl, trivial⟩
end Go.D7

set_option linter.unusedVariables false
set_option linter.unusedSimpArgs false
namespace Go.D7
open Go.Tb Go.Proofs Go.RowKit
theorem Tc17 : callable Try.prog 17 = true := by kernel_rfl
theorem Tc18 : callable Try.prog 18 = true := by kernel_rfl
end Go.D7

set_option linter.unusedVariables false
set_option linter.unusedSimpArgs false
namespace Go.D7
open Go.Tb Go.Proofs Go.RowKit
theorem Tc65 : callable Try.prog 65 = true := by kernel_rfl
set_option maxRecDepth 20000 in
set_option maxHeartbeats 1000000 in
theorem bulk_copied_ok {a0 : Trade} {A_a0_supply : Option Addr} {c_a0_supply : Nat} {A_a0_demand : Option Addr} {c_a0_demand : Nat} {A_a0_cost : Option Addr} {c_a0_cost : Nat} {w : World} {res : Trade} (h_a0_supply : Sl w A_a0_supply c_a0_supply 1 (a0.supply.map encN)) (h_a0_demand : Sl w A_a0_demand c_a0_demand 1 (a0.demand.map encN)) (h_a0_cost : Sl2 w A_a0_cost c_a0_cost 1 encN a0.cost) (F : bulk_copied a0 = some res) : Calls Try.prog 65 #[.agg #[.slice A_a0_supply a0.supply.length c_a0_supply, .slice A_a0_demand a0.demand.length c_a0_demand, .slice A_a0_cost a0.cost.length c_a0_cost]] w (fun e w' => ∃ (A0_supply : Option Addr) (c0_supply : Nat) (A0_demand : Option Addr) (c0_demand : Nat) (A0_cost : Option Addr) (c0_cost : Nat) (hs0_cost : List (Option Addr × Nat)), e = .returned (.agg #[.slice A0_supply res.supply.length c0_supply, .slice A0_demand res.demand.length c0_demand, .slice A0_cost res.cost.length c0_cost]) ∧ Hp w w' [.own A0_supply c0_supply 3 1 (List.map encN res.supply), .own A0_demand c0_demand 3 1 (List.map encN res.demand), .tab A0_cost c0_cost 22 hs0_cost 3 1 (encM encN res.cost)]) := by
  refine calls_of_cw (args := [.agg #[.slice A_a0_supply a0.supply.length c_a0_supply, .slice A_a0_demand a0.demand.length c_a0_demand, .slice A_a0_cost a0.cost.length c_a0_cost]]) Try.func65 rfl rfl rfl rfl ?_
  have H := Hp.start w
  have R0 := H.ext
  unfold bulk_copied at F
  refine CW.seq fun K1 hK1 => ?_
  refine CW.region ?_
  refine LW.go rfl rfl (OW.box rfl fun b1 w1 N1 => ?_)
  replace H := H.new N1 N1.blk
  replace R0 := H.ext
  refine LW.go rfl rfl (OW.alloc Tz25 fun b2 w2 N2 => ?_)
  replace H := H.new N2 N2.blk
  replace R0 := H.ext
  refine LW.nil (hK1 _ _ ?_)
  refine CW.seq fun K2 hK2 => ?_
  obtain ⟨r1, hr1, F⟩ := bnd_some F
  obtain ⟨r2, hr2, F⟩ := bnd_some F
  obtain ⟨r3, hr3, F⟩ := bnd_some F
  refine CW.draw [10] (fun _ => True) (.cons 0 1 (.cons 1 1 (.cons 3 1 (.cons 4 1 (.cons 6 1 (.cons 7 1 (.cons 2 0 (.cons 5 0 (.cons 8 0 (.cons 9 1 (.cons 10 0 .nil))))))))))) mixed (by kernel_rfl) fun w3 E1 => ?_
  replace H := H.grow E1
  replace R0 := H.ext
  refine DW.fix rfl rfl rfl (fun _ EQ => RV.fieldAddr Tf25_0 rfl) ?_
  refine DW.fix rfl rfl rfl (fun _ EQ => RV.load1 Tk22 rfl (((H.grow EQ).blk 1 rfl).cells.off 0) rfl) ?_
  refine DW.fix rfl rfl rfl (fun _ EQ => RV.fieldAddr Tf25_1 rfl) ?_
  refine DW.fix rfl rfl rfl (fun _ EQ => RV.load1 Tk22 rfl (((H.grow EQ).blk 1 rfl).cells.off 1) rfl) ?_
  refine DW.fix rfl rfl rfl (fun _ EQ => RV.fieldAddr Tf25_2 rfl) ?_
  refine DW.fix rfl rfl rfl (fun _ EQ => RV.load1 Tk23 rfl (((H.grow EQ).blk 1 rfl).cells.off 2) rfl) ?_
  refine DW.sole rfl rfl rfl (OW.call Tc83 rfl (slices_Clone_int_ok (a0 := a0.supply) (h_a0_supply.ext R0) hr1) ?_)
  rintro _ w4 ⟨A7_0, c7_0, rfl, E2⟩
  refine ⟨_, rfl, fun _ => E2.ext, ModX.ext E2.ext, ?_⟩
  replace H : Hp w w4 [.own A7_0 c7_0 3 1 (List.map encN r1), .blk b2 25 [.slice none 0 0, .slice none 0 0, .slice none 0 0], .blk b1 25 [.slice A_a0_supply a0.supply.length c_a0_supply, .slice A_a0_demand a0.demand.length c_a0_demand, .slice A_a0_cost a0.cost.length c_a0_cost]] := H.append E2
  replace R0 := H.ext
  refine DW.sole rfl rfl rfl (OW.call Tc83 rfl (slices_Clone_int_ok (a0 := a0.demand) (h_a0_demand.ext R0) hr2) ?_)
  rintro _ w5 ⟨A8_0, c8_0, rfl, E3⟩
  refine ⟨_, rfl, fun _ => E3.ext, ModX.ext E3.ext, ?_⟩
  replace H : Hp w w5 [.own A8_0 c8_0 3 1 (List.map encN r2), .own A7_0 c7_0 3 1 (List.map encN r1), .blk b2 25 [.slice none 0 0, .slice none 0 0, .slice none 0 0], .blk b1 25 [.slice A_a0_supply a0.supply.length c_a0_supply, .slice A_a0_demand a0.demand.length c_a0_demand, .slice A_a0_cost a0.cost.length c_a0_cost]] := H.append E3
  replace R0 := H.ext
  refine DW.sole rfl rfl rfl (OW.call Tc88 rfl (bulk_clone_ok (a0 := a0.cost) (h_a0_cost.ext R0) hr3) ?_)
  rintro _ w6 ⟨A9_0, c9_0, hs9_0, rfl, E4⟩
  refine ⟨_, rfl, fun _ => E4.ext, ModX.ext E4.ext, ?_⟩
  replace H : Hp w w6 [.tab A9_0 c9_0 22 hs9_0 3 1 (encM encN r3), .own A8_0 c8_0 3 1 (List.map encN r2), .own A7_0 c7_0 3 1 (List.map encN r1), .blk b2 25 [.slice none 0 0, .slice none 0 0, .slice none 0 0], .blk b1 25 [.slice A_a0_supply a0.supply.length c_a0_supply, .slice A_a0_demand a0.demand.length c_a0_demand, .slice A_a0_cost a0.cost.length c_a0_cost]] := H.append E4
  replace R0 := H.ext
  refine DW.fix rfl rfl rfl (fun _ EQ => RV.build (vs := [.slice A7_0 r1.length c7_0, .slice A8_0 r2.length c8_0, .slice A9_0 r3.length c9_0]) (cs := [.slice A7_0 r1.length c7_0, .slice A8_0 r2.length c8_0, .slice A9_0 r3.length c9_0]) rfl (fun _ => by kernel_rfl)) ?_
  refine DW.sole rfl rfl rfl (OW.store Tk25 rfl rfl (H.blk 3 rfl) (off := 0) (vs := [.slice A7_0 r1.length c7_0, .slice A8_0 r2.length c8_0, .slice A9_0 r3.length c9_0]) rfl rfl rfl rfl rfl fun w7 S1 => ?_)
  refine ⟨fun h => absurd h (by decide), S1.modx trivial, ?_⟩
  replace H : Hp w w7 [.tab A9_0 c9_0 22 hs9_0 3 1 (encM encN r3), .own A8_0 c8_0 3 1 (List.map encN r2), .own A7_0 c7_0 3 1 (List.map encN r1), .blk b2 25 [.slice A7_0 r1.length c7_0, .slice A8_0 r2.length c8_0, .slice A9_0 r3.length c9_0], .blk b1 25 [.slice A_a0_supply a0.supply.length c_a0_supply, .slice A_a0_demand a0.demand.length c_a0_demand, .slice A_a0_cost a0.cost.length c_a0_cost]] := H.stored 3 rfl S1
  replace R0 := H.ext
  refine DW.nil (hK2 _ _ ?_)
  refine CW.ret ?_
  obtain rfl := Option.some.inj F
  refine ⟨_, (ResOK.cell1 ⟨_, rfl, run_loadVar_agg Tk25 (H.blk 3 rfl).cells (us := [.slice A7_0 r1.length c7_0, .slice A8_0 r2.length c8_0, .slice A9_0 r3.length c9_0]) rfl rfl⟩), ?_⟩
  replace H := H.pick (L' := [.own A7_0 c7_0 3 1 (List.map encN r1), .own A8_0 c8_0 3 1 (List.map encN r2), .tab A9_0 c9_0 22 hs9_0 3 1 (encM encN r3)]) [2, 1, 0] (by decide) rfl
  replace R0 := H.ext
  exact ⟨A7_0, c7_0, A8_0, c8_0, A9_0, c9_0, hs9_0, (by first | rfl | (simp; done) | (simp; omega)), H⟩
end Go.D7

set_option linter.unusedVariables false
set_option linter.unusedSimpArgs false
namespace Go.D7
open Go.Tb Go.Proofs Go.RowKit
theorem Tc30 : callable Try.prog 30 = true := by kernel_rfl
set_option maxRecDepth 20000 in
set_option maxHeartbeats 1000000 in
theorem ref07_Same_ok {a0 : Trade} {a1 : Trade} {A_a0_supply : Option Addr} {c_a0_supply : Nat} {A_a0_demand : Option Addr} {c_a0_demand : Nat} {A_a0_cost : Option Addr} {c_a0_cost : Nat} {A_a1_supply : Option Addr} {c_a1_supply : Nat} {A_a1_demand : Option Addr} {c_a1_demand : Nat} {A_a1_cost : Option Addr} {c_a1_cost : Nat} {w : World} {res : Bool} (h_a0_supply : Sl w A_a0_supply c_a0_supply 1 (a0.supply.map encN)) (h_a0_demand : Sl w A_a0_demand c_a0_demand 1 (a0.demand.map encN)) (h_a0_cost : Sl2 w A_a0_cost c_a0_cost 1 encN a0.cost) (h_a1_supply : Sl w A_a1_supply c_a1_supply 1 (a1.supply.map encN)) (h_a1_demand : Sl w A_a1_demand c_a1_demand 1 (a1.demand.map encN)) (h_a1_cost : Sl2 w A_a1_cost c_a1_cost 1 encN a1.cost) (F : ref07_Same a0 a1 = some res) : Calls Try.prog 30 #[.agg #[.slice A_a0_supply a0.supply.length c_a0_supply, .slice A_a0_demand a0.demand.length c_a0_demand, .slice A_a0_cost a0.cost.length c_a0_cost], .agg #[.slice A_a1_supply a1.supply.length c_a1_supply, .slice A_a1_demand a1.demand.length c_a1_demand, .slice A_a1_cost a1.cost.length c_a1_cost]] w (Rt w (.bool res)) := by
  refine calls_of_cw (args := [.agg #[.slice A_a0_supply a0.supply.length c_a0_supply, .slice A_a0_demand a0.demand.length c_a0_demand, .slice A_a0_cost a0.cost.length c_a0_cost], .agg #[.slice A_a1_supply a1.supply.length c_a1_supply, .slice A_a1_demand a1.demand.length c_a1_demand, .slice A_a1_cost a1.cost.length c_a1_cost]]) Try.func30 rfl rfl rfl rfl ?_
  have H := Hp.start w
  have R0 := H.ext
  unfold ref07_Same at F
  refine CW.seq fun K1 hK1 => ?_
  refine CW.region ?_
  refine LW.go rfl rfl (OW.box rfl fun b1 w1 N1 => ?_)
  replace H := H.new N1 N1.blk
  replace R0 := H.ext
  refine LW.go rfl rfl (OW.box rfl fun b2 w2 N2 => ?_)
  replace H := H.new N2 N2.blk
  replace R0 := H.ext
  refine LW.pure rfl rfl (RV.assign rfl) ?_
  refine LW.nil (hK1 _ _ ?_)
  refine CW.seq fun K2 hK2 => ?_
  obtain ⟨r1, hr1, F⟩ := bnd_some F
  by_cases hp1 : r1 = true
  ·
    replace F := ite_y hp1 F
    have hq1 : r1 = true := hp1
    obtain ⟨r2, hr2, F⟩ := bnd_some F
    by_cases hp2 : r2 = true
    ·
      replace F := ite_y hp2 F
      have hq2 : r2 = true := hp2
      obtain ⟨r3, hr3, F⟩ := bnd_some F
      refine CW.region ?_
      refine LW.pure rfl rfl (RV.fieldAddr Tf25_0 rfl) ?_
      refine LW.pure rfl rfl (RV.load1 Tk22 rfl ((H.blk 1 rfl).cells.off 0) rfl) ?_
      refine LW.pure rfl rfl (RV.fieldAddr Tf25_0 rfl) ?_
      refine LW.pure rfl rfl (RV.load1 Tk22 rfl ((H.blk 0 rfl).cells.off 0) rfl) ?_
      refine LW.go rfl rfl (OW.call Tc67 rfl (ref07_SameInts_ok (a0 := a0.supply) (a1 := a1.supply) (h_a0_supply.ext R0) (h_a1_supply.ext R0) hr1) ?_)
      rintro _ w3 ⟨rfl, E1⟩
      refine ⟨_, rfl, ?_⟩
      replace H := H.grow E1
      replace R0 := H.ext
      refine LW.pure rfl rfl (RV.move rfl) ?_
      refine LW.pureYB rfl rfl rfl rfl hq1 (RV.fieldAddr Tf25_1 rfl) ?_
      refine LW.pureYB rfl rfl rfl rfl hq1 (RV.load1 Tk22 rfl ((H.blk 1 rfl).cells.off 1) rfl) ?_
      refine LW.pureYB rfl rfl rfl rfl hq1 (RV.fieldAddr Tf25_1 rfl) ?_
      refine LW.pureYB rfl rfl rfl rfl hq1 (RV.load1 Tk22 rfl ((H.blk 0 rfl).cells.off 1) rfl) ?_
      refine LW.yesB rfl rfl rfl rfl hq1 (OW.call Tc67 rfl (ref07_SameInts_ok (a0 := a0.demand) (a1 := a1.demand) (h_a0_demand.ext R0) (h_a1_demand.ext R0) hr2) ?_)
      rintro _ w4 ⟨rfl, E2⟩
      refine ⟨_, rfl, ?_⟩
      replace H := H.grow E2
      replace R0 := H.ext
      refine LW.pure rfl rfl (RV.pickTB rfl hq1 rfl) ?_
      refine LW.pure rfl rfl (RV.move rfl) ?_
      refine LW.pureYB rfl rfl rfl rfl hq2 (RV.fieldAddr Tf25_2 rfl) ?_
      refine LW.pureYB rfl rfl rfl rfl hq2 (RV.load1 Tk23 rfl ((H.blk 1 rfl).cells.off 2) rfl) ?_
      refine LW.pureYB rfl rfl rfl rfl hq2 (RV.fieldAddr Tf25_2 rfl) ?_
      refine LW.pureYB rfl rfl rfl rfl hq2 (RV.load1 Tk23 rfl ((H.blk 0 rfl).cells.off 2) rfl) ?_
      refine LW.yesB rfl rfl rfl rfl hq2 (OW.call Tc33 rfl (ref07_SameTables_ok (a0 := a0.cost) (a1 := a1.cost) (h_a0_cost.ext R0) (h_a1_cost.ext R0) hr3) ?_)
      rintro _ w5 ⟨rfl, E3⟩
      refine ⟨_, rfl, ?_⟩
      replace H := H.grow E3
      replace R0 := H.ext
      refine LW.pure rfl rfl (RV.pickTB rfl hq2 rfl) ?_
      refine LW.pure rfl rfl (RV.assign rfl) ?_
      refine LW.nil (hK2 _ _ ?_)
      refine CW.ret ?_
      obtain rfl := Option.some.inj F
      refine ⟨_, (ResOK.one rfl), ?_⟩
      refine ⟨(by first | rfl | simp), R0⟩
    ·
      replace F := ite_n hp2 F
      have hq2 : r2 = false := raw_f hp2
      refine CW.region ?_
      refine LW.pure rfl rfl (RV.fieldAddr Tf25_0 rfl) ?_
      refine LW.pure rfl rfl (RV.load1 Tk22 rfl ((H.blk 1 rfl).cells.off 0) rfl) ?_
      refine LW.pure rfl rfl (RV.fieldAddr Tf25_0 rfl) ?_
      refine LW.pure rfl rfl (RV.load1 Tk22 rfl ((H.blk 0 rfl).cells.off 0) rfl) ?_
      refine LW.go rfl rfl (OW.call Tc67 rfl (ref07_SameInts_ok (a0 := a0.supply) (a1 := a1.supply) (h_a0_supply.ext R0) (h_a1_supply.ext R0) hr1) ?_)
      rintro _ w6 ⟨rfl, E4⟩
      refine ⟨_, rfl, ?_⟩
      replace H := H.grow E4
      replace R0 := H.ext
      refine LW.pure rfl rfl (RV.move rfl) ?_
      refine LW.pureYB rfl rfl rfl rfl hq1 (RV.fieldAddr Tf25_1 rfl) ?_
      refine LW.pureYB rfl rfl rfl rfl hq1 (RV.load1 Tk22 rfl ((H.blk 1 rfl).cells.off 1) rfl) ?_
      refine LW.pureYB rfl rfl rfl rfl hq1 (RV.fieldAddr Tf25_1 rfl) ?_
      refine LW.pureYB rfl rfl rfl rfl hq1 (RV.load1 Tk22 rfl ((H.blk 0 rfl).cells.off 1) rfl) ?_
      refine LW.yesB rfl rfl rfl rfl hq1 (OW.call Tc67 rfl (ref07_SameInts_ok (a0 := a0.demand) (a1 := a1.demand) (h_a0_demand.ext R0) (h_a1_demand.ext R0) hr2) ?_)
      rintro _ w7 ⟨rfl, E5⟩
      refine ⟨_, rfl, ?_⟩
      replace H := H.grow E5
      replace R0 := H.ext
      refine LW.pure rfl rfl (RV.pickTB rfl hq1 rfl) ?_
      refine LW.pure rfl rfl (RV.move rfl) ?_
      refine LW.noB rfl rfl rfl rfl (ne_beq (v := false) hq2 rfl) ?_
      refine LW.noB rfl rfl rfl rfl (ne_beq (v := false) hq2 rfl) ?_
      refine LW.noB rfl rfl rfl rfl (ne_beq (v := false) hq2 rfl) ?_
      refine LW.noB rfl rfl rfl rfl (ne_beq (v := false) hq2 rfl) ?_
      refine LW.noB rfl rfl rfl rfl (ne_beq (v := false) hq2 rfl) ?_
      refine LW.pure rfl rfl (RV.pickFB rfl hq2 rfl) ?_
      refine LW.pure rfl rfl (RV.assign rfl) ?_
      refine LW.nil (hK2 _ _ ?_)
      refine CW.ret ?_
      obtain rfl := Option.some.inj F
      refine ⟨_, (ResOK.one rfl), ?_⟩
      refine ⟨(by first | rfl | simp), R0⟩
  ·
    replace F := ite_n hp1 F
    have hq1 : r1 = false := raw_f hp1
    refine CW.region ?_
    refine LW.pure rfl rfl (RV.fieldAddr Tf25_0 rfl) ?_
    refine LW.pure rfl rfl (RV.load1 Tk22 rfl ((H.blk 1 rfl).cells.off 0) rfl) ?_
    refine LW.pure rfl rfl (RV.fieldAddr Tf25_0 rfl) ?_
    refine LW.pure rfl rfl (RV.load1 Tk22 rfl ((H.blk 0 rfl).cells.off 0) rfl) ?_
    refine LW.go rfl rfl (OW.call Tc67 rfl (ref07_SameInts_ok (a0 := a0.supply) (a1 := a1.supply) (h_a0_supply.ext R0) (h_a1_supply.ext R0) hr1) ?_)
    rintro _ w8 ⟨rfl, E6⟩
    refine ⟨_, rfl, ?_⟩
    replace H := H.grow E6
    replace R0 := H.ext
    refine LW.pure rfl rfl (RV.move rfl) ?_
    refine LW.noB rfl rfl rfl rfl (ne_beq (v := false) hq1 rfl) ?_
    refine LW.noB rfl rfl rfl rfl (ne_beq (v := false) hq1 rfl) ?_
    refine LW.noB rfl rfl rfl rfl (ne_beq (v := false) hq1 rfl) ?_
    refine LW.noB rfl rfl rfl rfl (ne_beq (v := false) hq1 rfl) ?_
    refine LW.noB rfl rfl rfl rfl (ne_beq (v := false) hq1 rfl) ?_
    refine LW.pure rfl rfl (RV.pickFB rfl hq1 rfl) ?_
    refine LW.pure rfl rfl (RV.move rfl) ?_
    refine LW.noB rfl rfl rfl rfl (ne_beq (v := false) rfl rfl) ?_
    refine LW.noB rfl rfl rfl rfl (ne_beq (v := false) rfl rfl) ?_
    refine LW.noB rfl rfl rfl rfl (ne_beq (v := false) rfl rfl) ?_
    refine LW.noB rfl rfl rfl rfl (ne_beq (v := false) rfl rfl) ?_
    refine LW.noB rfl rfl rfl rfl (ne_beq (v := false) rfl rfl) ?_
    refine LW.pure rfl rfl (RV.pickFB rfl rfl rfl) ?_
    refine LW.pure rfl rfl (RV.assign rfl) ?_
    refine LW.nil (hK2 _ _ ?_)
    refine CW.ret ?_
    obtain rfl := Option.some.inj F
    refine ⟨_, (ResOK.one rfl), ?_⟩
    refine ⟨(by first | rfl | simp), R0⟩
end Go.D7
