/- Lemmas and walks that the proof of this claim uses: D7m9, D7m10, D7m11, D7m12. -/
import Derived.Test.YtmmefcihahcchaaBulkProves3
set_option linter.unusedVariables false
set_option linter.unusedSimpArgs false
namespace Go.D7
open Go.Tb Go.Proofs Go.RowKit
theorem Tc17 : callable Try.prog 17 = true := by kernel_rfl
theorem Tc18 : callable Try.prog 18 = true := by kernel_rfl
theorem Tc59 : callable Try.prog 59 = true := by kernel_rfl
set_option maxRecDepth 20000 in
set_option maxHeartbeats 1000000 in
theorem ref07_cost_ok {a0 : Trade} {a1 : List (List Int)} {A_a0_supply : Option Addr} {c_a0_supply : Nat} {A_a0_demand : Option Addr} {c_a0_demand : Nat} {A_a0_cost : Option Addr} {c_a0_cost : Nat} {A_a1 : Option Addr} {c_a1 : Nat} {w : World} {res : Int} (h_a0_supply : Sl w A_a0_supply c_a0_supply 1 (a0.supply.map encN)) (h_a0_demand : Sl w A_a0_demand c_a0_demand 1 (a0.demand.map encN)) (h_a0_cost : Sl2 w A_a0_cost c_a0_cost 1 encN a0.cost) (h_a1 : Sl2 w A_a1 c_a1 1 encN a1) (F : ref07_cost a0 a1 = some res) : Calls Try.prog 59 #[.agg #[.slice A_a0_supply a0.supply.length c_a0_supply, .slice A_a0_demand a0.demand.length c_a0_demand, .slice A_a0_cost a0.cost.length c_a0_cost], .slice A_a1 a1.length c_a1] w (Rt w (.int .i64 res)) := by
  refine calls_of_cw (args := [.agg #[.slice A_a0_supply a0.supply.length c_a0_supply, .slice A_a0_demand a0.demand.length c_a0_demand, .slice A_a0_cost a0.cost.length c_a0_cost], .slice A_a1 a1.length c_a1]) Try.func59 rfl rfl rfl rfl ?_
  have H := Hp.start w
  have R0 := H.ext
  unfold ref07_cost at F
  refine CW.seq fun K1 hK1 => ?_
  refine CW.region ?_
  refine LW.go rfl rfl (OW.box rfl fun b1 w1 N1 => ?_)
  replace H := H.new N1 N1.blk
  replace R0 := H.ext
  refine LW.pure rfl rfl (RV.assign rfl) ?_
  refine LW.nil (hK1 _ _ ?_)
  refine CW.seq fun K2 hK2 => ?_
  refine CW.region ?_
  refine LW.pure rfl rfl (RV.assign rfl) ?_
  refine LW.nil (hK2 _ _ ?_)
  refine CW.seqJ (fun ρ wl1 => (∃ (t5_1 : Int), ref07_cost_k1 t5_1 = some res ∧ ρ = [(4, .int .i64 0), (5, .int .i64 t5_1)] ∧ Hp w wl1 [])) ?_ ?_
  ·
    rintro _ wl1 ⟨t5_1, F, rfl, H⟩
    have R0 := H.ext
    unfold ref07_cost_k1 at F
    refine CW.seq fun K3 hK3 => ?_
    refine CW.region ?_
    refine LW.pure rfl rfl (RV.move rfl) ?_
    refine LW.pure rfl rfl (RV.assign rfl) ?_
    refine LW.nil (hK3 _ _ ?_)
    refine CW.ret ?_
    obtain rfl := Option.some.inj F
    refine ⟨_, (ResOK.one rfl), ?_⟩
    refine ⟨(by first | rfl | simp), R0⟩
  ·
    intro K4 hK4 jK218
    refine CW.seq fun K5 hK5 => ?_
    refine CW.region ?_
    refine LW.pure rfl rfl (RV.assign rfl) ?_
    refine LW.nil (hK5 _ _ ?_)
    refine CW.block ?_
    refine CW.loop (fun meas ρ wl2 => ∃ (t5_4 : Int) (t6_1 : Int), ref07_cost_L2 a0 a1 meas t5_4 t6_1 = some res ∧ ρ = [(1, .slice A_a1 a1.length c_a1), (2, .pointer (some (⟨b1, 0, none⟩))), (4, .int .i64 0), (5, .int .i64 t5_4), (6, .int .i64 t6_1)] ∧ Hp w wl2 [.blk b1 25 [.slice A_a0_supply a0.supply.length c_a0_supply, .slice A_a0_demand a0.demand.length c_a0_demand, .slice A_a0_cost a0.cost.length c_a0_cost]]) FU ⟨_, ?_, ((0 : Int)), ((0 : Int)), F, rfl, H⟩ ?_
    · exact ⟨rfl, rfl, rfl, rfl, rfl, trivial⟩
    rintro mk1 _ wl2 ⟨t5_4, t6_1, F, rfl, H⟩
    have R0 := H.ext
    replace F := ref07_cost_L2_s F
    obtain ⟨mk1, rfl, F⟩ := F
    generalize hrec1 : ref07_cost_L2 a0 a1 mk1 = rec1 at F
    unfold ref07_cost_B2 at F
    refine CW.seq fun K6 hK6 => ?_
    refine CW.seq fun K7 hK7 => ?_
    refine CW.region ?_
    refine LW.pure rfl rfl (RV.move rfl) ?_
    refine LW.pure rfl rfl (RV.move rfl) ?_
    refine LW.pure rfl rfl (RV.len Ts23 rfl) ?_
    refine LW.pure rfl rfl (RV.lss rfl rfl) ?_
    refine LW.nil (hK7 _ _ ?_)
    by_cases hp1 : t6_1 < ((a1.length : Int))
    ·
      replace F := ite_y hp1 F
      have hq1 := dec_t hp1
      refine CW.condT rfl hq1 ?_
      refine CW.skip (hK6 _ _ ?_)
      refine CW.seqJ (fun ρ wl3 => (∃ (t5_2 : Int), ref07_cost_k2 t6_1 rec1 t5_2 = some res ∧ ρ = [(1, .slice A_a1 a1.length c_a1), (2, .pointer (some (⟨b1, 0, none⟩))), (4, .int .i64 0), (5, .int .i64 t5_2), (6, .int .i64 t6_1)] ∧ Hp w wl3 [.blk b1 25 [.slice A_a0_supply a0.supply.length c_a0_supply, .slice A_a0_demand a0.demand.length c_a0_demand, .slice A_a0_cost a0.cost.length c_a0_cost]])) ?_ ?_
      ·
        rintro _ wl3 ⟨t5_2, F, rfl, H⟩
        have R0 := H.ext
        unfold ref07_cost_k2 at F
        obtain ⟨hg1, F⟩ := gd_some F
        refine CW.region ?_
        refine LW.pure rfl rfl (RV.move rfl) ?_
        refine LW.pure rfl rfl (RV.add rfl rfl hg1) ?_
        refine LW.pure rfl rfl (RV.assign rfl) ?_
        refine LW.nil ?_
        subst hrec1
        refine ⟨mk1, Nat.lt_succ_self _, _, ?_, t5_2, (t6_1 + 1), F, rfl, H⟩
        exact ⟨rfl, rfl, rfl, rfl, rfl, trivial⟩
      ·
        intro K8 hK8 jK278
        refine CW.block ?_
        refine CW.seq fun K9 hK9 => ?_
        refine CW.region ?_
        refine LW.pure rfl rfl (RV.assign rfl) ?_
        refine LW.nil (hK9 _ _ ?_)
        refine CW.block ?_
        refine CW.loop (fun meas ρ wl4 => ∃ (t5_3 : Int) (t7_1 : Int), ref07_cost_L1 a0 a1 t6_1 rec1 meas t5_3 t7_1 = some res ∧ ρ = [(1, .slice A_a1 a1.length c_a1), (2, .pointer (some (⟨b1, 0, none⟩))), (4, .int .i64 0), (5, .int .i64 t5_3), (6, .int .i64 t6_1), (7, .int .i64 t7_1)] ∧ Hp w wl4 [.blk b1 25 [.slice A_a0_supply a0.supply.length c_a0_supply, .slice A_a0_demand a0.demand.length c_a0_demand, .slice A_a0_cost a0.cost.length c_a0_cost]]) FU ⟨_, ?_, t5_4, ((0 : Int)), F, rfl, H⟩ ?_
        · exact ⟨rfl, rfl, rfl, rfl, rfl, rfl, trivial⟩
        rintro mk2 _ wl4 ⟨t5_3, t7_1, F, rfl, H⟩
        have R0 := H.ext
        replace F := ref07_cost_L1_s F
        obtain ⟨mk2, rfl, F⟩ := F
        generalize hrec2 : ref07_cost_L1 a0 a1 t6_1 rec1 mk2 = rec2 at F
        unfold ref07_cost_B1 at F
        refine CW.seq fun K10 hK10 => ?_
        refine CW.seq fun K11 hK11 => ?_
        obtain ⟨x1, hbx1, hx1, F⟩ := ix_some F
        refine CW.region ?_
        refine LW.pure rfl rfl (RV.move rfl) ?_
        refine LW.pure rfl rfl (RV.move rfl) ?_
        refine LW.pure rfl rfl (RV.move rfl) ?_
        obtain ⟨A1, c1, hC1, hS1⟩ := h_a1.at_ hx1
        refine LW.pure rfl rfl (RV.indexAddr Ts23 rfl rfl hbx1 (h_a1.addr hbx1)) ?_
        refine LW.pure rfl rfl (RV.load1 Tk22 rfl (hC1.ext R0) rfl) ?_
        refine LW.pure rfl rfl (RV.len Ts22 rfl) ?_
        refine LW.pure rfl rfl (RV.lss rfl rfl) ?_
        refine LW.nil (hK11 _ _ ?_)
        by_cases hp2 : t7_1 < ((x1.length : Int))
        ·
          replace F := ite_y hp2 F
          have hq2 := dec_t hp2
          refine CW.condT rfl hq2 ?_
          refine CW.skip (hK10 _ _ ?_)
          refine CW.seq fun K12 hK12 => ?_
          refine CW.block ?_
          obtain ⟨x2, hbx2, hx2, F⟩ := ix_some F
          obtain ⟨x3, hbx3, hx3, F⟩ := ix_some F
          obtain ⟨x4, hbx4, hx4, F⟩ := ix_some F
          obtain ⟨x5, hbx5, hx5, F⟩ := ix_some F
          obtain ⟨hg2, F⟩ := gd_some F
          obtain ⟨hg3, F⟩ := gd_some F
          refine CW.draw [] (fun _ => True) (.cons 0 1 (.cons 1 1 (.cons 2 1 (.cons 3 1 (.cons 4 1 (.cons 5 1 (.cons 6 1 (.cons 7 1 (.cons 8 1 (.cons 9 1 (.cons 10 1 (.cons 11 1 (.cons 12 1 (.cons 13 1 (.cons 14 1 (.cons 15 1 (.cons 16 1 (.cons 17 1 (.cons 18 1 .nil))))))))))))))))))) mixed (by kernel_rfl) fun w2 E1 => ?_
          replace H := H.grow E1
          replace R0 := H.ext
          refine DW.fix rfl rfl rfl (fun _ EQ => RV.move rfl) ?_
          refine DW.fix rfl rfl rfl (fun _ EQ => RV.move rfl) ?_
          refine DW.fix rfl rfl rfl (fun _ EQ => RV.move rfl) ?_
          obtain ⟨A2, c2, hC2, hS2⟩ := h_a1.at_ hx2
          refine DW.fix rfl rfl rfl (fun _ EQ => RV.indexAddr Ts23 rfl rfl hbx2 (h_a1.addr hbx2)) ?_
          refine DW.fix rfl rfl rfl (fun _ EQ => RV.load1 Tk22 rfl (hC2.ext (R0.trans EQ)) rfl) ?_
          refine DW.fix rfl rfl rfl (fun _ EQ => RV.move rfl) ?_
          refine DW.fix rfl rfl rfl (fun _ EQ => RV.indexAddr Ts22 rfl rfl hbx3 (hS2.addr_ hx3)) ?_
          refine DW.fix rfl rfl rfl (fun _ EQ => RV.load1 Tk3 rfl ((hS2.at_ hx3).ext (R0.trans EQ)) rfl) ?_
          refine DW.fix rfl rfl rfl (fun _ EQ => RV.fieldAddr Tf25_2 rfl) ?_
          refine DW.fix rfl rfl rfl (fun _ EQ => RV.load1 Tk23 rfl (((H.grow EQ).blk 0 rfl).cells.off 2) rfl) ?_
          refine DW.fix rfl rfl rfl (fun _ EQ => RV.move rfl) ?_
          obtain ⟨A3, c3, hC3, hS3⟩ := h_a0_cost.at_ hx4
          refine DW.fix rfl rfl rfl (fun _ EQ => RV.indexAddr Ts23 rfl rfl hbx4 (h_a0_cost.addr hbx4)) ?_
          refine DW.fix rfl rfl rfl (fun _ EQ => RV.load1 Tk22 rfl (hC3.ext (R0.trans EQ)) rfl) ?_
          refine DW.fix rfl rfl rfl (fun _ EQ => RV.move rfl) ?_
          refine DW.fix rfl rfl rfl (fun _ EQ => RV.indexAddr Ts22 rfl rfl hbx5 (hS3.addr_ hx5)) ?_
          refine DW.fix rfl rfl rfl (fun _ EQ => RV.load1 Tk3 rfl ((hS3.at_ hx5).ext (R0.trans EQ)) rfl) ?_
          refine DW.fix rfl rfl rfl (fun _ EQ => RV.mul rfl rfl hg2) ?_
          refine DW.fix rfl rfl rfl (fun _ EQ => RV.add rfl rfl hg3) ?_
          refine DW.fix rfl rfl rfl (fun _ EQ => RV.assign rfl) ?_
          refine DW.nil (hK12 _ _ ?_)
          obtain ⟨hg4, F⟩ := gd_some F
          refine CW.region ?_
          refine LW.pure rfl rfl (RV.move rfl) ?_
          refine LW.pure rfl rfl (RV.add rfl rfl hg4) ?_
          refine LW.pure rfl rfl (RV.assign rfl) ?_
          refine LW.nil ?_
          subst hrec2
          refine ⟨mk2, Nat.lt_succ_self _, _, ?_, (t5_3 + (x3 * x5)), (t7_1 + 1), F, rfl, H⟩
          exact ⟨rfl, rfl, rfl, rfl, rfl, rfl, trivial⟩
        ·
          replace F := ite_n hp2 F
          have hq2 := dec_f hp2
          refine CW.condF rfl hq2 ?_
          refine CW.exit (jK278 _ _ ⟨_, ?_, ⟨t5_3, F, rfl, H⟩⟩)
          exact ⟨rfl, rfl, rfl, rfl, rfl, trivial⟩
    ·
      replace F := ite_n hp1 F
      have hq1 := dec_f hp1
      refine CW.condF rfl hq1 ?_
      replace H := H.pick (L' := []) [] (by decide) rfl
      replace R0 := H.ext
      refine CW.exit (jK218 _ _ ⟨_, ?_, ⟨t5_4, F, rfl, H⟩⟩)
      exact ⟨rfl, rfl, trivial⟩
set_option maxRecDepth 20000 in
set_option maxHeartbeats 1000000 in
theorem ref07_empty_ok {a0 : Trade} {A_a0_supply : Option Addr} {c_a0_supply : Nat} {A_a0_demand : Option Addr} {c_a0_demand : Nat} {A_a0_cost : Option Addr} {c_a0_cost : Nat} {w : World} {res : (List (List Int))} (h_a0_supply : Sl w A_a0_supply c_a0_supply 1 (a0.supply.map encN)) (h_a0_demand : Sl w A_a0_demand c_a0_demand 1 (a0.demand.map encN)) (h_a0_cost : Sl2 w A_a0_cost c_a0_cost 1 encN a0.cost) (F : ref07_empty a0 = some res) : Calls Try.prog 69 #[.agg #[.slice A_a0_supply a0.supply.length c_a0_supply, .slice A_a0_demand a0.demand.length c_a0_demand, .slice A_a0_cost a0.cost.length c_a0_cost]] w (fun e w' => ∃ (A1 : Option Addr) (c1 : Nat) (hs0 : List (Option Addr × Nat)), e = .returned (.slice A1 res.length c1) ∧ Hp w w' [.tab A1 c1 22 hs0 3 1 (encM encN res)]) := by
  refine calls_of_cw (args := [.agg #[.slice A_a0_supply a0.supply.length c_a0_supply, .slice A_a0_demand a0.demand.length c_a0_demand, .slice A_a0_cost a0.cost.length c_a0_cost]]) Try.func69 rfl rfl rfl rfl ?_
  have H := Hp.start w
  have R0 := H.ext
  unfold ref07_empty at F
  refine CW.seq fun K1 hK1 => ?_
  refine CW.region ?_
  refine LW.go rfl rfl (OW.box rfl fun b1 w1 N1 => ?_)
  replace H := H.new N1 N1.blk
  replace R0 := H.ext
  refine LW.pure rfl rfl (RV.assign rfl) ?_
  refine LW.nil (hK1 _ _ ?_)
  refine CW.seq fun K2 hK2 => ?_
  refine CW.region ?_
  refine LW.pure rfl rfl (RV.assign rfl) ?_
  refine LW.nil (hK2 _ _ ?_)
  refine CW.seqJ (fun ρ wl1 => (∃ (m1 : List (List Int)) (hsm1 : List (Option Addr × Nat)) (Am1 : Option Addr) (cm1 : Nat), ref07_empty_k1 m1 = some res ∧ ρ = [(2, .slice none 0 0), (3, .slice Am1 m1.length cm1)] ∧ Hp w wl1 [.tab Am1 cm1 22 hsm1 3 1 (encM encN m1)])) ?_ ?_
  ·
    rintro _ wl1 ⟨m1, hsm1, Am1, cm1, F, rfl, H⟩
    have R0 := H.ext
    unfold ref07_empty_k1 at F
    refine CW.seq fun K3 hK3 => ?_
    refine CW.region ?_
    refine LW.pure rfl rfl (RV.move rfl) ?_
    refine LW.pure rfl rfl (RV.assign rfl) ?_
    refine LW.nil (hK3 _ _ ?_)
    refine CW.ret ?_
    obtain rfl := Option.some.inj F
    refine ⟨_, (ResOK.one rfl), ?_⟩
    exact ⟨Am1, cm1, hsm1, (by first | rfl | (simp; done) | (simp; omega)), H⟩
  ·
    intro K4 hK4 jK38
    refine CW.seq fun K5 hK5 => ?_
    refine CW.region ?_
    refine LW.pure rfl rfl (RV.assign rfl) ?_
    refine LW.nil (hK5 _ _ ?_)
    refine CW.block ?_
    replace H := H.nilTab encN 22 3 1
    replace R0 := H.ext
    refine CW.loop (fun meas ρ wl2 => ∃ (t4_1 : Int) (m2 : List (List Int)) (hsm2 : List (Option Addr × Nat)) (Am2 : Option Addr) (cm2 : Nat), ref07_empty_L1 a0 meas t4_1 m2 = some res ∧ ρ = [(1, .pointer (some (⟨b1, 0, none⟩))), (2, .slice none 0 0), (3, .slice Am2 m2.length cm2), (4, .int .i64 t4_1)] ∧ Hp w wl2 [.tab Am2 cm2 22 hsm2 3 1 (encM encN m2), .blk b1 25 [.slice A_a0_supply a0.supply.length c_a0_supply, .slice A_a0_demand a0.demand.length c_a0_demand, .slice A_a0_cost a0.cost.length c_a0_cost]]) FU ⟨_, ?_, ((0 : Int)), (([] : List (List Int))), ([]), none, 0, F, rfl, H⟩ ?_
    · exact ⟨rfl, rfl, (look_slice rfl (by first | rfl | (simp; done) | (simp; omega))), rfl, trivial⟩
    rintro mk1 _ wl2 ⟨t4_1, m2, hsm2, Am2, cm2, F, rfl, H⟩
    have R0 := H.ext
    replace F := ref07_empty_L1_s F
    obtain ⟨mk1, rfl, F⟩ := F
    generalize hrec1 : ref07_empty_L1 a0 mk1 = rec1 at F
    unfold ref07_empty_B1 at F
    refine CW.seq fun K6 hK6 => ?_
    refine CW.seq fun K7 hK7 => ?_
    refine CW.region ?_
    refine LW.pure rfl rfl (RV.move rfl) ?_
    refine LW.pure rfl rfl (RV.fieldAddr Tf25_0 rfl) ?_
    refine LW.pure rfl rfl (RV.load1 Tk22 rfl ((H.blk 1 rfl).cells.off 0) rfl) ?_
    refine LW.pure rfl rfl (RV.len Ts22 rfl) ?_
    refine LW.pure rfl rfl (RV.lss rfl rfl) ?_
    refine LW.nil (hK7 _ _ ?_)
    by_cases hp1 : t4_1 < ((a0.supply.length : Int))
    ·
      replace F := ite_y hp1 F
      have hq1 := dec_t hp1
      refine CW.condT rfl hq1 ?_
      refine CW.skip (hK6 _ _ ?_)
      refine CW.seq fun K8 hK8 => ?_
      refine CW.block ?_
      obtain ⟨hg1, F⟩ := gd_some F
      obtain ⟨hg2, F⟩ := gd_some F
      refine CW.region ?_
      refine LW.pure rfl rfl (RV.move rfl) ?_
      refine LW.pure rfl rfl (RV.fieldAddr Tf25_1 rfl) ?_
      refine LW.pure rfl rfl (RV.load1 Tk22 rfl ((H.blk 1 rfl).cells.off 1) rfl) ?_
      refine LW.pure rfl rfl (RV.len Ts22 rfl) ?_
      refine LW.go rfl rfl (OW.makeR (enc := encN) (0 : Int) Ts22 rfl rfl rfl rfl rfl hg1 (by decide) fun b2 w2 N2 => ?_)
      replace H := H.made' (k := 1) (t := 3) (enc := encN) (l := (List.replicate (Int.toNat ((a0.demand.length : Int))) (0 : Int))) N2 N2.blk (fun _ => rfl) rfl (by first | decide | omega | (simp; done) | (simp; omega))
      replace R0 := H.ext
      refine LW.go rfl rfl (OW.buildSlice (e := 22) (vs := [.slice (some ⟨b2, 0, none⟩) (((List.replicate (Int.toNat ((a0.demand.length : Int))) (0 : Int))).length) (((List.replicate (Int.toNat ((a0.demand.length : Int))) (0 : Int))).length)]) (cs := [.slice (some ⟨b2, 0, none⟩) (((List.replicate (Int.toNat ((a0.demand.length : Int))) (0 : Int))).length) (((List.replicate (Int.toNat ((a0.demand.length : Int))) (0 : Int))).length)]) rfl (fun _ => by kernel_rfl) fun b3 w3 N3 => ?_)
      replace H := H.made' (k := 1) (t := 22) (enc := encH) (l := ([((some ⟨b2, 0, none⟩, ((List.replicate (Int.toNat ((a0.demand.length : Int))) (0 : Int))).length), List.map encN ((List.replicate (Int.toNat ((a0.demand.length : Int))) (0 : Int))))] : List ((Option Addr × Nat) × List (List Value)))) N3 (by have q := N3.blk; simp only [List.flatMap_cons, List.flatMap_nil, encH, List.length_map, List.append_nil, List.cons_append, List.nil_append]; first | done | exact q) (fun _ => rfl) rfl (by first | decide | omega | (simp; done) | (simp; omega))
      replace R0 := H.ext
      refine LW.go rfl rfl (OW.appendT (enc := encN) (m := m2) (l := (List.replicate (Int.toNat ((a0.demand.length : Int))) (0 : Int))) Ts23 rfl rfl (H.tab 2 rfl) (H.own 0 rfl).sl rfl hg2 (by decide) fun A2 c2 w4 O1 M1 D1 => ?_)
      replace H : Hp w w4 [.own (some ⟨b3, 0, none⟩) ((([((some ⟨b2, 0, none⟩, ((List.replicate (Int.toNat ((a0.demand.length : Int))) (0 : Int))).length), List.map encN ((List.replicate (Int.toNat ((a0.demand.length : Int))) (0 : Int))))] : List ((Option Addr × Nat) × List (List Value)))).length) 22 1 (List.map encH (([((some ⟨b2, 0, none⟩, ((List.replicate (Int.toNat ((a0.demand.length : Int))) (0 : Int))).length), List.map encN ((List.replicate (Int.toNat ((a0.demand.length : Int))) (0 : Int))))] : List ((Option Addr × Nat) × List (List Value))))), .tab A2 c2 22 ((hsm2 ++ [(some ⟨b2, 0, none⟩, ((List.replicate (Int.toNat ((a0.demand.length : Int))) (0 : Int))).length)])) 3 1 (encM encN ((m2 ++ [(List.replicate (Int.toNat ((a0.demand.length : Int))) (0 : Int))]))), .blk b1 25 [.slice A_a0_supply a0.supply.length c_a0_supply, .slice A_a0_demand a0.demand.length c_a0_demand, .slice A_a0_cost a0.cost.length c_a0_cost]] := H.tabPush 2 1 (by decide) rfl rfl M1 D1 O1
      replace R0 := H.ext
      refine LW.pure rfl rfl (RV.assign rfl) ?_
      refine LW.nil (hK8 _ _ ?_)
      obtain ⟨hg3, F⟩ := gd_some F
      refine CW.region ?_
      refine LW.pure rfl rfl (RV.move rfl) ?_
      refine LW.pure rfl rfl (RV.add rfl rfl hg3) ?_
      refine LW.pure rfl rfl (RV.assign rfl) ?_
      refine LW.nil ?_
      replace H := H.pick (L' := [.tab A2 c2 22 ((hsm2 ++ [(some ⟨b2, 0, none⟩, ((List.replicate (Int.toNat ((a0.demand.length : Int))) (0 : Int))).length)])) 3 1 (encM encN ((m2 ++ [(List.replicate (Int.toNat ((a0.demand.length : Int))) (0 : Int))]))), .blk b1 25 [.slice A_a0_supply a0.supply.length c_a0_supply, .slice A_a0_demand a0.demand.length c_a0_demand, .slice A_a0_cost a0.cost.length c_a0_cost]]) [1, 2] (by decide) rfl
      replace R0 := H.ext
      subst hrec1
      refine ⟨mk1, Nat.lt_succ_self _, _, ?_, (t4_1 + 1), ((m2 ++ [(List.replicate (Int.toNat ((a0.demand.length : Int))) (0 : Int))])), ((hsm2 ++ [(some ⟨b2, 0, none⟩, ((List.replicate (Int.toNat ((a0.demand.length : Int))) (0 : Int))).length)])), A2, c2, F, rfl, H⟩
      exact ⟨rfl, rfl, (look_slice rfl (by first | rfl | (simp; done) | (simp; omega))), rfl, trivial⟩
    ·
      replace F := ite_n hp1 F
      have hq1 := dec_f hp1
      refine CW.condF rfl hq1 ?_
      replace H := H.pick (L' := [.tab Am2 cm2 22 hsm2 3 1 (encM encN m2)]) [0] (by decide) rfl
      replace R0 := H.ext
      refine CW.exit (jK38 _ _ ⟨_, ?_, ⟨m2, hsm2, Am2, cm2, F, rfl, H⟩⟩)
      exact ⟨rfl, (look_slice rfl (by first | rfl | (simp; done) | (simp; omega))), trivial⟩
end Go.D7

set_option linter.unusedVariables false
set_option linter.unusedSimpArgs false
namespace Go.D7
open Go.Tb Go.Proofs Go.RowKit
theorem Tc69 : callable Try.prog 69 = true := by kernel_rfl
end Go.D7

set_option linter.unusedVariables false
set_option linter.unusedSimpArgs false
namespace Go.D7
open Go.Tb Go.Proofs Go.RowKit
set_option maxRecDepth 20000 in
set_option maxHeartbeats 1000000 in
theorem ref07_best_ok {a0 : Trade} {A_a0_supply : Option Addr} {c_a0_supply : Nat} {A_a0_demand : Option Addr} {c_a0_demand : Nat} {A_a0_cost : Option Addr} {c_a0_cost : Nat} {w : World} {res : (List (List Int))} (h_a0_supply : Sl w A_a0_supply c_a0_supply 1 (a0.supply.map encN)) (h_a0_demand : Sl w A_a0_demand c_a0_demand 1 (a0.demand.map encN)) (h_a0_cost : Sl2 w A_a0_cost c_a0_cost 1 encN a0.cost) (F : ref07_best a0 = some res) : Calls Try.prog 60 #[.agg #[.slice A_a0_supply a0.supply.length c_a0_supply, .slice A_a0_demand a0.demand.length c_a0_demand, .slice A_a0_cost a0.cost.length c_a0_cost]] w (fun e w' => ∃ (A1 : Option Addr) (c1 : Nat) (hs0 : List (Option Addr × Nat)), e = .returned (.slice A1 res.length c1) ∧ Hp w w' [.tab A1 c1 22 hs0 3 1 (encM encN res)]) := by
  refine calls_of_cw (args := [.agg #[.slice A_a0_supply a0.supply.length c_a0_supply, .slice A_a0_demand a0.demand.length c_a0_demand, .slice A_a0_cost a0.cost.length c_a0_cost]]) Try.func60 rfl rfl rfl rfl ?_
  have H := Hp.start w
  have R0 := H.ext
  unfold ref07_best at F
  refine CW.seq fun K1 hK1 => ?_
  refine CW.region ?_
  refine LW.go rfl rfl (OW.box rfl fun b1 w1 N1 => ?_)
  replace H := H.new N1 N1.blk
  replace R0 := H.ext
  refine LW.pure rfl rfl (RV.assign rfl) ?_
  refine LW.nil (hK1 _ _ ?_)
  refine CW.seq fun K2 hK2 => ?_
  obtain ⟨r2, hr2, F⟩ := bnd_some F
  refine CW.region ?_
  refine LW.pure rfl rfl (RV.loadA [.slice A_a0_supply a0.supply.length c_a0_supply, .slice A_a0_demand a0.demand.length c_a0_demand, .slice A_a0_cost a0.cost.length c_a0_cost] Tk25 rfl (H.blk 0 rfl).cells rfl rfl) ?_
  refine LW.go rfl rfl (OW.call Tc69 rfl (ref07_empty_ok (a0 := a0) (h_a0_supply.ext R0) (h_a0_demand.ext R0) (h_a0_cost.ext R0) hr2) ?_)
  rintro _ w2 ⟨A9_0, c9_0, hs9_0, rfl, E1⟩
  refine ⟨_, rfl, ?_⟩
  replace H : Hp w w2 [.tab A9_0 c9_0 22 hs9_0 3 1 (encM encN r2), .blk b1 25 [.slice A_a0_supply a0.supply.length c_a0_supply, .slice A_a0_demand a0.demand.length c_a0_demand, .slice A_a0_cost a0.cost.length c_a0_cost]] := H.append E1
  replace R0 := H.ext
  refine LW.pure rfl rfl (RV.assign rfl) ?_
  refine LW.nil (hK2 _ _ ?_)
  refine CW.seqJ (fun ρ wl1 => (∃ (l44 : List Int) (l45 : List Int) (Al44 : Option Addr) (cl44 : Nat) (Al45 : Option Addr) (cl45 : Nat), ref07_best_k17 a0 r2 l44 l45 = some res ∧ ρ = [(1, .pointer (some (⟨b1, 0, none⟩))), (2, .slice none 0 0), (3, .slice A9_0 r2.length c9_0), (4, .slice Al44 l44.length cl44), (5, .slice Al45 l45.length cl45)] ∧ Hp w wl1 [.tab A9_0 c9_0 22 hs9_0 3 1 (encM encN r2), .own Al44 cl44 3 1 (List.map encN l44), .own Al45 cl45 3 1 (List.map encN l45), .blk b1 25 [.slice A_a0_supply a0.supply.length c_a0_supply, .slice A_a0_demand a0.demand.length c_a0_demand, .slice A_a0_cost a0.cost.length c_a0_cost]])) ?_ ?_
  ·
    rintro _ wl1 ⟨l44, l45, Al44, cl44, Al45, cl45, F, rfl, H⟩
    have R0 := H.ext
    unfold ref07_best_k17 at F
    refine CW.seqJ (fun ρ wl2 => (∃ (m1 : List (List Int)), ref07_best_k1 m1 = some res ∧ ρ = [(2, .slice none 0 0), (3, .slice A9_0 m1.length c9_0)] ∧ Hp w wl2 [.tab A9_0 c9_0 22 hs9_0 3 1 (encM encN m1)])) ?_ ?_
    ·
      rintro _ wl2 ⟨m1, F, rfl, H⟩
      have R0 := H.ext
      unfold ref07_best_k1 at F
      refine CW.seq fun K3 hK3 => ?_
      refine CW.region ?_
      refine LW.pure rfl rfl (RV.move rfl) ?_
      refine LW.pure rfl rfl (RV.assign rfl) ?_
      refine LW.nil (hK3 _ _ ?_)
      refine CW.ret ?_
      obtain rfl := Option.some.inj F
      refine ⟨_, (ResOK.one rfl), ?_⟩
      exact ⟨A9_0, c9_0, hs9_0, (by first | rfl | (simp; done) | (simp; omega)), H⟩
    ·
      intro K4 hK4 jK36090
      refine CW.block ?_
      refine CW.loop (fun meas ρ wl3 => ∃ (m3 : List (List Int)) (l5 : List Int) (l1 : List Int), ref07_best_L8 a0 meas m3 l5 l1 = some res ∧ ρ = [(1, .pointer (some (⟨b1, 0, none⟩))), (2, .slice none 0 0), (3, .slice A9_0 m3.length c9_0), (4, .slice Al44 l5.length cl44), (5, .slice Al45 l1.length cl45)] ∧ Hp w wl3 [.tab A9_0 c9_0 22 hs9_0 3 1 (encM encN m3), .own Al44 cl44 3 1 (List.map encN l5), .own Al45 cl45 3 1 (List.map encN l1), .blk b1 25 [.slice A_a0_supply a0.supply.length c_a0_supply, .slice A_a0_demand a0.demand.length c_a0_demand, .slice A_a0_cost a0.cost.length c_a0_cost]]) FU ⟨_, ?_, r2, l44, l45, F, rfl, H⟩ ?_
      · exact ⟨rfl, rfl, (look_slice rfl (by first | rfl | (simp; done) | (simp; omega))), (look_slice rfl (by first | rfl | (simp; done) | (simp; omega))), (look_slice rfl (by first | rfl | (simp; done) | (simp; omega))), trivial⟩
      rintro mk1 _ wl3 ⟨m3, l5, l1, F, rfl, H⟩
      have R0 := H.ext
      replace F := ref07_best_L8_s F
      obtain ⟨mk1, rfl, F⟩ := F
      generalize hrec1 : ref07_best_L8 a0 mk1 = rec1 at F
      unfold ref07_best_B8 at F
      refine CW.seq fun K5 hK5 => ?_
      refine CW.seq fun K6 hK6 => ?_
      obtain ⟨r1, hr1, F⟩ := bnd_some F
      refine CW.region ?_
      refine LW.pure rfl rfl (RV.move rfl) ?_
      refine LW.go rfl rfl (OW.call Tc77 rfl (ref07_sum_ok (a0 := l5) (H.own 1 rfl).sl hr1) ?_)
      rintro _ w3 ⟨rfl, E2⟩
      refine ⟨_, rfl, ?_⟩
      replace H := H.grow E2
      replace R0 := H.ext
      refine LW.pure rfl rfl (RV.gtr rfl rfl) ?_
      refine LW.nil (hK6 _ _ ?_)
      by_cases hp1 : (0 : Int) < r1
      ·
        replace F := ite_y hp1 F
        have hq1 := dec_t hp1
        refine CW.condT rfl hq1 ?_
        refine CW.skip (hK5 _ _ ?_)
        refine CW.block ?_
        refine CW.seqJ (fun ρ wl4 => (∃ (l40 : List Int) (l43 : List Int) (Al40 : Option Addr) (cl40 : Nat) (Al43 : Option Addr) (cl43 : Nat), ref07_best_k16 a0 m3 l5 l1 rec1 l40 l43 = some res ∧ ρ = [(1, .pointer (some (⟨b1, 0, none⟩))), (2, .slice none 0 0), (3, .slice A9_0 m3.length c9_0), (4, .slice Al44 l5.length cl44), (5, .slice Al45 l1.length cl45), (6, .slice Al40 l40.length cl40), (7, .slice Al43 l43.length cl43)] ∧ Hp w wl4 [.tab A9_0 c9_0 22 hs9_0 3 1 (encM encN m3), .own Al44 cl44 3 1 (List.map encN l5), .own Al45 cl45 3 1 (List.map encN l1), .own Al40 cl40 3 1 (List.map encN l40), .own Al43 cl43 3 1 (List.map encN l43), .blk b1 25 [.slice A_a0_supply a0.supply.length c_a0_supply, .slice A_a0_demand a0.demand.length c_a0_demand, .slice A_a0_cost a0.cost.length c_a0_cost]])) ?_ ?_
        ·
          rintro _ wl4 ⟨l40, l43, Al40, cl40, Al43, cl43, F, rfl, H⟩
          have R0 := H.ext
          unfold ref07_best_k16 at F
          refine CW.seqJ (fun ρ wl5 => (∃ (l33 : List Int) (l41 : List Int) (Al33 : Option Addr) (cl33 : Nat) (Al41 : Option Addr) (cl41 : Nat), ref07_best_k15 a0 m3 l5 l1 rec1 l40 l43 l33 l41 = some res ∧ ρ = [(1, .pointer (some (⟨b1, 0, none⟩))), (2, .slice none 0 0), (3, .slice A9_0 m3.length c9_0), (4, .slice Al44 l5.length cl44), (5, .slice Al45 l1.length cl45), (6, .slice Al40 l40.length cl40), (7, .slice Al43 l43.length cl43), (8, .slice Al33 l33.length cl33), (9, .slice Al41 l41.length cl41)] ∧ Hp w wl5 [.tab A9_0 c9_0 22 hs9_0 3 1 (encM encN m3), .own Al44 cl44 3 1 (List.map encN l5), .own Al45 cl45 3 1 (List.map encN l1), .own Al40 cl40 3 1 (List.map encN l40), .own Al43 cl43 3 1 (List.map encN l43), .own Al33 cl33 3 1 (List.map encN l33), .own Al41 cl41 3 1 (List.map encN l41), .blk b1 25 [.slice A_a0_supply a0.supply.length c_a0_supply, .slice A_a0_demand a0.demand.length c_a0_demand, .slice A_a0_cost a0.cost.length c_a0_cost]])) ?_ ?_
          ·
            rintro _ wl5 ⟨l33, l41, Al33, cl33, Al41, cl41, F, rfl, H⟩
            have R0 := H.ext
            unfold ref07_best_k15 at F
            refine CW.seqJ (fun ρ wl6 => (∃ (l34 : List Int), ref07_best_k14 a0 m3 l5 l1 rec1 l40 l33 l41 l34 = some res ∧ ρ = [(1, .pointer (some (⟨b1, 0, none⟩))), (2, .slice none 0 0), (3, .slice A9_0 m3.length c9_0), (4, .slice Al44 l5.length cl44), (5, .slice Al45 l1.length cl45), (6, .slice Al40 l40.length cl40), (7, .slice Al43 l34.length cl43), (8, .slice Al33 l33.length cl33), (9, .slice Al41 l41.length cl41)] ∧ Hp w wl6 [.tab A9_0 c9_0 22 hs9_0 3 1 (encM encN m3), .own Al44 cl44 3 1 (List.map encN l5), .own Al45 cl45 3 1 (List.map encN l1), .own Al40 cl40 3 1 (List.map encN l40), .own Al43 cl43 3 1 (List.map encN l34), .own Al33 cl33 3 1 (List.map encN l33), .own Al41 cl41 3 1 (List.map encN l41), .blk b1 25 [.slice A_a0_supply a0.supply.length c_a0_supply, .slice A_a0_demand a0.demand.length c_a0_demand, .slice A_a0_cost a0.cost.length c_a0_cost]])) ?_ ?_
            ·
              rintro _ wl6 ⟨l34, F, rfl, H⟩
              have R0 := H.ext
              unfold ref07_best_k14 at F
              refine CW.seqJ (fun ρ wl7 => (∃ (l35 : List Int) (l36 : List Int), ref07_best_k12 a0 m3 l5 l1 rec1 l33 l34 l35 l36 = some res ∧ ρ = [(1, .pointer (some (⟨b1, 0, none⟩))), (2, .slice none 0 0), (3, .slice A9_0 m3.length c9_0), (4, .slice Al44 l5.length cl44), (5, .slice Al45 l1.length cl45), (6, .slice Al40 l35.length cl40), (7, .slice Al43 l34.length cl43), (8, .slice Al33 l33.length cl33), (9, .slice Al41 l36.length cl41)] ∧ Hp w wl7 [.tab A9_0 c9_0 22 hs9_0 3 1 (encM encN m3), .own Al44 cl44 3 1 (List.map encN l5), .own Al45 cl45 3 1 (List.map encN l1), .own Al40 cl40 3 1 (List.map encN l35), .own Al43 cl43 3 1 (List.map encN l34), .own Al33 cl33 3 1 (List.map encN l33), .own Al41 cl41 3 1 (List.map encN l36), .blk b1 25 [.slice A_a0_supply a0.supply.length c_a0_supply, .slice A_a0_demand a0.demand.length c_a0_demand, .slice A_a0_cost a0.cost.length c_a0_cost]])) ?_ ?_
              ·
                rintro _ wl7 ⟨l35, l36, F, rfl, H⟩
                have R0 := H.ext
                unfold ref07_best_k12 at F
                refine CW.seqJ (fun ρ wl8 => (∃ (l6 : List Int) (l2 : List Int) (l3 : List Int), ref07_best_k5 m3 l5 l1 rec1 l6 l2 l3 = some res ∧ ρ = [(1, .pointer (some (⟨b1, 0, none⟩))), (2, .slice none 0 0), (3, .slice A9_0 m3.length c9_0), (4, .slice Al44 l5.length cl44), (5, .slice Al45 l1.length cl45), (7, .slice Al43 l6.length cl43), (8, .slice Al33 l2.length cl33), (9, .slice Al41 l3.length cl41)] ∧ Hp w wl8 [.tab A9_0 c9_0 22 hs9_0 3 1 (encM encN m3), .own Al44 cl44 3 1 (List.map encN l5), .own Al45 cl45 3 1 (List.map encN l1), .own Al43 cl43 3 1 (List.map encN l6), .own Al33 cl33 3 1 (List.map encN l2), .own Al41 cl41 3 1 (List.map encN l3), .blk b1 25 [.slice A_a0_supply a0.supply.length c_a0_supply, .slice A_a0_demand a0.demand.length c_a0_demand, .slice A_a0_cost a0.cost.length c_a0_cost]])) ?_ ?_
                ·
                  rintro _ wl8 ⟨l6, l2, l3, F, rfl, H⟩
                  have R0 := H.ext
                  unfold ref07_best_k5 at F
                  refine CW.seq fun K7 hK7 => ?_
                  refine CW.region ?_
                  refine LW.pure rfl rfl (RV.assign rfl) ?_
                  refine LW.nil (hK7 _ _ ?_)
                  refine CW.seqJ (fun ρ wl9 => (∃ (t15_1 : Int), ref07_best_k2 m3 l5 l1 rec1 l2 l3 t15_1 = some res ∧ ρ = [(1, .pointer (some (⟨b1, 0, none⟩))), (2, .slice none 0 0), (3, .slice A9_0 m3.length c9_0), (4, .slice Al44 l5.length cl44), (5, .slice Al45 l1.length cl45), (8, .slice Al33 l2.length cl33), (9, .slice Al41 l3.length cl41), (15, .int .i64 t15_1)] ∧ Hp w wl9 [.tab A9_0 c9_0 22 hs9_0 3 1 (encM encN m3), .own Al44 cl44 3 1 (List.map encN l5), .own Al45 cl45 3 1 (List.map encN l1), .own Al33 cl33 3 1 (List.map encN l2), .own Al41 cl41 3 1 (List.map encN l3), .blk b1 25 [.slice A_a0_supply a0.supply.length c_a0_supply, .slice A_a0_demand a0.demand.length c_a0_demand, .slice A_a0_cost a0.cost.length c_a0_cost]])) ?_ ?_
                  ·
                    rintro _ wl9 ⟨t15_1, F, rfl, H⟩
                    have R0 := H.ext
                    unfold ref07_best_k2 at F
                    refine CW.seq fun K8 hK8 => ?_
                    obtain ⟨x1, hbx1, hx1, F⟩ := ix_some F
                    obtain ⟨hg1, F⟩ := gd_some F
                    obtain ⟨x12, hbx12, hx12, F⟩ := ix_some F
                    refine CW.region ?_
                    refine LW.pure rfl rfl (RV.move rfl) ?_
                    refine LW.pure rfl rfl (RV.move rfl) ?_
                    refine LW.pure rfl rfl (RV.indexAddr Ts22 rfl rfl hbx1 ((H.own 2 rfl).sl.addr_ hx1)) ?_
                    refine LW.pure rfl rfl (RV.load1 Tk3 rfl ((H.own 2 rfl).sl.at_ hx1) rfl) ?_
                    refine LW.pure rfl rfl (RV.sub rfl rfl hg1) ?_
                    refine LW.pure rfl rfl (RV.indexAddr Ts22 rfl rfl hbx12 ((H.own 2 rfl).sl.addr_ hx12)) ?_
                    refine LW.go rfl rfl (OW.storeO (enc := encN) (vs := [.int .i64 (x1 - 1)]) 0 (x1 - 1) Tk3 rfl rfl (H.own 2 rfl) (fun _ => rfl) rfl hx12 rfl rfl (by decide) rfl rfl fun w4 M1 O1 => ?_)
                    replace H : Hp w w4 [.tab A9_0 c9_0 22 hs9_0 3 1 (encM encN m3), .own Al44 cl44 3 1 (List.map encN l5), .own Al45 cl45 3 1 (List.map encN ((l1.set (Int.toNat t15_1) (x1 - 1)))), .own Al33 cl33 3 1 (List.map encN l2), .own Al41 cl41 3 1 (List.map encN l3), .blk b1 25 [.slice A_a0_supply a0.supply.length c_a0_supply, .slice A_a0_demand a0.demand.length c_a0_demand, .slice A_a0_cost a0.cost.length c_a0_cost]] := H.mod 2 rfl M1 O1 (.inl rfl)
                    replace R0 := H.ext
                    refine LW.nil (hK8 _ _ ?_)
                    refine CW.seq fun K9 hK9 => ?_
                    refine CW.region ?_
                    refine LW.pure rfl rfl (RV.move rfl) ?_
                    refine LW.pure rfl rfl (RV.assign rfl) ?_
                    refine LW.nil (hK9 _ _ ?_)
                    refine CW.block ?_
                    refine CW.loop (fun meas ρ wl10 => ∃ (t17_1 : Int) (m2 : List (List Int)) (l4 : List Int), ref07_best_L1 l1 rec1 l2 l3 t15_1 x1 meas t17_1 m2 l4 = some res ∧ ρ = [(1, .pointer (some (⟨b1, 0, none⟩))), (2, .slice none 0 0), (3, .slice A9_0 m2.length c9_0), (4, .slice Al44 l4.length cl44), (5, .slice Al45 l1.length cl45), (8, .slice Al33 l2.length cl33), (9, .slice Al41 l3.length cl41), (17, .int .i64 t17_1)] ∧ Hp w wl10 [.tab A9_0 c9_0 22 hs9_0 3 1 (encM encN m2), .own Al44 cl44 3 1 (List.map encN l4), .own Al45 cl45 3 1 (List.map encN ((l1.set (Int.toNat t15_1) (x1 - 1)))), .own Al33 cl33 3 1 (List.map encN l2), .own Al41 cl41 3 1 (List.map encN l3), .blk b1 25 [.slice A_a0_supply a0.supply.length c_a0_supply, .slice A_a0_demand a0.demand.length c_a0_demand, .slice A_a0_cost a0.cost.length c_a0_cost]]) FU ⟨_, ?_, t15_1, m3, l5, F, rfl, H⟩ ?_
                    · exact ⟨rfl, rfl, (look_slice rfl (by first | rfl | (simp; done) | (simp; omega))), (look_slice rfl (by first | rfl | (simp; done) | (simp; omega))), (look_slice rfl (by first | rfl | (simp; done) | (simp; omega))), (look_slice rfl (by first | rfl | (simp; done) | (simp; omega))), (look_slice rfl (by first | rfl | (simp; done) | (simp; omega))), rfl, trivial⟩
                    rintro mk2 _ wl10 ⟨t17_1, m2, l4, F, rfl, H⟩
                    have R0 := H.ext
                    replace F := ref07_best_L1_s F
                    obtain ⟨mk2, rfl, F⟩ := F
                    generalize hrec2 : ref07_best_L1 l1 rec1 l2 l3 t15_1 x1 mk2 = rec2 at F
                    unfold ref07_best_B1 at F
                    refine CW.seq fun K10 hK10 => ?_
                    refine CW.seq fun K11 hK11 => ?_
                    refine CW.region ?_
                    refine LW.pure rfl rfl (RV.move rfl) ?_
                    refine LW.pure rfl rfl (RV.geq rfl rfl) ?_
                    refine LW.nil (hK11 _ _ ?_)
                    by_cases hp2 : (0 : Int) ≤ t17_1
                    ·
                      replace F := ite_y hp2 F
                      have hq2 := dec_t hp2
                      refine CW.condT rfl hq2 ?_
                      refine CW.skip (hK10 _ _ ?_)
                      refine CW.block ?_
                      refine CW.seq fun K12 hK12 => ?_
                      obtain ⟨x2, hbx2, hx2, F⟩ := ix_some F
                      refine CW.region ?_
                      refine LW.pure rfl rfl (RV.move rfl) ?_
                      refine LW.pure rfl rfl (RV.move rfl) ?_
                      refine LW.pure rfl rfl (RV.indexAddr Ts22 rfl rfl hbx2 ((H.own 3 rfl).sl.addr_ hx2)) ?_
                      refine LW.pure rfl rfl (RV.load1 Tk3 rfl ((H.own 3 rfl).sl.at_ hx2) rfl) ?_
                      refine LW.pure rfl rfl (RV.assign rfl) ?_
                      refine LW.nil (hK12 _ _ ?_)
                      refine CW.seq fun K13 hK13 => ?_
                      obtain ⟨x3, hbx3, hx3, F⟩ := ix_some F
                      obtain ⟨x4, hbx4, hx4, F⟩ := ix_some F
                      obtain ⟨hg2, F⟩ := gd_some F
                      obtain ⟨x5, hbx5, hx5, F⟩ := ix_some F
                      refine CW.region ?_
                      refine LW.pure rfl rfl (RV.move rfl) ?_
                      refine LW.pure rfl rfl (RV.move rfl) ?_
                      obtain ⟨B1, e1, hh1⟩ := (H.tab 0 rfl).hd hx3
                      refine LW.pure rfl rfl (RV.indexAddr Ts23 rfl rfl hbx3 ((H.tab 0 rfl).addr_ hx3)) ?_
                      refine LW.pure rfl rfl (RV.load1 Tk22 rfl ((H.tab 0 rfl).cell hx3 hh1) rfl) ?_
                      refine LW.pure rfl rfl (RV.move rfl) ?_
                      refine LW.pure rfl rfl (RV.indexAddr Ts22 rfl rfl hbx4 (((H.tab 0 rfl).rowO hx3 hh1).sl.addr_ hx4)) ?_
                      refine LW.pure rfl rfl (RV.load1 Tk3 rfl (((H.tab 0 rfl).rowO hx3 hh1).sl.at_ hx4) rfl) ?_
                      refine LW.pure rfl rfl (RV.add rfl rfl hg2) ?_
                      refine LW.pure rfl rfl (RV.indexAddr Ts22 rfl rfl hbx5 (((H.tab 0 rfl).rowO hx3 hh1).sl.addr_ hx5)) ?_
                      refine LW.go rfl rfl (OW.storeO (enc := encN) (vs := [.int .i64 (x4 + 1)]) 0 (x4 + 1) Tk3 rfl rfl ((H.tab 0 rfl).rowO hx3 hh1) (fun _ => rfl) rfl hx5 rfl rfl (by decide) rfl rfl fun w5 M2 O2 => ?_)
                      replace H : Hp w w5 [.tab A9_0 c9_0 22 hs9_0 3 1 (encM encN ((m2.set (Int.toNat x2) (x3.set (Int.toNat t17_1) (x4 + 1))))), .own Al44 cl44 3 1 (List.map encN l4), .own Al45 cl45 3 1 (List.map encN ((l1.set (Int.toNat t15_1) (x1 - 1)))), .own Al33 cl33 3 1 (List.map encN l2), .own Al41 cl41 3 1 (List.map encN l3), .blk b1 25 [.slice A_a0_supply a0.supply.length c_a0_supply, .slice A_a0_demand a0.demand.length c_a0_demand, .slice A_a0_cost a0.cost.length c_a0_cost]] := H.tabRow 0 rfl hh1 hx3 (by simp) M2 O2
                      replace R0 := H.ext
                      have hrw1 : ((m2.set (Int.toNat x2) (x3.set (Int.toNat t17_1) (x4 + 1))))[Int.toNat x2]? = some (x3.set (Int.toNat t17_1) (x4 + 1)) := List.getElem?_set_self (lt_of_at hx3)
                      refine LW.nil (hK13 _ _ ?_)
                      refine CW.seq fun K14 hK14 => ?_
                      obtain ⟨x6, hbx6, hx6, F⟩ := ix_some F
                      refine CW.region ?_
                      refine LW.pure rfl rfl (RV.move rfl) ?_
                      refine LW.pure rfl rfl (RV.move rfl) ?_
                      refine LW.pure rfl rfl (RV.indexAddr Ts22 rfl rfl hbx6 ((H.own 4 rfl).sl.addr_ hx6)) ?_
                      refine LW.pure rfl rfl (RV.load1 Tk3 rfl ((H.own 4 rfl).sl.at_ hx6) rfl) ?_
                      refine LW.pure rfl rfl (RV.assign rfl) ?_
                      refine LW.nil (hK14 _ _ ?_)
                      refine CW.seq fun K15 hK15 => ?_
                      refine CW.region ?_
                      refine LW.pure rfl rfl (RV.move rfl) ?_
                      refine LW.pure rfl rfl (RV.geq rfl rfl) ?_
                      refine LW.nil (hK15 _ _ ?_)
                      by_cases hp3 : (0 : Int) ≤ x6
                      ·
                        replace F := ite_y hp3 F
                        have hq3 := dec_t hp3
                        refine CW.condT rfl hq3 ?_
                        obtain ⟨x7, hbx7, hx7, F⟩ := ix_some F
                        obtain ⟨x8, hbx8, hx8, F⟩ := ix_some F
                        obtain ⟨hg3, F⟩ := gd_some F
                        obtain ⟨x9, hbx9, hx9, F⟩ := ix_some F
                        refine CW.region ?_
                        refine LW.pure rfl rfl (RV.move rfl) ?_
                        refine LW.pure rfl rfl (RV.move rfl) ?_
                        obtain ⟨B2, e2, hh2⟩ := (H.tab 0 rfl).hd hx7
                        refine LW.pure rfl rfl (RV.indexAddr Ts23 rfl rfl (by first | exact hbx7 | (simp at hbx7 ⊢; omega)) ((H.tab 0 rfl).addr_ hx7)) ?_
                        refine LW.pure rfl rfl (RV.load1 Tk22 rfl ((H.tab 0 rfl).cell hx7 hh2) rfl) ?_
                        refine LW.pure rfl rfl (RV.move rfl) ?_
                        refine LW.pure rfl rfl (RV.indexAddr Ts22 rfl rfl hbx8 (((H.tab 0 rfl).rowO hx7 hh2).sl.addr_ hx8)) ?_
                        refine LW.pure rfl rfl (RV.load1 Tk3 rfl (((H.tab 0 rfl).rowO hx7 hh2).sl.at_ hx8) rfl) ?_
                        refine LW.pure rfl rfl (RV.sub rfl rfl hg3) ?_
                        refine LW.pure rfl rfl (RV.indexAddr Ts22 rfl rfl hbx9 (((H.tab 0 rfl).rowO hx7 hh2).sl.addr_ hx9)) ?_
                        refine LW.go rfl rfl (OW.storeO (enc := encN) (vs := [.int .i64 (x8 - 1)]) 0 (x8 - 1) Tk3 rfl rfl ((H.tab 0 rfl).rowO hx7 hh2) (fun _ => rfl) rfl hx9 rfl rfl (by decide) rfl rfl fun w6 M3 O3 => ?_)
                        replace H : Hp w w6 [.tab A9_0 c9_0 22 hs9_0 3 1 (encM encN ((((m2.set (Int.toNat x2) (x3.set (Int.toNat t17_1) (x4 + 1)))).set (Int.toNat x2) (x7.set (Int.toNat x6) (x8 - 1))))), .own Al44 cl44 3 1 (List.map encN l4), .own Al45 cl45 3 1 (List.map encN ((l1.set (Int.toNat t15_1) (x1 - 1)))), .own Al33 cl33 3 1 (List.map encN l2), .own Al41 cl41 3 1 (List.map encN l3), .blk b1 25 [.slice A_a0_supply a0.supply.length c_a0_supply, .slice A_a0_demand a0.demand.length c_a0_demand, .slice A_a0_cost a0.cost.length c_a0_cost]] := H.tabRow 0 rfl hh2 hx7 (by simp) M3 O3
                        replace R0 := H.ext
                        have hrw2 : ((((m2.set (Int.toNat x2) (x3.set (Int.toNat t17_1) (x4 + 1)))).set (Int.toNat x2) (x7.set (Int.toNat x6) (x8 - 1))))[Int.toNat x2]? = some (x7.set (Int.toNat x6) (x8 - 1)) := List.getElem?_set_self (lt_of_at hx7)
                        refine LW.nil ?_
                        subst hrec2
                        refine ⟨mk2, Nat.lt_succ_self _, _, ?_, x6, ((((m2.set (Int.toNat x2) (x3.set (Int.toNat t17_1) (x4 + 1)))).set (Int.toNat x2) (x7.set (Int.toNat x6) (x8 - 1)))), l4, F, rfl, H⟩
                        exact ⟨rfl, rfl, (look_slice rfl (by first | rfl | (simp; done) | (simp; omega))), (look_slice rfl (by first | rfl | (simp; done) | (simp; omega))), (look_slice rfl (by first | rfl | (simp; done) | (simp; omega))), (look_slice rfl (by first | rfl | (simp; done) | (simp; omega))), (look_slice rfl (by first | rfl | (simp; done) | (simp; omega))), rfl, trivial⟩
                      ·
                        replace F := ite_n hp3 F
                        have hq3 := dec_f hp3
                        refine CW.condF rfl hq3 ?_
                        obtain ⟨x10, hbx10, hx10, F⟩ := ix_some F
                        obtain ⟨hg4, F⟩ := gd_some F
                        obtain ⟨x11, hbx11, hx11, F⟩ := ix_some F
                        refine CW.region ?_
                        refine LW.pure rfl rfl (RV.move rfl) ?_
                        refine LW.pure rfl rfl (RV.move rfl) ?_
                        refine LW.pure rfl rfl (RV.indexAddr Ts22 rfl rfl hbx10 ((H.own 1 rfl).sl.addr_ hx10)) ?_
                        refine LW.pure rfl rfl (RV.load1 Tk3 rfl ((H.own 1 rfl).sl.at_ hx10) rfl) ?_
                        refine LW.pure rfl rfl (RV.sub rfl rfl hg4) ?_
                        refine LW.pure rfl rfl (RV.indexAddr Ts22 rfl rfl hbx11 ((H.own 1 rfl).sl.addr_ hx11)) ?_
                        refine LW.go rfl rfl (OW.storeO (enc := encN) (vs := [.int .i64 (x10 - 1)]) 0 (x10 - 1) Tk3 rfl rfl (H.own 1 rfl) (fun _ => rfl) rfl hx11 rfl rfl (by decide) rfl rfl fun w7 M4 O4 => ?_)
                        replace H : Hp w w7 [.tab A9_0 c9_0 22 hs9_0 3 1 (encM encN ((m2.set (Int.toNat x2) (x3.set (Int.toNat t17_1) (x4 + 1))))), .own Al44 cl44 3 1 (List.map encN ((l4.set (Int.toNat x2) (x10 - 1)))), .own Al45 cl45 3 1 (List.map encN ((l1.set (Int.toNat t15_1) (x1 - 1)))), .own Al33 cl33 3 1 (List.map encN l2), .own Al41 cl41 3 1 (List.map encN l3), .blk b1 25 [.slice A_a0_supply a0.supply.length c_a0_supply, .slice A_a0_demand a0.demand.length c_a0_demand, .slice A_a0_cost a0.cost.length c_a0_cost]] := H.mod 1 rfl M4 O4 (.inl rfl)
                        replace R0 := H.ext
                        refine LW.nil ?_
                        subst hrec2
                        refine ⟨mk2, Nat.lt_succ_self _, _, ?_, x6, ((m2.set (Int.toNat x2) (x3.set (Int.toNat t17_1) (x4 + 1)))), ((l4.set (Int.toNat x2) (x10 - 1))), F, rfl, H⟩
                        exact ⟨rfl, rfl, (look_slice rfl (by first | rfl | (simp; done) | (simp; omega))), (look_slice rfl (by first | rfl | (simp; done) | (simp; omega))), (look_slice rfl (by first | rfl | (simp; done) | (simp; omega))), (look_slice rfl (by first | rfl | (simp; done) | (simp; omega))), (look_slice rfl (by first | rfl | (simp; done) | (simp; omega))), rfl, trivial⟩
                    ·
                      replace F := ite_n hp2 F
                      have hq2 := dec_f hp2
                      refine CW.condF rfl hq2 ?_
                      refine CW.exit ?_
                      replace H := H.pick (L' := [.tab A9_0 c9_0 22 hs9_0 3 1 (encM encN m2), .own Al44 cl44 3 1 (List.map encN l4), .own Al45 cl45 3 1 (List.map encN ((l1.set (Int.toNat t15_1) (x1 - 1)))), .blk b1 25 [.slice A_a0_supply a0.supply.length c_a0_supply, .slice A_a0_demand a0.demand.length c_a0_demand, .slice A_a0_cost a0.cost.length c_a0_cost]]) [0, 1, 2, 5] (by decide) rfl
                      replace R0 := H.ext
                      subst hrec1
                      refine ⟨mk1, Nat.lt_succ_self _, _, ?_, m2, l4, ((l1.set (Int.toNat t15_1) (x1 - 1))), F, rfl, H⟩
                      exact ⟨rfl, rfl, (look_slice rfl (by first | rfl | (simp; done) | (simp; omega))), (look_slice rfl (by first | rfl | (simp; done) | (simp; omega))), (look_slice rfl (by first | rfl | (simp; done) | (simp; omega))), trivial⟩
                  ·
                    intro K16 hK16 jK46122
                    refine CW.seq fun K17 hK17 => ?_
                    refine CW.region ?_
                    refine LW.pure rfl rfl (RV.assign rfl) ?_
                    refine LW.nil (hK17 _ _ ?_)
                    refine CW.block ?_
                    refine CW.loop (fun meas ρ wl11 => ∃ (t15_3 : Int) (t16_1 : Int), ref07_best_L2 m3 l5 l1 rec1 l6 l2 l3 meas t15_3 t16_1 = some res ∧ ρ = [(1, .pointer (some (⟨b1, 0, none⟩))), (2, .slice none 0 0), (3, .slice A9_0 m3.length c9_0), (4, .slice Al44 l5.length cl44), (5, .slice Al45 l1.length cl45), (7, .slice Al43 l6.length cl43), (8, .slice Al33 l2.length cl33), (9, .slice Al41 l3.length cl41), (15, .int .i64 t15_3), (16, .int .i64 t16_1)] ∧ Hp w wl11 [.tab A9_0 c9_0 22 hs9_0 3 1 (encM encN m3), .own Al44 cl44 3 1 (List.map encN l5), .own Al45 cl45 3 1 (List.map encN l1), .own Al43 cl43 3 1 (List.map encN l6), .own Al33 cl33 3 1 (List.map encN l2), .own Al41 cl41 3 1 (List.map encN l3), .blk b1 25 [.slice A_a0_supply a0.supply.length c_a0_supply, .slice A_a0_demand a0.demand.length c_a0_demand, .slice A_a0_cost a0.cost.length c_a0_cost]]) FU ⟨_, ?_, ((-1 : Int)), ((0 : Int)), F, rfl, H⟩ ?_
                    · exact ⟨rfl, rfl, (look_slice rfl (by first | rfl | (simp; done) | (simp; omega))), (look_slice rfl (by first | rfl | (simp; done) | (simp; omega))), (look_slice rfl (by first | rfl | (simp; done) | (simp; omega))), (look_slice rfl (by first | rfl | (simp; done) | (simp; omega))), (look_slice rfl (by first | rfl | (simp; done) | (simp; omega))), (look_slice rfl (by first | rfl | (simp; done) | (simp; omega))), rfl, rfl, trivial⟩
                    rintro mk3 _ wl11 ⟨t15_3, t16_1, F, rfl, H⟩
                    have R0 := H.ext
                    replace F := ref07_best_L2_s F
                    obtain ⟨mk3, rfl, F⟩ := F
                    generalize hrec3 : ref07_best_L2 m3 l5 l1 rec1 l6 l2 l3 mk3 = rec3 at F
                    unfold ref07_best_B2 at F
                    refine CW.seq fun K18 hK18 => ?_
                    refine CW.seq fun K19 hK19 => ?_
                    refine CW.region ?_
                    refine LW.pure rfl rfl (RV.move rfl) ?_
                    refine LW.pure rfl rfl (RV.move rfl) ?_
                    refine LW.pure rfl rfl (RV.len Ts22 rfl) ?_
                    refine LW.pure rfl rfl (RV.lss rfl rfl) ?_
                    refine LW.nil (hK19 _ _ ?_)
                    by_cases hp4 : t16_1 < ((l1.length : Int))
                    ·
                      replace F := ite_y hp4 F
                      have hq4 := dec_t hp4
                      refine CW.condT rfl hq4 ?_
                      refine CW.skip (hK18 _ _ ?_)
                      refine CW.seqJ (fun ρ wl12 => (∃ (t15_2 : Int), ref07_best_k3 t16_1 rec3 t15_2 = some res ∧ ρ = [(1, .pointer (some (⟨b1, 0, none⟩))), (2, .slice none 0 0), (3, .slice A9_0 m3.length c9_0), (4, .slice Al44 l5.length cl44), (5, .slice Al45 l1.length cl45), (7, .slice Al43 l6.length cl43), (8, .slice Al33 l2.length cl33), (9, .slice Al41 l3.length cl41), (15, .int .i64 t15_2), (16, .int .i64 t16_1)] ∧ Hp w wl12 [.tab A9_0 c9_0 22 hs9_0 3 1 (encM encN m3), .own Al44 cl44 3 1 (List.map encN l5), .own Al45 cl45 3 1 (List.map encN l1), .own Al43 cl43 3 1 (List.map encN l6), .own Al33 cl33 3 1 (List.map encN l2), .own Al41 cl41 3 1 (List.map encN l3), .blk b1 25 [.slice A_a0_supply a0.supply.length c_a0_supply, .slice A_a0_demand a0.demand.length c_a0_demand, .slice A_a0_cost a0.cost.length c_a0_cost]])) ?_ ?_
                      ·
                        rintro _ wl12 ⟨t15_2, F, rfl, H⟩
                        have R0 := H.ext
                        unfold ref07_best_k3 at F
                        obtain ⟨hg5, F⟩ := gd_some F
                        refine CW.region ?_
                        refine LW.pure rfl rfl (RV.move rfl) ?_
                        refine LW.pure rfl rfl (RV.add rfl rfl hg5) ?_
                        refine LW.pure rfl rfl (RV.assign rfl) ?_
                        refine LW.nil ?_
                        subst hrec3
                        refine ⟨mk3, Nat.lt_succ_self _, _, ?_, t15_2, (t16_1 + 1), F, rfl, H⟩
                        exact ⟨rfl, rfl, (look_slice rfl (by first | rfl | (simp; done) | (simp; omega))), (look_slice rfl (by first | rfl | (simp; done) | (simp; omega))), (look_slice rfl (by first | rfl | (simp; done) | (simp; omega))), (look_slice rfl (by first | rfl | (simp; done) | (simp; omega))), (look_slice rfl (by first | rfl | (simp; done) | (simp; omega))), (look_slice rfl (by first | rfl | (simp; done) | (simp; omega))), rfl, rfl, trivial⟩
                      ·
                        intro K20 hK20 jK46137
                        refine CW.block ?_
                        refine CW.seqJ (fun ρ wl13 => (∃ (t217_1 : Bool), ref07_best_k4 t15_3 t16_1 rec3 t217_1 = some res ∧ ρ = [(1, .pointer (some (⟨b1, 0, none⟩))), (2, .slice none 0 0), (3, .slice A9_0 m3.length c9_0), (4, .slice Al44 l5.length cl44), (5, .slice Al45 l1.length cl45), (7, .slice Al43 l6.length cl43), (8, .slice Al33 l2.length cl33), (9, .slice Al41 l3.length cl41), (15, .int .i64 t15_3), (16, .int .i64 t16_1), (217, .bool t217_1)] ∧ Hp w wl13 [.tab A9_0 c9_0 22 hs9_0 3 1 (encM encN m3), .own Al44 cl44 3 1 (List.map encN l5), .own Al45 cl45 3 1 (List.map encN l1), .own Al43 cl43 3 1 (List.map encN l6), .own Al33 cl33 3 1 (List.map encN l2), .own Al41 cl41 3 1 (List.map encN l3), .blk b1 25 [.slice A_a0_supply a0.supply.length c_a0_supply, .slice A_a0_demand a0.demand.length c_a0_demand, .slice A_a0_cost a0.cost.length c_a0_cost]])) ?_ ?_
                        ·
                          rintro _ wl13 ⟨t217_1, F, rfl, H⟩
                          have R0 := H.ext
                          unfold ref07_best_k4 at F
                          by_cases hp5 : t217_1 = true
                          ·
                            replace F := ite_y hp5 F
                            have hq5 : t217_1 = true := hp5
                            refine CW.condT rfl hq5 ?_
                            refine CW.region ?_
                            refine LW.pure rfl rfl (RV.move rfl) ?_
                            refine LW.pure rfl rfl (RV.assign rfl) ?_
                            refine LW.nil (jK46137 _ _ ⟨_, ?_, ⟨t16_1, F, rfl, H⟩⟩)
                            exact ⟨rfl, rfl, (look_slice rfl (by first | rfl | (simp; done) | (simp; omega))), (look_slice rfl (by first | rfl | (simp; done) | (simp; omega))), (look_slice rfl (by first | rfl | (simp; done) | (simp; omega))), (look_slice rfl (by first | rfl | (simp; done) | (simp; omega))), (look_slice rfl (by first | rfl | (simp; done) | (simp; omega))), (look_slice rfl (by first | rfl | (simp; done) | (simp; omega))), rfl, rfl, trivial⟩
                          ·
                            replace F := ite_n hp5 F
                            have hq5 : t217_1 = false := raw_f hp5
                            refine CW.condF rfl hq5 ?_
                            refine CW.skip (jK46137 _ _ ⟨_, ?_, ⟨t15_3, F, rfl, H⟩⟩)
                            exact ⟨rfl, rfl, (look_slice rfl (by first | rfl | (simp; done) | (simp; omega))), (look_slice rfl (by first | rfl | (simp; done) | (simp; omega))), (look_slice rfl (by first | rfl | (simp; done) | (simp; omega))), (look_slice rfl (by first | rfl | (simp; done) | (simp; omega))), (look_slice rfl (by first | rfl | (simp; done) | (simp; omega))), (look_slice rfl (by first | rfl | (simp; done) | (simp; omega))), rfl, rfl, trivial⟩
                        ·
                          intro K21 hK21 jK46138
                          obtain ⟨x13, hbx13, hx13, F⟩ := ix_some F
                          by_cases hp6 : (0 : Int) < x13
                          ·
                            replace F := ite_y hp6 F
                            have hq6 := dec_t hp6
                            by_cases hp7 : t15_3 < 0
                            ·
                              replace F := ite_y hp7 F
                              have hq7 := dec_t hp7
                              refine CW.draw [] (fun _ => True) (.cons 0 1 (.cons 1 1 (.cons 2 1 (.cons 3 1 (.cons 4 1 (.cons 5 1 (.cons 6 1 (.cons 7 1 (.cons 8 1 (.cons 9 1 (.cons 10 1 (.cons 11 1 (.cons 12 1 (.cons 13 1 (.cons 14 1 (.cons 15 1 (.cons 16 1 (.cons 17 1 (.cons 18 1 (.cons 19 1 .nil)))))))))))))))))))) mixed (by kernel_rfl) fun w8 E3 => ?_
                              replace H := H.grow E3
                              replace R0 := H.ext
                              refine DW.fix rfl rfl rfl (fun _ EQ => RV.move rfl) ?_
                              refine DW.fix rfl rfl rfl (fun _ EQ => RV.move rfl) ?_
                              refine DW.fix rfl rfl rfl (fun _ EQ => RV.indexAddr Ts22 rfl rfl hbx13 ((H.own 2 rfl).sl.addr_ hx13)) ?_
                              refine DW.fix rfl rfl rfl (fun _ EQ => RV.load1 Tk3 rfl (((H.grow EQ).own 2 rfl).sl.at_ hx13) rfl) ?_
                              refine DW.fix rfl rfl rfl (fun _ EQ => RV.gtr rfl rfl) ?_
                              refine DW.fix rfl rfl rfl (fun _ EQ => RV.move rfl) ?_
                              refine DW.fixYB rfl rfl rfl rfl rfl hq6 (fun _ EQ => RV.move rfl) ?_
                              refine DW.fixYB rfl rfl rfl rfl rfl hq6 (fun _ EQ => RV.lss rfl rfl) ?_
                              refine DW.fixYB rfl rfl rfl rfl rfl hq6 (fun _ EQ => RV.move rfl) ?_
                              refine DW.fixNB rfl rfl rfl rfl rfl (ne_beq (v := true) hq7 rfl) ?_
                              refine DW.fixNB rfl rfl rfl rfl rfl (ne_beq (v := true) hq7 rfl) ?_
                              refine DW.fixNB rfl rfl rfl rfl rfl (ne_beq (v := true) hq7 rfl) ?_
                              refine DW.fixNB rfl rfl rfl rfl rfl (ne_beq (v := true) hq7 rfl) ?_
                              refine DW.fixNB rfl rfl rfl rfl rfl (ne_beq (v := true) hq7 rfl) ?_
                              refine DW.fixNB rfl rfl rfl rfl rfl (ne_beq (v := true) hq7 rfl) ?_
                              refine DW.fixNB rfl rfl rfl rfl rfl (ne_beq (v := true) hq7 rfl) ?_
                              refine DW.fixNB rfl rfl rfl rfl rfl (ne_beq (v := true) hq7 rfl) ?_
                              refine DW.fixNB rfl rfl rfl rfl rfl (ne_beq (v := true) hq7 rfl) ?_
                              refine DW.fixYB rfl rfl rfl rfl rfl hq6 (fun _ EQ => RV.pickTB rfl hq7 rfl) ?_
                              refine DW.fix rfl rfl rfl (fun _ EQ => RV.pickTB rfl hq6 rfl) ?_
                              refine DW.nil (jK46138 _ _ ⟨_, ?_, ⟨true, F, rfl, H⟩⟩)
                              exact ⟨rfl, rfl, (look_slice rfl (by first | rfl | (simp; done) | (simp; omega))), (look_slice rfl (by first | rfl | (simp; done) | (simp; omega))), (look_slice rfl (by first | rfl | (simp; done) | (simp; omega))), (look_slice rfl (by first | rfl | (simp; done) | (simp; omega))), (look_slice rfl (by first | rfl | (simp; done) | (simp; omega))), (look_slice rfl (by first | rfl | (simp; done) | (simp; omega))), rfl, rfl, rfl, trivial⟩
                            ·
                              replace F := ite_n hp7 F
                              have hq7 := dec_f hp7
                              obtain ⟨x14, hbx14, hx14, F⟩ := ix_some F
                              obtain ⟨x15, hbx15, hx15, F⟩ := ix_some F
                              refine CW.draw [] (fun _ => True) (.cons 0 1 (.cons 1 1 (.cons 2 1 (.cons 3 1 (.cons 4 1 (.cons 5 1 (.cons 6 1 (.cons 7 1 (.cons 8 1 (.cons 9 1 (.cons 10 1 (.cons 11 1 (.cons 12 1 (.cons 13 1 (.cons 14 1 (.cons 15 1 (.cons 16 1 (.cons 17 1 (.cons 18 1 (.cons 19 1 .nil)))))))))))))))))))) mixed (by kernel_rfl) fun w9 E4 => ?_
                              replace H := H.grow E4
                              replace R0 := H.ext
                              refine DW.fix rfl rfl rfl (fun _ EQ => RV.move rfl) ?_
                              refine DW.fix rfl rfl rfl (fun _ EQ => RV.move rfl) ?_
                              refine DW.fix rfl rfl rfl (fun _ EQ => RV.indexAddr Ts22 rfl rfl hbx13 ((H.own 2 rfl).sl.addr_ hx13)) ?_
                              refine DW.fix rfl rfl rfl (fun _ EQ => RV.load1 Tk3 rfl (((H.grow EQ).own 2 rfl).sl.at_ hx13) rfl) ?_
                              refine DW.fix rfl rfl rfl (fun _ EQ => RV.gtr rfl rfl) ?_
                              refine DW.fix rfl rfl rfl (fun _ EQ => RV.move rfl) ?_
                              refine DW.fixYB rfl rfl rfl rfl rfl hq6 (fun _ EQ => RV.move rfl) ?_
                              refine DW.fixYB rfl rfl rfl rfl rfl hq6 (fun _ EQ => RV.lss rfl rfl) ?_
                              refine DW.fixYB rfl rfl rfl rfl rfl hq6 (fun _ EQ => RV.move rfl) ?_
                              refine DW.fixYB rfl rfl rfl rfl rfl hq7 (fun _ EQ => RV.move rfl) ?_
                              refine DW.fixYB rfl rfl rfl rfl rfl hq7 (fun _ EQ => RV.move rfl) ?_
                              refine DW.fixYB rfl rfl rfl rfl rfl hq7 (fun _ EQ => RV.indexAddr Ts22 rfl rfl hbx14 ((H.own 3 rfl).sl.addr_ hx14)) ?_
                              refine DW.fixYB rfl rfl rfl rfl rfl hq7 (fun _ EQ => RV.load1 Tk3 rfl (((H.grow EQ).own 3 rfl).sl.at_ hx14) rfl) ?_
                              refine DW.fixYB rfl rfl rfl rfl rfl hq7 (fun _ EQ => RV.move rfl) ?_
                              refine DW.fixYB rfl rfl rfl rfl rfl hq7 (fun _ EQ => RV.move rfl) ?_
                              refine DW.fixYB rfl rfl rfl rfl rfl hq7 (fun _ EQ => RV.indexAddr Ts22 rfl rfl hbx15 ((H.own 3 rfl).sl.addr_ hx15)) ?_
                              refine DW.fixYB rfl rfl rfl rfl rfl hq7 (fun _ EQ => RV.load1 Tk3 rfl (((H.grow EQ).own 3 rfl).sl.at_ hx15) rfl) ?_
                              refine DW.fixYB rfl rfl rfl rfl rfl hq7 (fun _ EQ => RV.lss rfl rfl) ?_
                              refine DW.fixYB rfl rfl rfl rfl rfl hq6 (fun _ EQ => RV.pickFB rfl hq7 rfl) ?_
                              refine DW.fix rfl rfl rfl (fun _ EQ => RV.pickTB rfl hq6 rfl) ?_
                              refine DW.nil (jK46138 _ _ ⟨_, ?_, ⟨(decide (x14 < x15)), F, rfl, H⟩⟩)
                              exact ⟨rfl, rfl, (look_slice rfl (by first | rfl | (simp; done) | (simp; omega))), (look_slice rfl (by first | rfl | (simp; done) | (simp; omega))), (look_slice rfl (by first | rfl | (simp; done) | (simp; omega))), (look_slice rfl (by first | rfl | (simp; done) | (simp; omega))), (look_slice rfl (by first | rfl | (simp; done) | (simp; omega))), (look_slice rfl (by first | rfl | (simp; done) | (simp; omega))), rfl, rfl, rfl, trivial⟩
                          ·
                            replace F := ite_n hp6 F
                            have hq6 := dec_f hp6
                            refine CW.draw [] (fun _ => True) (.cons 0 1 (.cons 1 1 (.cons 2 1 (.cons 3 1 (.cons 4 1 (.cons 5 1 (.cons 6 1 (.cons 7 1 (.cons 8 1 (.cons 9 1 (.cons 10 1 (.cons 11 1 (.cons 12 1 (.cons 13 1 (.cons 14 1 (.cons 15 1 (.cons 16 1 (.cons 17 1 (.cons 18 1 (.cons 19 1 .nil)))))))))))))))))))) mixed (by kernel_rfl) fun w10 E5 => ?_
                            replace H := H.grow E5
                            replace R0 := H.ext
                            refine DW.fix rfl rfl rfl (fun _ EQ => RV.move rfl) ?_
                            refine DW.fix rfl rfl rfl (fun _ EQ => RV.move rfl) ?_
                            refine DW.fix rfl rfl rfl (fun _ EQ => RV.indexAddr Ts22 rfl rfl hbx13 ((H.own 2 rfl).sl.addr_ hx13)) ?_
                            refine DW.fix rfl rfl rfl (fun _ EQ => RV.load1 Tk3 rfl (((H.grow EQ).own 2 rfl).sl.at_ hx13) rfl) ?_
                            refine DW.fix rfl rfl rfl (fun _ EQ => RV.gtr rfl rfl) ?_
                            refine DW.fix rfl rfl rfl (fun _ EQ => RV.move rfl) ?_
                            refine DW.fixNB rfl rfl rfl rfl rfl (ne_beq (v := false) hq6 rfl) ?_
                            refine DW.fixNB rfl rfl rfl rfl rfl (ne_beq (v := false) hq6 rfl) ?_
                            refine DW.fixNB rfl rfl rfl rfl rfl (ne_beq (v := false) hq6 rfl) ?_
                            refine DW.fixNU rfl rfl rfl rfl rfl ?_
                            refine DW.fixNU rfl rfl rfl rfl rfl ?_
                            refine DW.fixNU rfl rfl rfl rfl rfl ?_
                            refine DW.fixNU rfl rfl rfl rfl rfl ?_
                            refine DW.fixNU rfl rfl rfl rfl rfl ?_
                            refine DW.fixNU rfl rfl rfl rfl rfl ?_
                            refine DW.fixNU rfl rfl rfl rfl rfl ?_
                            refine DW.fixNU rfl rfl rfl rfl rfl ?_
                            refine DW.fixNU rfl rfl rfl rfl rfl ?_
                            refine DW.fixNB rfl rfl rfl rfl rfl (ne_beq (v := false) hq6 rfl) ?_
                            refine DW.fix rfl rfl rfl (fun _ EQ => RV.pickFB rfl hq6 rfl) ?_
                            refine DW.nil (jK46138 _ _ ⟨_, ?_, ⟨false, F, rfl, H⟩⟩)
                            exact ⟨rfl, rfl, (look_slice rfl (by first | rfl | (simp; done) | (simp; omega))), (look_slice rfl (by first | rfl | (simp; done) | (simp; omega))), (look_slice rfl (by first | rfl | (simp; done) | (simp; omega))), (look_slice rfl (by first | rfl | (simp; done) | (simp; omega))), (look_slice rfl (by first | rfl | (simp; done) | (simp; omega))), (look_slice rfl (by first | rfl | (simp; done) | (simp; omega))), rfl, rfl, rfl, trivial⟩
                    ·
                      replace F := ite_n hp4 F
                      have hq4 := dec_f hp4
                      refine CW.condF rfl hq4 ?_
                      replace H := H.pick (L' := [.tab A9_0 c9_0 22 hs9_0 3 1 (encM encN m3), .own Al44 cl44 3 1 (List.map encN l5), .own Al45 cl45 3 1 (List.map encN l1), .own Al33 cl33 3 1 (List.map encN l2), .own Al41 cl41 3 1 (List.map encN l3), .blk b1 25 [.slice A_a0_supply a0.supply.length c_a0_supply, .slice A_a0_demand a0.demand.length c_a0_demand, .slice A_a0_cost a0.cost.length c_a0_cost]]) [0, 1, 2, 4, 5, 6] (by decide) rfl
                      replace R0 := H.ext
                      refine CW.exit (jK46122 _ _ ⟨_, ?_, ⟨t15_3, F, rfl, H⟩⟩)
                      exact ⟨rfl, rfl, (look_slice rfl (by first | rfl | (simp; done) | (simp; omega))), (look_slice rfl (by first | rfl | (simp; done) | (simp; omega))), (look_slice rfl (by first | rfl | (simp; done) | (simp; omega))), (look_slice rfl (by first | rfl | (simp; done) | (simp; omega))), (look_slice rfl (by first | rfl | (simp; done) | (simp; omega))), rfl, trivial⟩
                ·
                  intro K22 hK22 jK46139
                  refine CW.seq fun K23 hK23 => ?_
                  refine CW.region ?_
                  refine LW.pure rfl rfl (RV.assign rfl) ?_
                  refine LW.nil (hK23 _ _ ?_)
                  refine CW.block ?_
                  refine CW.loop (fun meas ρ wl14 => ∃ (t12_1 : Int) (l29 : List Int) (l30 : List Int) (l31 : List Int) (l32 : List Int), ref07_best_L5 a0 m3 l5 l1 rec1 meas t12_1 l29 l30 l31 l32 = some res ∧ ρ = [(1, .pointer (some (⟨b1, 0, none⟩))), (2, .slice none 0 0), (3, .slice A9_0 m3.length c9_0), (4, .slice Al44 l5.length cl44), (5, .slice Al45 l1.length cl45), (6, .slice Al40 l29.length cl40), (7, .slice Al43 l30.length cl43), (8, .slice Al33 l31.length cl33), (9, .slice Al41 l32.length cl41), (12, .int .i64 t12_1)] ∧ Hp w wl14 [.tab A9_0 c9_0 22 hs9_0 3 1 (encM encN m3), .own Al44 cl44 3 1 (List.map encN l5), .own Al45 cl45 3 1 (List.map encN l1), .own Al40 cl40 3 1 (List.map encN l29), .own Al43 cl43 3 1 (List.map encN l30), .own Al33 cl33 3 1 (List.map encN l31), .own Al41 cl41 3 1 (List.map encN l32), .blk b1 25 [.slice A_a0_supply a0.supply.length c_a0_supply, .slice A_a0_demand a0.demand.length c_a0_demand, .slice A_a0_cost a0.cost.length c_a0_cost]]) FU ⟨_, ?_, ((0 : Int)), l35, l34, l33, l36, F, rfl, H⟩ ?_
                  · exact ⟨rfl, rfl, (look_slice rfl (by first | rfl | (simp; done) | (simp; omega))), (look_slice rfl (by first | rfl | (simp; done) | (simp; omega))), (look_slice rfl (by first | rfl | (simp; done) | (simp; omega))), (look_slice rfl (by first | rfl | (simp; done) | (simp; omega))), (look_slice rfl (by first | rfl | (simp; done) | (simp; omega))), (look_slice rfl (by first | rfl | (simp; done) | (simp; omega))), (look_slice rfl (by first | rfl | (simp; done) | (simp; omega))), rfl, trivial⟩
                  rintro mk4 _ wl14 ⟨t12_1, l29, l30, l31, l32, F, rfl, H⟩
                  have R0 := H.ext
                  replace F := ref07_best_L5_s F
                  obtain ⟨mk4, rfl, F⟩ := F
                  generalize hrec4 : ref07_best_L5 a0 m3 l5 l1 rec1 mk4 = rec4 at F
                  unfold ref07_best_B5 at F
                  refine CW.seq fun K24 hK24 => ?_
                  refine CW.seq fun K25 hK25 => ?_
                  obtain ⟨hg6, F⟩ := gd_some F
                  obtain ⟨hg7, F⟩ := gd_some F
                  refine CW.region ?_
                  refine LW.pure rfl rfl (RV.move rfl) ?_
                  refine LW.pure rfl rfl (RV.move rfl) ?_
                  refine LW.pure rfl rfl (RV.len Ts22 rfl) ?_
                  refine LW.pure rfl rfl (RV.move rfl) ?_
                  refine LW.pure rfl rfl (RV.len Ts22 rfl) ?_
                  refine LW.pure rfl rfl (RV.add rfl rfl hg6) ?_
                  refine LW.pure rfl rfl (RV.add rfl rfl hg7) ?_
                  refine LW.pure rfl rfl (RV.lss rfl rfl) ?_
                  refine LW.nil (hK25 _ _ ?_)
                  by_cases hp8 : t12_1 < ((((l5.length : Int)) + ((l1.length : Int))) + 1)
                  ·
                    replace F := ite_y hp8 F
                    have hq8 := dec_t hp8
                    refine CW.condT rfl hq8 ?_
                    refine CW.skip (hK24 _ _ ?_)
                    refine CW.seqJ (fun ρ wl15 => (∃ (l7 : List Int) (l8 : List Int) (l9 : List Int) (l10 : List Int), ref07_best_k6 t12_1 rec4 l7 l8 l9 l10 = some res ∧ ρ = [(1, .pointer (some (⟨b1, 0, none⟩))), (2, .slice none 0 0), (3, .slice A9_0 m3.length c9_0), (4, .slice Al44 l5.length cl44), (5, .slice Al45 l1.length cl45), (6, .slice Al40 l7.length cl40), (7, .slice Al43 l8.length cl43), (8, .slice Al33 l9.length cl33), (9, .slice Al41 l10.length cl41), (12, .int .i64 t12_1)] ∧ Hp w wl15 [.tab A9_0 c9_0 22 hs9_0 3 1 (encM encN m3), .own Al44 cl44 3 1 (List.map encN l5), .own Al45 cl45 3 1 (List.map encN l1), .own Al40 cl40 3 1 (List.map encN l7), .own Al43 cl43 3 1 (List.map encN l8), .own Al33 cl33 3 1 (List.map encN l9), .own Al41 cl41 3 1 (List.map encN l10), .blk b1 25 [.slice A_a0_supply a0.supply.length c_a0_supply, .slice A_a0_demand a0.demand.length c_a0_demand, .slice A_a0_cost a0.cost.length c_a0_cost]])) ?_ ?_
                    ·
                      rintro _ wl15 ⟨l7, l8, l9, l10, F, rfl, H⟩
                      have R0 := H.ext
                      unfold ref07_best_k6 at F
                      obtain ⟨hg8, F⟩ := gd_some F
                      refine CW.region ?_
                      refine LW.pure rfl rfl (RV.move rfl) ?_
                      refine LW.pure rfl rfl (RV.add rfl rfl hg8) ?_
                      refine LW.pure rfl rfl (RV.assign rfl) ?_
                      refine LW.nil ?_
                      subst hrec4
                      refine ⟨mk4, Nat.lt_succ_self _, _, ?_, (t12_1 + 1), l7, l8, l9, l10, F, rfl, H⟩
                      exact ⟨rfl, rfl, (look_slice rfl (by first | rfl | (simp; done) | (simp; omega))), (look_slice rfl (by first | rfl | (simp; done) | (simp; omega))), (look_slice rfl (by first | rfl | (simp; done) | (simp; omega))), (look_slice rfl (by first | rfl | (simp; done) | (simp; omega))), (look_slice rfl (by first | rfl | (simp; done) | (simp; omega))), (look_slice rfl (by first | rfl | (simp; done) | (simp; omega))), (look_slice rfl (by first | rfl | (simp; done) | (simp; omega))), rfl, trivial⟩
                    ·
                      intro K26 hK26 jK47759
                      refine CW.block ?_
                      refine CW.seq fun K27 hK27 => ?_
                      refine CW.region ?_
                      refine LW.pure rfl rfl (RV.assign rfl) ?_
                      refine LW.nil (hK27 _ _ ?_)
                      refine CW.block ?_
                      refine CW.loop (fun meas ρ wl16 => ∃ (t13_1 : Int) (l25 : List Int) (l26 : List Int) (l27 : List Int) (l28 : List Int), ref07_best_L4 a0 m3 t12_1 rec4 meas t13_1 l25 l26 l27 l28 = some res ∧ ρ = [(1, .pointer (some (⟨b1, 0, none⟩))), (2, .slice none 0 0), (3, .slice A9_0 m3.length c9_0), (4, .slice Al44 l5.length cl44), (5, .slice Al45 l1.length cl45), (6, .slice Al40 l25.length cl40), (7, .slice Al43 l26.length cl43), (8, .slice Al33 l27.length cl33), (9, .slice Al41 l28.length cl41), (12, .int .i64 t12_1), (13, .int .i64 t13_1)] ∧ Hp w wl16 [.tab A9_0 c9_0 22 hs9_0 3 1 (encM encN m3), .own Al44 cl44 3 1 (List.map encN l5), .own Al45 cl45 3 1 (List.map encN l1), .own Al40 cl40 3 1 (List.map encN l25), .own Al43 cl43 3 1 (List.map encN l26), .own Al33 cl33 3 1 (List.map encN l27), .own Al41 cl41 3 1 (List.map encN l28), .blk b1 25 [.slice A_a0_supply a0.supply.length c_a0_supply, .slice A_a0_demand a0.demand.length c_a0_demand, .slice A_a0_cost a0.cost.length c_a0_cost]]) FU ⟨_, ?_, ((0 : Int)), l29, l30, l31, l32, F, rfl, H⟩ ?_
                      · exact ⟨rfl, rfl, (look_slice rfl (by first | rfl | (simp; done) | (simp; omega))), (look_slice rfl (by first | rfl | (simp; done) | (simp; omega))), (look_slice rfl (by first | rfl | (simp; done) | (simp; omega))), (look_slice rfl (by first | rfl | (simp; done) | (simp; omega))), (look_slice rfl (by first | rfl | (simp; done) | (simp; omega))), (look_slice rfl (by first | rfl | (simp; done) | (simp; omega))), (look_slice rfl (by first | rfl | (simp; done) | (simp; omega))), rfl, rfl, trivial⟩
                      rintro mk5 _ wl16 ⟨t13_1, l25, l26, l27, l28, F, rfl, H⟩
                      have R0 := H.ext
                      replace F := ref07_best_L4_s F
                      obtain ⟨mk5, rfl, F⟩ := F
                      generalize hrec5 : ref07_best_L4 a0 m3 t12_1 rec4 mk5 = rec5 at F
                      unfold ref07_best_B4 at F
                      refine CW.seq fun K28 hK28 => ?_
                      refine CW.seq fun K29 hK29 => ?_
                      refine CW.region ?_
                      refine LW.pure rfl rfl (RV.move rfl) ?_
                      refine LW.pure rfl rfl (RV.move rfl) ?_
                      refine LW.pure rfl rfl (RV.len Ts22 rfl) ?_
                      refine LW.pure rfl rfl (RV.lss rfl rfl) ?_
                      refine LW.nil (hK29 _ _ ?_)
                      by_cases hp9 : t13_1 < ((l25.length : Int))
                      ·
                        replace F := ite_y hp9 F
                        have hq9 := dec_t hp9
                        refine CW.condT rfl hq9 ?_
                        refine CW.skip (hK28 _ _ ?_)
                        refine CW.seqJ (fun ρ wl17 => (∃ (l11 : List Int) (l12 : List Int) (l13 : List Int) (l14 : List Int), ref07_best_k7 t13_1 rec5 l11 l12 l13 l14 = some res ∧ ρ = [(1, .pointer (some (⟨b1, 0, none⟩))), (2, .slice none 0 0), (3, .slice A9_0 m3.length c9_0), (4, .slice Al44 l5.length cl44), (5, .slice Al45 l1.length cl45), (6, .slice Al40 l11.length cl40), (7, .slice Al43 l12.length cl43), (8, .slice Al33 l13.length cl33), (9, .slice Al41 l14.length cl41), (12, .int .i64 t12_1), (13, .int .i64 t13_1)] ∧ Hp w wl17 [.tab A9_0 c9_0 22 hs9_0 3 1 (encM encN m3), .own Al44 cl44 3 1 (List.map encN l5), .own Al45 cl45 3 1 (List.map encN l1), .own Al40 cl40 3 1 (List.map encN l11), .own Al43 cl43 3 1 (List.map encN l12), .own Al33 cl33 3 1 (List.map encN l13), .own Al41 cl41 3 1 (List.map encN l14), .blk b1 25 [.slice A_a0_supply a0.supply.length c_a0_supply, .slice A_a0_demand a0.demand.length c_a0_demand, .slice A_a0_cost a0.cost.length c_a0_cost]])) ?_ ?_
                        ·
                          rintro _ wl17 ⟨l11, l12, l13, l14, F, rfl, H⟩
                          have R0 := H.ext
                          unfold ref07_best_k7 at F
                          obtain ⟨hg9, F⟩ := gd_some F
                          refine CW.region ?_
                          refine LW.pure rfl rfl (RV.move rfl) ?_
                          refine LW.pure rfl rfl (RV.add rfl rfl hg9) ?_
                          refine LW.pure rfl rfl (RV.assign rfl) ?_
                          refine LW.nil ?_
                          subst hrec5
                          refine ⟨mk5, Nat.lt_succ_self _, _, ?_, (t13_1 + 1), l11, l12, l13, l14, F, rfl, H⟩
                          exact ⟨rfl, rfl, (look_slice rfl (by first | rfl | (simp; done) | (simp; omega))), (look_slice rfl (by first | rfl | (simp; done) | (simp; omega))), (look_slice rfl (by first | rfl | (simp; done) | (simp; omega))), (look_slice rfl (by first | rfl | (simp; done) | (simp; omega))), (look_slice rfl (by first | rfl | (simp; done) | (simp; omega))), (look_slice rfl (by first | rfl | (simp; done) | (simp; omega))), (look_slice rfl (by first | rfl | (simp; done) | (simp; omega))), rfl, rfl, trivial⟩
                        ·
                          intro K30 hK30 jK48029
                          refine CW.block ?_
                          refine CW.seq fun K31 hK31 => ?_
                          refine CW.region ?_
                          refine LW.pure rfl rfl (RV.assign rfl) ?_
                          refine LW.nil (hK31 _ _ ?_)
                          refine CW.block ?_
                          refine CW.loop (fun meas ρ wl18 => ∃ (t14_1 : Int) (l19 : List Int) (l23 : List Int) (l24 : List Int) (l20 : List Int), ref07_best_L3 a0 m3 t13_1 rec5 meas t14_1 l19 l23 l24 l20 = some res ∧ ρ = [(1, .pointer (some (⟨b1, 0, none⟩))), (2, .slice none 0 0), (3, .slice A9_0 m3.length c9_0), (4, .slice Al44 l5.length cl44), (5, .slice Al45 l1.length cl45), (6, .slice Al40 l19.length cl40), (7, .slice Al43 l23.length cl43), (8, .slice Al33 l24.length cl33), (9, .slice Al41 l20.length cl41), (12, .int .i64 t12_1), (13, .int .i64 t13_1), (14, .int .i64 t14_1)] ∧ Hp w wl18 [.tab A9_0 c9_0 22 hs9_0 3 1 (encM encN m3), .own Al44 cl44 3 1 (List.map encN l5), .own Al45 cl45 3 1 (List.map encN l1), .own Al40 cl40 3 1 (List.map encN l19), .own Al43 cl43 3 1 (List.map encN l23), .own Al33 cl33 3 1 (List.map encN l24), .own Al41 cl41 3 1 (List.map encN l20), .blk b1 25 [.slice A_a0_supply a0.supply.length c_a0_supply, .slice A_a0_demand a0.demand.length c_a0_demand, .slice A_a0_cost a0.cost.length c_a0_cost]]) FU ⟨_, ?_, ((0 : Int)), l25, l26, l27, l28, F, rfl, H⟩ ?_
                          · exact ⟨rfl, rfl, (look_slice rfl (by first | rfl | (simp; done) | (simp; omega))), (look_slice rfl (by first | rfl | (simp; done) | (simp; omega))), (look_slice rfl (by first | rfl | (simp; done) | (simp; omega))), (look_slice rfl (by first | rfl | (simp; done) | (simp; omega))), (look_slice rfl (by first | rfl | (simp; done) | (simp; omega))), (look_slice rfl (by first | rfl | (simp; done) | (simp; omega))), (look_slice rfl (by first | rfl | (simp; done) | (simp; omega))), rfl, rfl, rfl, trivial⟩
                          rintro mk6 _ wl18 ⟨t14_1, l19, l23, l24, l20, F, rfl, H⟩
                          have R0 := H.ext
                          replace F := ref07_best_L3_s F
                          obtain ⟨mk6, rfl, F⟩ := F
                          generalize hrec6 : ref07_best_L3 a0 m3 t13_1 rec5 mk6 = rec6 at F
                          unfold ref07_best_B3 at F
                          refine CW.seq fun K32 hK32 => ?_
                          refine CW.seq fun K33 hK33 => ?_
                          refine CW.region ?_
                          refine LW.pure rfl rfl (RV.move rfl) ?_
                          refine LW.pure rfl rfl (RV.move rfl) ?_
                          refine LW.pure rfl rfl (RV.len Ts22 rfl) ?_
                          refine LW.pure rfl rfl (RV.lss rfl rfl) ?_
                          refine LW.nil (hK33 _ _ ?_)
                          by_cases hp10 : t14_1 < ((l23.length : Int))
                          ·
                            replace F := ite_y hp10 F
                            have hq10 := dec_t hp10
                            refine CW.condT rfl hq10 ?_
                            refine CW.skip (hK32 _ _ ?_)
                            refine CW.seqJ (fun ρ wl19 => (∃ (l15 : List Int) (l16 : List Int) (l17 : List Int) (l18 : List Int), ref07_best_k8 t14_1 rec6 l15 l16 l17 l18 = some res ∧ ρ = [(1, .pointer (some (⟨b1, 0, none⟩))), (2, .slice none 0 0), (3, .slice A9_0 m3.length c9_0), (4, .slice Al44 l5.length cl44), (5, .slice Al45 l1.length cl45), (6, .slice Al40 l15.length cl40), (7, .slice Al43 l16.length cl43), (8, .slice Al33 l17.length cl33), (9, .slice Al41 l18.length cl41), (12, .int .i64 t12_1), (13, .int .i64 t13_1), (14, .int .i64 t14_1)] ∧ Hp w wl19 [.tab A9_0 c9_0 22 hs9_0 3 1 (encM encN m3), .own Al44 cl44 3 1 (List.map encN l5), .own Al45 cl45 3 1 (List.map encN l1), .own Al40 cl40 3 1 (List.map encN l15), .own Al43 cl43 3 1 (List.map encN l16), .own Al33 cl33 3 1 (List.map encN l17), .own Al41 cl41 3 1 (List.map encN l18), .blk b1 25 [.slice A_a0_supply a0.supply.length c_a0_supply, .slice A_a0_demand a0.demand.length c_a0_demand, .slice A_a0_cost a0.cost.length c_a0_cost]])) ?_ ?_
                            ·
                              rintro _ wl19 ⟨l15, l16, l17, l18, F, rfl, H⟩
                              have R0 := H.ext
                              unfold ref07_best_k8 at F
                              obtain ⟨hg10, F⟩ := gd_some F
                              refine CW.region ?_
                              refine LW.pure rfl rfl (RV.move rfl) ?_
                              refine LW.pure rfl rfl (RV.add rfl rfl hg10) ?_
                              refine LW.pure rfl rfl (RV.assign rfl) ?_
                              refine LW.nil ?_
                              subst hrec6
                              refine ⟨mk6, Nat.lt_succ_self _, _, ?_, (t14_1 + 1), l15, l16, l17, l18, F, rfl, H⟩
                              exact ⟨rfl, rfl, (look_slice rfl (by first | rfl | (simp; done) | (simp; omega))), (look_slice rfl (by first | rfl | (simp; done) | (simp; omega))), (look_slice rfl (by first | rfl | (simp; done) | (simp; omega))), (look_slice rfl (by first | rfl | (simp; done) | (simp; omega))), (look_slice rfl (by first | rfl | (simp; done) | (simp; omega))), (look_slice rfl (by first | rfl | (simp; done) | (simp; omega))), (look_slice rfl (by first | rfl | (simp; done) | (simp; omega))), rfl, rfl, rfl, trivial⟩
                            ·
                              intro K34 hK34 jK48074
                              refine CW.block ?_
                              refine CW.seqJ (fun ρ wl20 => (∃ (l21 : List Int) (l22 : List Int), ref07_best_k10 a0 m3 t13_1 t14_1 l19 l20 rec6 l21 l22 = some res ∧ ρ = [(1, .pointer (some (⟨b1, 0, none⟩))), (2, .slice none 0 0), (3, .slice A9_0 m3.length c9_0), (4, .slice Al44 l5.length cl44), (5, .slice Al45 l1.length cl45), (6, .slice Al40 l19.length cl40), (7, .slice Al43 l21.length cl43), (8, .slice Al33 l22.length cl33), (9, .slice Al41 l20.length cl41), (12, .int .i64 t12_1), (13, .int .i64 t13_1), (14, .int .i64 t14_1)] ∧ Hp w wl20 [.tab A9_0 c9_0 22 hs9_0 3 1 (encM encN m3), .own Al44 cl44 3 1 (List.map encN l5), .own Al45 cl45 3 1 (List.map encN l1), .own Al40 cl40 3 1 (List.map encN l19), .own Al43 cl43 3 1 (List.map encN l21), .own Al33 cl33 3 1 (List.map encN l22), .own Al41 cl41 3 1 (List.map encN l20), .blk b1 25 [.slice A_a0_supply a0.supply.length c_a0_supply, .slice A_a0_demand a0.demand.length c_a0_demand, .slice A_a0_cost a0.cost.length c_a0_cost]])) ?_ ?_
                              ·
                                rintro _ wl20 ⟨l21, l22, F, rfl, H⟩
                                have R0 := H.ext
                                unfold ref07_best_k10 at F
                                refine CW.seqJ (fun ρ wl21 => (∃ (t171_1 : Bool), ref07_best_k9 a0 t13_1 t14_1 l19 l20 rec6 l21 l22 t171_1 = some res ∧ ρ = [(1, .pointer (some (⟨b1, 0, none⟩))), (2, .slice none 0 0), (3, .slice A9_0 m3.length c9_0), (4, .slice Al44 l5.length cl44), (5, .slice Al45 l1.length cl45), (6, .slice Al40 l19.length cl40), (7, .slice Al43 l21.length cl43), (8, .slice Al33 l22.length cl33), (9, .slice Al41 l20.length cl41), (12, .int .i64 t12_1), (13, .int .i64 t13_1), (14, .int .i64 t14_1), (171, .bool t171_1)] ∧ Hp w wl21 [.tab A9_0 c9_0 22 hs9_0 3 1 (encM encN m3), .own Al44 cl44 3 1 (List.map encN l5), .own Al45 cl45 3 1 (List.map encN l1), .own Al40 cl40 3 1 (List.map encN l19), .own Al43 cl43 3 1 (List.map encN l21), .own Al33 cl33 3 1 (List.map encN l22), .own Al41 cl41 3 1 (List.map encN l20), .blk b1 25 [.slice A_a0_supply a0.supply.length c_a0_supply, .slice A_a0_demand a0.demand.length c_a0_demand, .slice A_a0_cost a0.cost.length c_a0_cost]])) ?_ ?_
                                ·
                                  rintro _ wl21 ⟨t171_1, F, rfl, H⟩
                                  have R0 := H.ext
                                  unfold ref07_best_k9 at F
                                  by_cases hp11 : t171_1 = true
                                  ·
                                    replace F := ite_y hp11 F
                                    have hq11 : t171_1 = true := hp11
                                    refine CW.condT rfl hq11 ?_
                                    refine CW.seq fun K35 hK35 => ?_
                                    obtain ⟨x16, hbx16, hx16, F⟩ := ix_some F
                                    obtain ⟨x17, hbx17, hx17, F⟩ := ix_some F
                                    obtain ⟨x18, hbx18, hx18, F⟩ := ix_some F
                                    obtain ⟨hg11, F⟩ := gd_some F
                                    obtain ⟨x19, hbx19, hx19, F⟩ := ix_some F
                                    refine CW.draw [16] (fun _ => True) (.cons 0 1 (.cons 1 1 (.cons 2 1 (.cons 3 1 (.cons 4 1 (.cons 5 1 (.cons 6 1 (.cons 7 1 (.cons 8 1 (.cons 9 1 (.cons 10 1 (.cons 11 1 (.cons 12 1 (.cons 13 1 (.cons 14 1 (.cons 15 1 (.cons 16 0 .nil))))))))))))))))) mixed (by kernel_rfl) fun w11 E6 => ?_
                                    replace H := H.grow E6
                                    replace R0 := H.ext
                                    refine DW.fix rfl rfl rfl (fun _ EQ => RV.move rfl) ?_
                                    refine DW.fix rfl rfl rfl (fun _ EQ => RV.move rfl) ?_
                                    refine DW.fix rfl rfl rfl (fun _ EQ => RV.move rfl) ?_
                                    refine DW.fix rfl rfl rfl (fun _ EQ => RV.move rfl) ?_
                                    refine DW.fix rfl rfl rfl (fun _ EQ => RV.indexAddr Ts22 rfl rfl hbx16 ((H.own 4 rfl).sl.addr_ hx16)) ?_
                                    refine DW.fix rfl rfl rfl (fun _ EQ => RV.load1 Tk3 rfl (((H.grow EQ).own 4 rfl).sl.at_ hx16) rfl) ?_
                                    refine DW.fix rfl rfl rfl (fun _ EQ => RV.fieldAddr Tf25_2 rfl) ?_
                                    refine DW.fix rfl rfl rfl (fun _ EQ => RV.load1 Tk23 rfl (((H.grow EQ).blk 7 rfl).cells.off 2) rfl) ?_
                                    refine DW.fix rfl rfl rfl (fun _ EQ => RV.move rfl) ?_
                                    obtain ⟨A2, c2, hC1, hS1⟩ := h_a0_cost.at_ hx17
                                    refine DW.fix rfl rfl rfl (fun _ EQ => RV.indexAddr Ts23 rfl rfl hbx17 (h_a0_cost.addr hbx17)) ?_
                                    refine DW.fix rfl rfl rfl (fun _ EQ => RV.load1 Tk22 rfl (hC1.ext (R0.trans EQ)) rfl) ?_
                                    refine DW.fix rfl rfl rfl (fun _ EQ => RV.move rfl) ?_
                                    refine DW.fix rfl rfl rfl (fun _ EQ => RV.indexAddr Ts22 rfl rfl hbx18 (hS1.addr_ hx18)) ?_
                                    refine DW.fix rfl rfl rfl (fun _ EQ => RV.load1 Tk3 rfl ((hS1.at_ hx18).ext (R0.trans EQ)) rfl) ?_
                                    refine DW.fix rfl rfl rfl (fun _ EQ => RV.sub rfl rfl hg11) ?_
                                    refine DW.fix rfl rfl rfl (fun _ EQ => RV.indexAddr Ts22 rfl rfl hbx19 ((H.own 3 rfl).sl.addr_ hx19)) ?_
                                    refine DW.sole rfl rfl rfl (OW.storeO (enc := encN) (vs := [.int .i64 (x16 - x18)]) 0 (x16 - x18) Tk3 rfl rfl (H.own 3 rfl) (fun _ => rfl) rfl hx19 rfl rfl (by decide) rfl rfl fun w12 M5 O5 => ?_)
                                    refine ⟨fun h => absurd h (by decide), M5.modx (fun _ _ => trivial), ?_⟩
                                    replace H : Hp w w12 [.tab A9_0 c9_0 22 hs9_0 3 1 (encM encN m3), .own Al44 cl44 3 1 (List.map encN l5), .own Al45 cl45 3 1 (List.map encN l1), .own Al40 cl40 3 1 (List.map encN ((l19.set (Int.toNat t13_1) (x16 - x18)))), .own Al43 cl43 3 1 (List.map encN l21), .own Al33 cl33 3 1 (List.map encN l22), .own Al41 cl41 3 1 (List.map encN l20), .blk b1 25 [.slice A_a0_supply a0.supply.length c_a0_supply, .slice A_a0_demand a0.demand.length c_a0_demand, .slice A_a0_cost a0.cost.length c_a0_cost]] := H.mod 3 rfl M5 O5 (.inl rfl)
                                    replace R0 := H.ext
                                    refine DW.nil (hK35 _ _ ?_)
                                    obtain ⟨x20, hbx20, hx20, F⟩ := ix_some F
                                    refine CW.region ?_
                                    refine LW.pure rfl rfl (RV.move rfl) ?_
                                    refine LW.pure rfl rfl (RV.move rfl) ?_
                                    refine LW.pure rfl rfl (RV.move rfl) ?_
                                    refine LW.pure rfl rfl (RV.indexAddr Ts22 rfl rfl hbx20 ((H.own 6 rfl).sl.addr_ hx20)) ?_
                                    refine LW.go rfl rfl (OW.storeO (enc := encN) (vs := [.int .i64 t14_1]) 0 (t14_1) Tk3 rfl rfl (H.own 6 rfl) (fun _ => rfl) rfl hx20 rfl rfl (by decide) rfl rfl fun w13 M6 O6 => ?_)
                                    replace H : Hp w w13 [.tab A9_0 c9_0 22 hs9_0 3 1 (encM encN m3), .own Al44 cl44 3 1 (List.map encN l5), .own Al45 cl45 3 1 (List.map encN l1), .own Al40 cl40 3 1 (List.map encN ((l19.set (Int.toNat t13_1) (x16 - x18)))), .own Al43 cl43 3 1 (List.map encN l21), .own Al33 cl33 3 1 (List.map encN l22), .own Al41 cl41 3 1 (List.map encN ((l20.set (Int.toNat t13_1) t14_1))), .blk b1 25 [.slice A_a0_supply a0.supply.length c_a0_supply, .slice A_a0_demand a0.demand.length c_a0_demand, .slice A_a0_cost a0.cost.length c_a0_cost]] := H.mod 6 rfl M6 O6 (.inl rfl)
                                    replace R0 := H.ext
                                    refine LW.nil (jK48074 _ _ ⟨_, ?_, ⟨((l19.set (Int.toNat t13_1) (x16 - x18))), l21, l22, ((l20.set (Int.toNat t13_1) t14_1)), F, rfl, H⟩⟩)
                                    exact ⟨rfl, rfl, (look_slice rfl (by first | rfl | (simp; done) | (simp; omega))), (look_slice rfl (by first | rfl | (simp; done) | (simp; omega))), (look_slice rfl (by first | rfl | (simp; done) | (simp; omega))), (look_slice rfl (by first | rfl | (simp; done) | (simp; omega))), (look_slice rfl (by first | rfl | (simp; done) | (simp; omega))), (look_slice rfl (by first | rfl | (simp; done) | (simp; omega))), (look_slice rfl (by first | rfl | (simp; done) | (simp; omega))), rfl, rfl, rfl, trivial⟩
                                  ·
                                    replace F := ite_n hp11 F
                                    have hq11 : t171_1 = false := raw_f hp11
                                    refine CW.condF rfl hq11 ?_
                                    refine CW.skip (jK48074 _ _ ⟨_, ?_, ⟨l19, l21, l22, l20, F, rfl, H⟩⟩)
                                    exact ⟨rfl, rfl, (look_slice rfl (by first | rfl | (simp; done) | (simp; omega))), (look_slice rfl (by first | rfl | (simp; done) | (simp; omega))), (look_slice rfl (by first | rfl | (simp; done) | (simp; omega))), (look_slice rfl (by first | rfl | (simp; done) | (simp; omega))), (look_slice rfl (by first | rfl | (simp; done) | (simp; omega))), (look_slice rfl (by first | rfl | (simp; done) | (simp; omega))), (look_slice rfl (by first | rfl | (simp; done) | (simp; omega))), rfl, rfl, rfl, trivial⟩
                                ·
                                  intro K36 hK36 jK48078
                                  obtain ⟨x21, hbx21, hx21, F⟩ := ix_some F
                                  by_cases hp12 : x21 < 1073741824
                                  ·
                                    replace F := ite_y hp12 F
                                    have hq12 := dec_t hp12
                                    obtain ⟨x22, hbx22, hx22, F⟩ := ix_some F
                                    obtain ⟨x23, hbx23, hx23, F⟩ := ix_some F
                                    by_cases hp13 : (0 : Int) < x23
                                    ·
                                      replace F := ite_y hp13 F
                                      have hq13 := dec_t hp13
                                      obtain ⟨x24, hbx24, hx24, F⟩ := ix_some F
                                      obtain ⟨x25, hbx25, hx25, F⟩ := ix_some F
                                      obtain ⟨x26, hbx26, hx26, F⟩ := ix_some F
                                      obtain ⟨hg12, F⟩ := gd_some F
                                      obtain ⟨x27, hbx27, hx27, F⟩ := ix_some F
                                      refine CW.draw [] (fun _ => True) (.cons 0 1 (.cons 1 1 (.cons 2 1 (.cons 3 1 (.cons 4 1 (.cons 5 1 (.cons 6 1 (.cons 7 1 (.cons 8 1 (.cons 9 1 (.cons 10 1 (.cons 11 1 (.cons 12 1 (.cons 13 1 (.cons 14 1 (.cons 15 1 (.cons 16 1 (.cons 17 1 (.cons 18 1 (.cons 19 1 (.cons 20 1 (.cons 21 1 (.cons 22 1 (.cons 23 1 (.cons 24 1 (.cons 25 1 (.cons 26 1 (.cons 27 1 (.cons 28 1 (.cons 29 1 (.cons 30 1 (.cons 31 1 (.cons 32 1 (.cons 33 1 (.cons 34 1 .nil))))))))))))))))))))))))))))))))))) mixed (by kernel_rfl) fun w14 E7 => ?_
                                      replace H := H.grow E7
                                      replace R0 := H.ext
                                      refine DW.fix rfl rfl rfl (fun _ EQ => RV.move rfl) ?_
                                      refine DW.fix rfl rfl rfl (fun _ EQ => RV.move rfl) ?_
                                      refine DW.fix rfl rfl rfl (fun _ EQ => RV.indexAddr Ts22 rfl rfl hbx21 ((H.own 4 rfl).sl.addr_ hx21)) ?_
                                      refine DW.fix rfl rfl rfl (fun _ EQ => RV.load1 Tk3 rfl (((H.grow EQ).own 4 rfl).sl.at_ hx21) rfl) ?_
                                      refine DW.fix rfl rfl rfl (fun _ EQ => RV.lss rfl rfl) ?_
                                      refine DW.fix rfl rfl rfl (fun _ EQ => RV.move rfl) ?_
                                      refine DW.fixYB rfl rfl rfl rfl rfl hq12 (fun _ EQ => RV.move rfl) ?_
                                      refine DW.fixYB rfl rfl rfl rfl rfl hq12 (fun _ EQ => RV.move rfl) ?_
                                      obtain ⟨B3, e3, hh3⟩ := (H.tab 0 rfl).hd hx22
                                      refine DW.fixYB rfl rfl rfl rfl rfl hq12 (fun _ EQ => RV.indexAddr Ts23 rfl rfl hbx22 ((H.tab 0 rfl).addr_ hx22)) ?_
                                      refine DW.fixYB rfl rfl rfl rfl rfl hq12 (fun _ EQ => RV.load1 Tk22 rfl (((H.grow EQ).tab 0 rfl).cell hx22 hh3) rfl) ?_
                                      refine DW.fixYB rfl rfl rfl rfl rfl hq12 (fun _ EQ => RV.move rfl) ?_
                                      refine DW.fixYB rfl rfl rfl rfl rfl hq12 (fun _ EQ => RV.indexAddr Ts22 rfl rfl hbx23 (((H.tab 0 rfl).rowO hx22 hh3).sl.addr_ hx23)) ?_
                                      refine DW.fixYB rfl rfl rfl rfl rfl hq12 (fun _ EQ => RV.load1 Tk3 rfl ((((H.grow EQ).tab 0 rfl).rowO hx22 hh3).sl.at_ hx23) rfl) ?_
                                      refine DW.fixYB rfl rfl rfl rfl rfl hq12 (fun _ EQ => RV.gtr rfl rfl) ?_
                                      refine DW.fix rfl rfl rfl (fun _ EQ => RV.pickTB rfl hq12 rfl) ?_
                                      refine DW.fix rfl rfl rfl (fun _ EQ => RV.move rfl) ?_
                                      refine DW.fixYB rfl rfl rfl rfl rfl hq13 (fun _ EQ => RV.move rfl) ?_
                                      refine DW.fixYB rfl rfl rfl rfl rfl hq13 (fun _ EQ => RV.move rfl) ?_
                                      refine DW.fixYB rfl rfl rfl rfl rfl hq13 (fun _ EQ => RV.indexAddr Ts22 rfl rfl hbx24 ((H.own 4 rfl).sl.addr_ hx24)) ?_
                                      refine DW.fixYB rfl rfl rfl rfl rfl hq13 (fun _ EQ => RV.load1 Tk3 rfl (((H.grow EQ).own 4 rfl).sl.at_ hx24) rfl) ?_
                                      refine DW.fixYB rfl rfl rfl rfl rfl hq13 (fun _ EQ => RV.fieldAddr Tf25_2 rfl) ?_
                                      refine DW.fixYB rfl rfl rfl rfl rfl hq13 (fun _ EQ => RV.load1 Tk23 rfl (((H.grow EQ).blk 7 rfl).cells.off 2) rfl) ?_
                                      refine DW.fixYB rfl rfl rfl rfl rfl hq13 (fun _ EQ => RV.move rfl) ?_
                                      obtain ⟨A3, c3, hC2, hS2⟩ := h_a0_cost.at_ hx25
                                      refine DW.fixYB rfl rfl rfl rfl rfl hq13 (fun _ EQ => RV.indexAddr Ts23 rfl rfl hbx25 (h_a0_cost.addr hbx25)) ?_
                                      refine DW.fixYB rfl rfl rfl rfl rfl hq13 (fun _ EQ => RV.load1 Tk22 rfl (hC2.ext (R0.trans EQ)) rfl) ?_
                                      refine DW.fixYB rfl rfl rfl rfl rfl hq13 (fun _ EQ => RV.move rfl) ?_
                                      refine DW.fixYB rfl rfl rfl rfl rfl hq13 (fun _ EQ => RV.indexAddr Ts22 rfl rfl hbx26 (hS2.addr_ hx26)) ?_
                                      refine DW.fixYB rfl rfl rfl rfl rfl hq13 (fun _ EQ => RV.load1 Tk3 rfl ((hS2.at_ hx26).ext (R0.trans EQ)) rfl) ?_
                                      refine DW.fixYB rfl rfl rfl rfl rfl hq13 (fun _ EQ => RV.sub rfl rfl hg12) ?_
                                      refine DW.fixYB rfl rfl rfl rfl rfl hq13 (fun _ EQ => RV.move rfl) ?_
                                      refine DW.fixYB rfl rfl rfl rfl rfl hq13 (fun _ EQ => RV.move rfl) ?_
                                      refine DW.fixYB rfl rfl rfl rfl rfl hq13 (fun _ EQ => RV.indexAddr Ts22 rfl rfl hbx27 ((H.own 3 rfl).sl.addr_ hx27)) ?_
                                      refine DW.fixYB rfl rfl rfl rfl rfl hq13 (fun _ EQ => RV.load1 Tk3 rfl (((H.grow EQ).own 3 rfl).sl.at_ hx27) rfl) ?_
                                      refine DW.fixYB rfl rfl rfl rfl rfl hq13 (fun _ EQ => RV.lss rfl rfl) ?_
                                      refine DW.fix rfl rfl rfl (fun _ EQ => RV.pickTB rfl hq13 rfl) ?_
                                      refine DW.nil (jK48078 _ _ ⟨_, ?_, ⟨(decide ((x24 - x26) < x27)), F, rfl, H⟩⟩)
                                      exact ⟨rfl, rfl, (look_slice rfl (by first | rfl | (simp; done) | (simp; omega))), (look_slice rfl (by first | rfl | (simp; done) | (simp; omega))), (look_slice rfl (by first | rfl | (simp; done) | (simp; omega))), (look_slice rfl (by first | rfl | (simp; done) | (simp; omega))), (look_slice rfl (by first | rfl | (simp; done) | (simp; omega))), (look_slice rfl (by first | rfl | (simp; done) | (simp; omega))), (look_slice rfl (by first | rfl | (simp; done) | (simp; omega))), rfl, rfl, rfl, rfl, trivial⟩
                                    ·
                                      replace F := ite_n hp13 F
                                      have hq13 := dec_f hp13
                                      refine CW.draw [] (fun _ => True) (.cons 0 1 (.cons 1 1 (.cons 2 1 (.cons 3 1 (.cons 4 1 (.cons 5 1 (.cons 6 1 (.cons 7 1 (.cons 8 1 (.cons 9 1 (.cons 10 1 (.cons 11 1 (.cons 12 1 (.cons 13 1 (.cons 14 1 (.cons 15 1 (.cons 16 1 (.cons 17 1 (.cons 18 1 (.cons 19 1 (.cons 20 1 (.cons 21 1 (.cons 22 1 (.cons 23 1 (.cons 24 1 (.cons 25 1 (.cons 26 1 (.cons 27 1 (.cons 28 1 (.cons 29 1 (.cons 30 1 (.cons 31 1 (.cons 32 1 (.cons 33 1 (.cons 34 1 .nil))))))))))))))))))))))))))))))))))) mixed (by kernel_rfl) fun w15 E8 => ?_
                                      replace H := H.grow E8
                                      replace R0 := H.ext
                                      refine DW.fix rfl rfl rfl (fun _ EQ => RV.move rfl) ?_
                                      refine DW.fix rfl rfl rfl (fun _ EQ => RV.move rfl) ?_
                                      refine DW.fix rfl rfl rfl (fun _ EQ => RV.indexAddr Ts22 rfl rfl hbx21 ((H.own 4 rfl).sl.addr_ hx21)) ?_
                                      refine DW.fix rfl rfl rfl (fun _ EQ => RV.load1 Tk3 rfl (((H.grow EQ).own 4 rfl).sl.at_ hx21) rfl) ?_
                                      refine DW.fix rfl rfl rfl (fun _ EQ => RV.lss rfl rfl) ?_
                                      refine DW.fix rfl rfl rfl (fun _ EQ => RV.move rfl) ?_
                                      refine DW.fixYB rfl rfl rfl rfl rfl hq12 (fun _ EQ => RV.move rfl) ?_
                                      refine DW.fixYB rfl rfl rfl rfl rfl hq12 (fun _ EQ => RV.move rfl) ?_
                                      obtain ⟨B4, e4, hh4⟩ := (H.tab 0 rfl).hd hx22
                                      refine DW.fixYB rfl rfl rfl rfl rfl hq12 (fun _ EQ => RV.indexAddr Ts23 rfl rfl hbx22 ((H.tab 0 rfl).addr_ hx22)) ?_
                                      refine DW.fixYB rfl rfl rfl rfl rfl hq12 (fun _ EQ => RV.load1 Tk22 rfl (((H.grow EQ).tab 0 rfl).cell hx22 hh4) rfl) ?_
                                      refine DW.fixYB rfl rfl rfl rfl rfl hq12 (fun _ EQ => RV.move rfl) ?_
                                      refine DW.fixYB rfl rfl rfl rfl rfl hq12 (fun _ EQ => RV.indexAddr Ts22 rfl rfl hbx23 (((H.tab 0 rfl).rowO hx22 hh4).sl.addr_ hx23)) ?_
                                      refine DW.fixYB rfl rfl rfl rfl rfl hq12 (fun _ EQ => RV.load1 Tk3 rfl ((((H.grow EQ).tab 0 rfl).rowO hx22 hh4).sl.at_ hx23) rfl) ?_
                                      refine DW.fixYB rfl rfl rfl rfl rfl hq12 (fun _ EQ => RV.gtr rfl rfl) ?_
                                      refine DW.fix rfl rfl rfl (fun _ EQ => RV.pickTB rfl hq12 rfl) ?_
                                      refine DW.fix rfl rfl rfl (fun _ EQ => RV.move rfl) ?_
                                      refine DW.fixNB rfl rfl rfl rfl rfl (ne_beq (v := false) hq13 rfl) ?_
                                      refine DW.fixNB rfl rfl rfl rfl rfl (ne_beq (v := false) hq13 rfl) ?_
                                      refine DW.fixNB rfl rfl rfl rfl rfl (ne_beq (v := false) hq13 rfl) ?_
                                      refine DW.fixNB rfl rfl rfl rfl rfl (ne_beq (v := false) hq13 rfl) ?_
                                      refine DW.fixNB rfl rfl rfl rfl rfl (ne_beq (v := false) hq13 rfl) ?_
                                      refine DW.fixNB rfl rfl rfl rfl rfl (ne_beq (v := false) hq13 rfl) ?_
                                      refine DW.fixNB rfl rfl rfl rfl rfl (ne_beq (v := false) hq13 rfl) ?_
                                      refine DW.fixNB rfl rfl rfl rfl rfl (ne_beq (v := false) hq13 rfl) ?_
                                      refine DW.fixNB rfl rfl rfl rfl rfl (ne_beq (v := false) hq13 rfl) ?_
                                      refine DW.fixNB rfl rfl rfl rfl rfl (ne_beq (v := false) hq13 rfl) ?_
                                      refine DW.fixNB rfl rfl rfl rfl rfl (ne_beq (v := false) hq13 rfl) ?_
                                      refine DW.fixNB rfl rfl rfl rfl rfl (ne_beq (v := false) hq13 rfl) ?_
                                      refine DW.fixNB rfl rfl rfl rfl rfl (ne_beq (v := false) hq13 rfl) ?_
                                      refine DW.fixNB rfl rfl rfl rfl rfl (ne_beq (v := false) hq13 rfl) ?_
                                      refine DW.fixNB rfl rfl rfl rfl rfl (ne_beq (v := false) hq13 rfl) ?_
                                      refine DW.fixNB rfl rfl rfl rfl rfl (ne_beq (v := false) hq13 rfl) ?_
                                      refine DW.fixNB rfl rfl rfl rfl rfl (ne_beq (v := false) hq13 rfl) ?_
                                      refine DW.fixNB rfl rfl rfl rfl rfl (ne_beq (v := false) hq13 rfl) ?_
                                      refine DW.fix rfl rfl rfl (fun _ EQ => RV.pickFB rfl hq13 rfl) ?_
                                      refine DW.nil (jK48078 _ _ ⟨_, ?_, ⟨false, F, rfl, H⟩⟩)
                                      exact ⟨rfl, rfl, (look_slice rfl (by first | rfl | (simp; done) | (simp; omega))), (look_slice rfl (by first | rfl | (simp; done) | (simp; omega))), (look_slice rfl (by first | rfl | (simp; done) | (simp; omega))), (look_slice rfl (by first | rfl | (simp; done) | (simp; omega))), (look_slice rfl (by first | rfl | (simp; done) | (simp; omega))), (look_slice rfl (by first | rfl | (simp; done) | (simp; omega))), (look_slice rfl (by first | rfl | (simp; done) | (simp; omega))), rfl, rfl, rfl, rfl, trivial⟩
                                  ·
                                    replace F := ite_n hp12 F
                                    have hq12 := dec_f hp12
                                    refine CW.draw [] (fun _ => True) (.cons 0 1 (.cons 1 1 (.cons 2 1 (.cons 3 1 (.cons 4 1 (.cons 5 1 (.cons 6 1 (.cons 7 1 (.cons 8 1 (.cons 9 1 (.cons 10 1 (.cons 11 1 (.cons 12 1 (.cons 13 1 (.cons 14 1 (.cons 15 1 (.cons 16 1 (.cons 17 1 (.cons 18 1 (.cons 19 1 (.cons 20 1 (.cons 21 1 (.cons 22 1 (.cons 23 1 (.cons 24 1 (.cons 25 1 (.cons 26 1 (.cons 27 1 (.cons 28 1 (.cons 29 1 (.cons 30 1 (.cons 31 1 (.cons 32 1 (.cons 33 1 (.cons 34 1 .nil))))))))))))))))))))))))))))))))))) mixed (by kernel_rfl) fun w16 E9 => ?_
                                    replace H := H.grow E9
                                    replace R0 := H.ext
                                    refine DW.fix rfl rfl rfl (fun _ EQ => RV.move rfl) ?_
                                    refine DW.fix rfl rfl rfl (fun _ EQ => RV.move rfl) ?_
                                    refine DW.fix rfl rfl rfl (fun _ EQ => RV.indexAddr Ts22 rfl rfl hbx21 ((H.own 4 rfl).sl.addr_ hx21)) ?_
                                    refine DW.fix rfl rfl rfl (fun _ EQ => RV.load1 Tk3 rfl (((H.grow EQ).own 4 rfl).sl.at_ hx21) rfl) ?_
                                    refine DW.fix rfl rfl rfl (fun _ EQ => RV.lss rfl rfl) ?_
                                    refine DW.fix rfl rfl rfl (fun _ EQ => RV.move rfl) ?_
                                    refine DW.fixNB rfl rfl rfl rfl rfl (ne_beq (v := false) hq12 rfl) ?_
                                    refine DW.fixNB rfl rfl rfl rfl rfl (ne_beq (v := false) hq12 rfl) ?_
                                    refine DW.fixNB rfl rfl rfl rfl rfl (ne_beq (v := false) hq12 rfl) ?_
                                    refine DW.fixNB rfl rfl rfl rfl rfl (ne_beq (v := false) hq12 rfl) ?_
                                    refine DW.fixNB rfl rfl rfl rfl rfl (ne_beq (v := false) hq12 rfl) ?_
                                    refine DW.fixNB rfl rfl rfl rfl rfl (ne_beq (v := false) hq12 rfl) ?_
                                    refine DW.fixNB rfl rfl rfl rfl rfl (ne_beq (v := false) hq12 rfl) ?_
                                    refine DW.fixNB rfl rfl rfl rfl rfl (ne_beq (v := false) hq12 rfl) ?_
                                    refine DW.fix rfl rfl rfl (fun _ EQ => RV.pickFB rfl hq12 rfl) ?_
                                    refine DW.fix rfl rfl rfl (fun _ EQ => RV.move rfl) ?_
                                    refine DW.fixNB rfl rfl rfl rfl rfl (ne_beq (v := false) rfl rfl) ?_
                                    refine DW.fixNB rfl rfl rfl rfl rfl (ne_beq (v := false) rfl rfl) ?_
                                    refine DW.fixNB rfl rfl rfl rfl rfl (ne_beq (v := false) rfl rfl) ?_
                                    refine DW.fixNB rfl rfl rfl rfl rfl (ne_beq (v := false) rfl rfl) ?_
                                    refine DW.fixNB rfl rfl rfl rfl rfl (ne_beq (v := false) rfl rfl) ?_
                                    refine DW.fixNB rfl rfl rfl rfl rfl (ne_beq (v := false) rfl rfl) ?_
                                    refine DW.fixNB rfl rfl rfl rfl rfl (ne_beq (v := false) rfl rfl) ?_
                                    refine DW.fixNB rfl rfl rfl rfl rfl (ne_beq (v := false) rfl rfl) ?_
                                    refine DW.fixNB rfl rfl rfl rfl rfl (ne_beq (v := false) rfl rfl) ?_
                                    refine DW.fixNB rfl rfl rfl rfl rfl (ne_beq (v := false) rfl rfl) ?_
                                    refine DW.fixNB rfl rfl rfl rfl rfl (ne_beq (v := false) rfl rfl) ?_
                                    refine DW.fixNB rfl rfl rfl rfl rfl (ne_beq (v := false) rfl rfl) ?_
                                    refine DW.fixNB rfl rfl rfl rfl rfl (ne_beq (v := false) rfl rfl) ?_
                                    refine DW.fixNB rfl rfl rfl rfl rfl (ne_beq (v := false) rfl rfl) ?_
                                    refine DW.fixNB rfl rfl rfl rfl rfl (ne_beq (v := false) rfl rfl) ?_
                                    refine DW.fixNB rfl rfl rfl rfl rfl (ne_beq (v := false) rfl rfl) ?_
                                    refine DW.fixNB rfl rfl rfl rfl rfl (ne_beq (v := false) rfl rfl) ?_
                                    refine DW.fixNB rfl rfl rfl rfl rfl (ne_beq (v := false) rfl rfl) ?_
                                    refine DW.fix rfl rfl rfl (fun _ EQ => RV.pickFB rfl rfl rfl) ?_
                                    refine DW.nil (jK48078 _ _ ⟨_, ?_, ⟨false, F, rfl, H⟩⟩)
                                    exact ⟨rfl, rfl, (look_slice rfl (by first | rfl | (simp; done) | (simp; omega))), (look_slice rfl (by first | rfl | (simp; done) | (simp; omega))), (look_slice rfl (by first | rfl | (simp; done) | (simp; omega))), (look_slice rfl (by first | rfl | (simp; done) | (simp; omega))), (look_slice rfl (by first | rfl | (simp; done) | (simp; omega))), (look_slice rfl (by first | rfl | (simp; done) | (simp; omega))), (look_slice rfl (by first | rfl | (simp; done) | (simp; omega))), rfl, rfl, rfl, rfl, trivial⟩
                              ·
                                intro K37 hK37 jK48079
                                refine CW.seqJ (fun ρ wl22 => (∃ (t116_1 : Bool), ref07_best_k11 a0 m3 t13_1 t14_1 l19 l23 l24 l20 rec6 t116_1 = some res ∧ ρ = [(1, .pointer (some (⟨b1, 0, none⟩))), (2, .slice none 0 0), (3, .slice A9_0 m3.length c9_0), (4, .slice Al44 l5.length cl44), (5, .slice Al45 l1.length cl45), (6, .slice Al40 l19.length cl40), (7, .slice Al43 l23.length cl43), (8, .slice Al33 l24.length cl33), (9, .slice Al41 l20.length cl41), (12, .int .i64 t12_1), (13, .int .i64 t13_1), (14, .int .i64 t14_1), (116, .bool t116_1)] ∧ Hp w wl22 [.tab A9_0 c9_0 22 hs9_0 3 1 (encM encN m3), .own Al44 cl44 3 1 (List.map encN l5), .own Al45 cl45 3 1 (List.map encN l1), .own Al40 cl40 3 1 (List.map encN l19), .own Al43 cl43 3 1 (List.map encN l23), .own Al33 cl33 3 1 (List.map encN l24), .own Al41 cl41 3 1 (List.map encN l20), .blk b1 25 [.slice A_a0_supply a0.supply.length c_a0_supply, .slice A_a0_demand a0.demand.length c_a0_demand, .slice A_a0_cost a0.cost.length c_a0_cost]])) ?_ ?_
                                ·
                                  rintro _ wl22 ⟨t116_1, F, rfl, H⟩
                                  have R0 := H.ext
                                  unfold ref07_best_k11 at F
                                  by_cases hp14 : t116_1 = true
                                  ·
                                    replace F := ite_y hp14 F
                                    have hq14 : t116_1 = true := hp14
                                    refine CW.condT rfl hq14 ?_
                                    refine CW.seq fun K38 hK38 => ?_
                                    obtain ⟨x28, hbx28, hx28, F⟩ := ix_some F
                                    obtain ⟨x29, hbx29, hx29, F⟩ := ix_some F
                                    obtain ⟨x30, hbx30, hx30, F⟩ := ix_some F
                                    obtain ⟨hg13, F⟩ := gd_some F
                                    obtain ⟨x31, hbx31, hx31, F⟩ := ix_some F
                                    refine CW.draw [16] (fun _ => True) (.cons 0 1 (.cons 1 1 (.cons 2 1 (.cons 3 1 (.cons 4 1 (.cons 5 1 (.cons 6 1 (.cons 7 1 (.cons 8 1 (.cons 9 1 (.cons 10 1 (.cons 11 1 (.cons 12 1 (.cons 13 1 (.cons 14 1 (.cons 15 1 (.cons 16 0 .nil))))))))))))))))) mixed (by kernel_rfl) fun w17 E10 => ?_
                                    replace H := H.grow E10
                                    replace R0 := H.ext
                                    refine DW.fix rfl rfl rfl (fun _ EQ => RV.move rfl) ?_
                                    refine DW.fix rfl rfl rfl (fun _ EQ => RV.move rfl) ?_
                                    refine DW.fix rfl rfl rfl (fun _ EQ => RV.move rfl) ?_
                                    refine DW.fix rfl rfl rfl (fun _ EQ => RV.move rfl) ?_
                                    refine DW.fix rfl rfl rfl (fun _ EQ => RV.indexAddr Ts22 rfl rfl hbx28 ((H.own 3 rfl).sl.addr_ hx28)) ?_
                                    refine DW.fix rfl rfl rfl (fun _ EQ => RV.load1 Tk3 rfl (((H.grow EQ).own 3 rfl).sl.at_ hx28) rfl) ?_
                                    refine DW.fix rfl rfl rfl (fun _ EQ => RV.fieldAddr Tf25_2 rfl) ?_
                                    refine DW.fix rfl rfl rfl (fun _ EQ => RV.load1 Tk23 rfl (((H.grow EQ).blk 7 rfl).cells.off 2) rfl) ?_
                                    refine DW.fix rfl rfl rfl (fun _ EQ => RV.move rfl) ?_
                                    obtain ⟨A4, c4, hC3, hS3⟩ := h_a0_cost.at_ hx29
                                    refine DW.fix rfl rfl rfl (fun _ EQ => RV.indexAddr Ts23 rfl rfl hbx29 (h_a0_cost.addr hbx29)) ?_
                                    refine DW.fix rfl rfl rfl (fun _ EQ => RV.load1 Tk22 rfl (hC3.ext (R0.trans EQ)) rfl) ?_
                                    refine DW.fix rfl rfl rfl (fun _ EQ => RV.move rfl) ?_
                                    refine DW.fix rfl rfl rfl (fun _ EQ => RV.indexAddr Ts22 rfl rfl hbx30 (hS3.addr_ hx30)) ?_
                                    refine DW.fix rfl rfl rfl (fun _ EQ => RV.load1 Tk3 rfl ((hS3.at_ hx30).ext (R0.trans EQ)) rfl) ?_
                                    refine DW.fix rfl rfl rfl (fun _ EQ => RV.add rfl rfl hg13) ?_
                                    refine DW.fix rfl rfl rfl (fun _ EQ => RV.indexAddr Ts22 rfl rfl hbx31 ((H.own 4 rfl).sl.addr_ hx31)) ?_
                                    refine DW.sole rfl rfl rfl (OW.storeO (enc := encN) (vs := [.int .i64 (x28 + x30)]) 0 (x28 + x30) Tk3 rfl rfl (H.own 4 rfl) (fun _ => rfl) rfl hx31 rfl rfl (by decide) rfl rfl fun w18 M7 O7 => ?_)
                                    refine ⟨fun h => absurd h (by decide), M7.modx (fun _ _ => trivial), ?_⟩
                                    replace H : Hp w w18 [.tab A9_0 c9_0 22 hs9_0 3 1 (encM encN m3), .own Al44 cl44 3 1 (List.map encN l5), .own Al45 cl45 3 1 (List.map encN l1), .own Al40 cl40 3 1 (List.map encN l19), .own Al43 cl43 3 1 (List.map encN ((l23.set (Int.toNat t14_1) (x28 + x30)))), .own Al33 cl33 3 1 (List.map encN l24), .own Al41 cl41 3 1 (List.map encN l20), .blk b1 25 [.slice A_a0_supply a0.supply.length c_a0_supply, .slice A_a0_demand a0.demand.length c_a0_demand, .slice A_a0_cost a0.cost.length c_a0_cost]] := H.mod 4 rfl M7 O7 (.inl rfl)
                                    replace R0 := H.ext
                                    refine DW.nil (hK38 _ _ ?_)
                                    obtain ⟨x32, hbx32, hx32, F⟩ := ix_some F
                                    refine CW.region ?_
                                    refine LW.pure rfl rfl (RV.move rfl) ?_
                                    refine LW.pure rfl rfl (RV.move rfl) ?_
                                    refine LW.pure rfl rfl (RV.move rfl) ?_
                                    refine LW.pure rfl rfl (RV.indexAddr Ts22 rfl rfl hbx32 ((H.own 5 rfl).sl.addr_ hx32)) ?_
                                    refine LW.go rfl rfl (OW.storeO (enc := encN) (vs := [.int .i64 t13_1]) 0 (t13_1) Tk3 rfl rfl (H.own 5 rfl) (fun _ => rfl) rfl hx32 rfl rfl (by decide) rfl rfl fun w19 M8 O8 => ?_)
                                    replace H : Hp w w19 [.tab A9_0 c9_0 22 hs9_0 3 1 (encM encN m3), .own Al44 cl44 3 1 (List.map encN l5), .own Al45 cl45 3 1 (List.map encN l1), .own Al40 cl40 3 1 (List.map encN l19), .own Al43 cl43 3 1 (List.map encN ((l23.set (Int.toNat t14_1) (x28 + x30)))), .own Al33 cl33 3 1 (List.map encN ((l24.set (Int.toNat t14_1) t13_1))), .own Al41 cl41 3 1 (List.map encN l20), .blk b1 25 [.slice A_a0_supply a0.supply.length c_a0_supply, .slice A_a0_demand a0.demand.length c_a0_demand, .slice A_a0_cost a0.cost.length c_a0_cost]] := H.mod 5 rfl M8 O8 (.inl rfl)
                                    replace R0 := H.ext
                                    refine LW.nil (jK48079 _ _ ⟨_, ?_, ⟨((l23.set (Int.toNat t14_1) (x28 + x30))), ((l24.set (Int.toNat t14_1) t13_1)), F, rfl, H⟩⟩)
                                    exact ⟨rfl, rfl, (look_slice rfl (by first | rfl | (simp; done) | (simp; omega))), (look_slice rfl (by first | rfl | (simp; done) | (simp; omega))), (look_slice rfl (by first | rfl | (simp; done) | (simp; omega))), (look_slice rfl (by first | rfl | (simp; done) | (simp; omega))), (look_slice rfl (by first | rfl | (simp; done) | (simp; omega))), (look_slice rfl (by first | rfl | (simp; done) | (simp; omega))), (look_slice rfl (by first | rfl | (simp; done) | (simp; omega))), rfl, rfl, rfl, trivial⟩
                                  ·
                                    replace F := ite_n hp14 F
                                    have hq14 : t116_1 = false := raw_f hp14
                                    refine CW.condF rfl hq14 ?_
                                    refine CW.skip (jK48079 _ _ ⟨_, ?_, ⟨l23, l24, F, rfl, H⟩⟩)
                                    exact ⟨rfl, rfl, (look_slice rfl (by first | rfl | (simp; done) | (simp; omega))), (look_slice rfl (by first | rfl | (simp; done) | (simp; omega))), (look_slice rfl (by first | rfl | (simp; done) | (simp; omega))), (look_slice rfl (by first | rfl | (simp; done) | (simp; omega))), (look_slice rfl (by first | rfl | (simp; done) | (simp; omega))), (look_slice rfl (by first | rfl | (simp; done) | (simp; omega))), (look_slice rfl (by first | rfl | (simp; done) | (simp; omega))), rfl, rfl, rfl, trivial⟩
                                ·
                                  intro K39 hK39 jK48081
                                  obtain ⟨x33, hbx33, hx33, F⟩ := ix_some F
                                  by_cases hp15 : x33 < 1073741824
                                  ·
                                    replace F := ite_y hp15 F
                                    have hq15 := dec_t hp15
                                    obtain ⟨x34, hbx34, hx34, F⟩ := ix_some F
                                    obtain ⟨x35, hbx35, hx35, F⟩ := ix_some F
                                    obtain ⟨x36, hbx36, hx36, F⟩ := ix_some F
                                    obtain ⟨hg14, F⟩ := gd_some F
                                    obtain ⟨x37, hbx37, hx37, F⟩ := ix_some F
                                    refine CW.draw [] (fun _ => True) (.cons 0 1 (.cons 1 1 (.cons 2 1 (.cons 3 1 (.cons 4 1 (.cons 5 1 (.cons 6 1 (.cons 7 1 (.cons 8 1 (.cons 9 1 (.cons 10 1 (.cons 11 1 (.cons 12 1 (.cons 13 1 (.cons 14 1 (.cons 15 1 (.cons 16 1 (.cons 17 1 (.cons 18 1 (.cons 19 1 (.cons 20 1 (.cons 21 1 (.cons 22 1 (.cons 23 1 (.cons 24 1 .nil))))))))))))))))))))))))) mixed (by kernel_rfl) fun w20 E11 => ?_
                                    replace H := H.grow E11
                                    replace R0 := H.ext
                                    refine DW.fix rfl rfl rfl (fun _ EQ => RV.move rfl) ?_
                                    refine DW.fix rfl rfl rfl (fun _ EQ => RV.move rfl) ?_
                                    refine DW.fix rfl rfl rfl (fun _ EQ => RV.indexAddr Ts22 rfl rfl hbx33 ((H.own 3 rfl).sl.addr_ hx33)) ?_
                                    refine DW.fix rfl rfl rfl (fun _ EQ => RV.load1 Tk3 rfl (((H.grow EQ).own 3 rfl).sl.at_ hx33) rfl) ?_
                                    refine DW.fix rfl rfl rfl (fun _ EQ => RV.lss rfl rfl) ?_
                                    refine DW.fix rfl rfl rfl (fun _ EQ => RV.move rfl) ?_
                                    refine DW.fixYB rfl rfl rfl rfl rfl hq15 (fun _ EQ => RV.move rfl) ?_
                                    refine DW.fixYB rfl rfl rfl rfl rfl hq15 (fun _ EQ => RV.move rfl) ?_
                                    refine DW.fixYB rfl rfl rfl rfl rfl hq15 (fun _ EQ => RV.indexAddr Ts22 rfl rfl hbx34 ((H.own 3 rfl).sl.addr_ hx34)) ?_
                                    refine DW.fixYB rfl rfl rfl rfl rfl hq15 (fun _ EQ => RV.load1 Tk3 rfl (((H.grow EQ).own 3 rfl).sl.at_ hx34) rfl) ?_
                                    refine DW.fixYB rfl rfl rfl rfl rfl hq15 (fun _ EQ => RV.fieldAddr Tf25_2 rfl) ?_
                                    refine DW.fixYB rfl rfl rfl rfl rfl hq15 (fun _ EQ => RV.load1 Tk23 rfl (((H.grow EQ).blk 7 rfl).cells.off 2) rfl) ?_
                                    refine DW.fixYB rfl rfl rfl rfl rfl hq15 (fun _ EQ => RV.move rfl) ?_
                                    obtain ⟨A5, c5, hC4, hS4⟩ := h_a0_cost.at_ hx35
                                    refine DW.fixYB rfl rfl rfl rfl rfl hq15 (fun _ EQ => RV.indexAddr Ts23 rfl rfl hbx35 (h_a0_cost.addr hbx35)) ?_
                                    refine DW.fixYB rfl rfl rfl rfl rfl hq15 (fun _ EQ => RV.load1 Tk22 rfl (hC4.ext (R0.trans EQ)) rfl) ?_
                                    refine DW.fixYB rfl rfl rfl rfl rfl hq15 (fun _ EQ => RV.move rfl) ?_
                                    refine DW.fixYB rfl rfl rfl rfl rfl hq15 (fun _ EQ => RV.indexAddr Ts22 rfl rfl hbx36 (hS4.addr_ hx36)) ?_
                                    refine DW.fixYB rfl rfl rfl rfl rfl hq15 (fun _ EQ => RV.load1 Tk3 rfl ((hS4.at_ hx36).ext (R0.trans EQ)) rfl) ?_
                                    refine DW.fixYB rfl rfl rfl rfl rfl hq15 (fun _ EQ => RV.add rfl rfl hg14) ?_
                                    refine DW.fixYB rfl rfl rfl rfl rfl hq15 (fun _ EQ => RV.move rfl) ?_
                                    refine DW.fixYB rfl rfl rfl rfl rfl hq15 (fun _ EQ => RV.move rfl) ?_
                                    refine DW.fixYB rfl rfl rfl rfl rfl hq15 (fun _ EQ => RV.indexAddr Ts22 rfl rfl hbx37 ((H.own 4 rfl).sl.addr_ hx37)) ?_
                                    refine DW.fixYB rfl rfl rfl rfl rfl hq15 (fun _ EQ => RV.load1 Tk3 rfl (((H.grow EQ).own 4 rfl).sl.at_ hx37) rfl) ?_
                                    refine DW.fixYB rfl rfl rfl rfl rfl hq15 (fun _ EQ => RV.lss rfl rfl) ?_
                                    refine DW.fix rfl rfl rfl (fun _ EQ => RV.pickTB rfl hq15 rfl) ?_
                                    refine DW.nil (jK48081 _ _ ⟨_, ?_, ⟨(decide ((x34 + x36) < x37)), F, rfl, H⟩⟩)
                                    exact ⟨rfl, rfl, (look_slice rfl (by first | rfl | (simp; done) | (simp; omega))), (look_slice rfl (by first | rfl | (simp; done) | (simp; omega))), (look_slice rfl (by first | rfl | (simp; done) | (simp; omega))), (look_slice rfl (by first | rfl | (simp; done) | (simp; omega))), (look_slice rfl (by first | rfl | (simp; done) | (simp; omega))), (look_slice rfl (by first | rfl | (simp; done) | (simp; omega))), (look_slice rfl (by first | rfl | (simp; done) | (simp; omega))), rfl, rfl, rfl, rfl, trivial⟩
                                  ·
                                    replace F := ite_n hp15 F
                                    have hq15 := dec_f hp15
                                    refine CW.draw [] (fun _ => True) (.cons 0 1 (.cons 1 1 (.cons 2 1 (.cons 3 1 (.cons 4 1 (.cons 5 1 (.cons 6 1 (.cons 7 1 (.cons 8 1 (.cons 9 1 (.cons 10 1 (.cons 11 1 (.cons 12 1 (.cons 13 1 (.cons 14 1 (.cons 15 1 (.cons 16 1 (.cons 17 1 (.cons 18 1 (.cons 19 1 (.cons 20 1 (.cons 21 1 (.cons 22 1 (.cons 23 1 (.cons 24 1 .nil))))))))))))))))))))))))) mixed (by kernel_rfl) fun w21 E12 => ?_
                                    replace H := H.grow E12
                                    replace R0 := H.ext
                                    refine DW.fix rfl rfl rfl (fun _ EQ => RV.move rfl) ?_
                                    refine DW.fix rfl rfl rfl (fun _ EQ => RV.move rfl) ?_
                                    refine DW.fix rfl rfl rfl (fun _ EQ => RV.indexAddr Ts22 rfl rfl hbx33 ((H.own 3 rfl).sl.addr_ hx33)) ?_
                                    refine DW.fix rfl rfl rfl (fun _ EQ => RV.load1 Tk3 rfl (((H.grow EQ).own 3 rfl).sl.at_ hx33) rfl) ?_
                                    refine DW.fix rfl rfl rfl (fun _ EQ => RV.lss rfl rfl) ?_
                                    refine DW.fix rfl rfl rfl (fun _ EQ => RV.move rfl) ?_
                                    refine DW.fixNB rfl rfl rfl rfl rfl (ne_beq (v := false) hq15 rfl) ?_
                                    refine DW.fixNB rfl rfl rfl rfl rfl (ne_beq (v := false) hq15 rfl) ?_
                                    refine DW.fixNB rfl rfl rfl rfl rfl (ne_beq (v := false) hq15 rfl) ?_
                                    refine DW.fixNB rfl rfl rfl rfl rfl (ne_beq (v := false) hq15 rfl) ?_
                                    refine DW.fixNB rfl rfl rfl rfl rfl (ne_beq (v := false) hq15 rfl) ?_
                                    refine DW.fixNB rfl rfl rfl rfl rfl (ne_beq (v := false) hq15 rfl) ?_
                                    refine DW.fixNB rfl rfl rfl rfl rfl (ne_beq (v := false) hq15 rfl) ?_
                                    refine DW.fixNB rfl rfl rfl rfl rfl (ne_beq (v := false) hq15 rfl) ?_
                                    refine DW.fixNB rfl rfl rfl rfl rfl (ne_beq (v := false) hq15 rfl) ?_
                                    refine DW.fixNB rfl rfl rfl rfl rfl (ne_beq (v := false) hq15 rfl) ?_
                                    refine DW.fixNB rfl rfl rfl rfl rfl (ne_beq (v := false) hq15 rfl) ?_
                                    refine DW.fixNB rfl rfl rfl rfl rfl (ne_beq (v := false) hq15 rfl) ?_
                                    refine DW.fixNB rfl rfl rfl rfl rfl (ne_beq (v := false) hq15 rfl) ?_
                                    refine DW.fixNB rfl rfl rfl rfl rfl (ne_beq (v := false) hq15 rfl) ?_
                                    refine DW.fixNB rfl rfl rfl rfl rfl (ne_beq (v := false) hq15 rfl) ?_
                                    refine DW.fixNB rfl rfl rfl rfl rfl (ne_beq (v := false) hq15 rfl) ?_
                                    refine DW.fixNB rfl rfl rfl rfl rfl (ne_beq (v := false) hq15 rfl) ?_
                                    refine DW.fixNB rfl rfl rfl rfl rfl (ne_beq (v := false) hq15 rfl) ?_
                                    refine DW.fix rfl rfl rfl (fun _ EQ => RV.pickFB rfl hq15 rfl) ?_
                                    refine DW.nil (jK48081 _ _ ⟨_, ?_, ⟨false, F, rfl, H⟩⟩)
                                    exact ⟨rfl, rfl, (look_slice rfl (by first | rfl | (simp; done) | (simp; omega))), (look_slice rfl (by first | rfl | (simp; done) | (simp; omega))), (look_slice rfl (by first | rfl | (simp; done) | (simp; omega))), (look_slice rfl (by first | rfl | (simp; done) | (simp; omega))), (look_slice rfl (by first | rfl | (simp; done) | (simp; omega))), (look_slice rfl (by first | rfl | (simp; done) | (simp; omega))), (look_slice rfl (by first | rfl | (simp; done) | (simp; omega))), rfl, rfl, rfl, rfl, trivial⟩
                          ·
                            replace F := ite_n hp10 F
                            have hq10 := dec_f hp10
                            refine CW.condF rfl hq10 ?_
                            refine CW.exit (jK48029 _ _ ⟨_, ?_, ⟨l19, l23, l24, l20, F, rfl, H⟩⟩)
                            exact ⟨rfl, rfl, (look_slice rfl (by first | rfl | (simp; done) | (simp; omega))), (look_slice rfl (by first | rfl | (simp; done) | (simp; omega))), (look_slice rfl (by first | rfl | (simp; done) | (simp; omega))), (look_slice rfl (by first | rfl | (simp; done) | (simp; omega))), (look_slice rfl (by first | rfl | (simp; done) | (simp; omega))), (look_slice rfl (by first | rfl | (simp; done) | (simp; omega))), (look_slice rfl (by first | rfl | (simp; done) | (simp; omega))), rfl, rfl, trivial⟩
                      ·
                        replace F := ite_n hp9 F
                        have hq9 := dec_f hp9
                        refine CW.condF rfl hq9 ?_
                        refine CW.exit (jK47759 _ _ ⟨_, ?_, ⟨l25, l26, l27, l28, F, rfl, H⟩⟩)
                        exact ⟨rfl, rfl, (look_slice rfl (by first | rfl | (simp; done) | (simp; omega))), (look_slice rfl (by first | rfl | (simp; done) | (simp; omega))), (look_slice rfl (by first | rfl | (simp; done) | (simp; omega))), (look_slice rfl (by first | rfl | (simp; done) | (simp; omega))), (look_slice rfl (by first | rfl | (simp; done) | (simp; omega))), (look_slice rfl (by first | rfl | (simp; done) | (simp; omega))), (look_slice rfl (by first | rfl | (simp; done) | (simp; omega))), rfl, trivial⟩
                  ·
                    replace F := ite_n hp8 F
                    have hq8 := dec_f hp8
                    refine CW.condF rfl hq8 ?_
                    replace H := H.pick (L' := [.tab A9_0 c9_0 22 hs9_0 3 1 (encM encN m3), .own Al44 cl44 3 1 (List.map encN l5), .own Al45 cl45 3 1 (List.map encN l1), .own Al43 cl43 3 1 (List.map encN l30), .own Al33 cl33 3 1 (List.map encN l31), .own Al41 cl41 3 1 (List.map encN l32), .blk b1 25 [.slice A_a0_supply a0.supply.length c_a0_supply, .slice A_a0_demand a0.demand.length c_a0_demand, .slice A_a0_cost a0.cost.length c_a0_cost]]) [0, 1, 2, 4, 5, 6, 7] (by decide) rfl
                    replace R0 := H.ext
                    refine CW.exit (jK46139 _ _ ⟨_, ?_, ⟨l30, l31, l32, F, rfl, H⟩⟩)
                    exact ⟨rfl, rfl, (look_slice rfl (by first | rfl | (simp; done) | (simp; omega))), (look_slice rfl (by first | rfl | (simp; done) | (simp; omega))), (look_slice rfl (by first | rfl | (simp; done) | (simp; omega))), (look_slice rfl (by first | rfl | (simp; done) | (simp; omega))), (look_slice rfl (by first | rfl | (simp; done) | (simp; omega))), (look_slice rfl (by first | rfl | (simp; done) | (simp; omega))), trivial⟩
              ·
                intro K40 hK40 jK48082
                refine CW.seq fun K41 hK41 => ?_
                refine CW.region ?_
                refine LW.pure rfl rfl (RV.assign rfl) ?_
                refine LW.nil (hK41 _ _ ?_)
                refine CW.block ?_
                refine CW.loop (fun meas ρ wl23 => ∃ (t11_1 : Int) (l39 : List Int) (l37 : List Int), ref07_best_L6 a0 m3 l5 l1 rec1 l33 l34 meas t11_1 l39 l37 = some res ∧ ρ = [(1, .pointer (some (⟨b1, 0, none⟩))), (2, .slice none 0 0), (3, .slice A9_0 m3.length c9_0), (4, .slice Al44 l5.length cl44), (5, .slice Al45 l1.length cl45), (6, .slice Al40 l39.length cl40), (7, .slice Al43 l34.length cl43), (8, .slice Al33 l33.length cl33), (9, .slice Al41 l37.length cl41), (11, .int .i64 t11_1)] ∧ Hp w wl23 [.tab A9_0 c9_0 22 hs9_0 3 1 (encM encN m3), .own Al44 cl44 3 1 (List.map encN l5), .own Al45 cl45 3 1 (List.map encN l1), .own Al40 cl40 3 1 (List.map encN l39), .own Al43 cl43 3 1 (List.map encN l34), .own Al33 cl33 3 1 (List.map encN l33), .own Al41 cl41 3 1 (List.map encN l37), .blk b1 25 [.slice A_a0_supply a0.supply.length c_a0_supply, .slice A_a0_demand a0.demand.length c_a0_demand, .slice A_a0_cost a0.cost.length c_a0_cost]]) FU ⟨_, ?_, ((0 : Int)), l40, l41, F, rfl, H⟩ ?_
                · exact ⟨rfl, rfl, (look_slice rfl (by first | rfl | (simp; done) | (simp; omega))), (look_slice rfl (by first | rfl | (simp; done) | (simp; omega))), (look_slice rfl (by first | rfl | (simp; done) | (simp; omega))), (look_slice rfl (by first | rfl | (simp; done) | (simp; omega))), (look_slice rfl (by first | rfl | (simp; done) | (simp; omega))), (look_slice rfl (by first | rfl | (simp; done) | (simp; omega))), (look_slice rfl (by first | rfl | (simp; done) | (simp; omega))), rfl, trivial⟩
                rintro mk7 _ wl23 ⟨t11_1, l39, l37, F, rfl, H⟩
                have R0 := H.ext
                replace F := ref07_best_L6_s F
                obtain ⟨mk7, rfl, F⟩ := F
                generalize hrec7 : ref07_best_L6 a0 m3 l5 l1 rec1 l33 l34 mk7 = rec7 at F
                unfold ref07_best_B6 at F
                refine CW.seq fun K42 hK42 => ?_
                refine CW.seq fun K43 hK43 => ?_
                refine CW.region ?_
                refine LW.pure rfl rfl (RV.move rfl) ?_
                refine LW.pure rfl rfl (RV.move rfl) ?_
                refine LW.pure rfl rfl (RV.len Ts22 rfl) ?_
                refine LW.pure rfl rfl (RV.lss rfl rfl) ?_
                refine LW.nil (hK43 _ _ ?_)
                by_cases hp16 : t11_1 < ((l39.length : Int))
                ·
                  replace F := ite_y hp16 F
                  have hq16 := dec_t hp16
                  refine CW.condT rfl hq16 ?_
                  refine CW.skip (hK42 _ _ ?_)
                  refine CW.seqJ (fun ρ wl24 => (∃ (l38 : List Int), ref07_best_k13 t11_1 l37 rec7 l38 = some res ∧ ρ = [(1, .pointer (some (⟨b1, 0, none⟩))), (2, .slice none 0 0), (3, .slice A9_0 m3.length c9_0), (4, .slice Al44 l5.length cl44), (5, .slice Al45 l1.length cl45), (6, .slice Al40 l38.length cl40), (7, .slice Al43 l34.length cl43), (8, .slice Al33 l33.length cl33), (9, .slice Al41 l37.length cl41), (11, .int .i64 t11_1)] ∧ Hp w wl24 [.tab A9_0 c9_0 22 hs9_0 3 1 (encM encN m3), .own Al44 cl44 3 1 (List.map encN l5), .own Al45 cl45 3 1 (List.map encN l1), .own Al40 cl40 3 1 (List.map encN l38), .own Al43 cl43 3 1 (List.map encN l34), .own Al33 cl33 3 1 (List.map encN l33), .own Al41 cl41 3 1 (List.map encN ((l37.set (Int.toNat t11_1) (-1)))), .blk b1 25 [.slice A_a0_supply a0.supply.length c_a0_supply, .slice A_a0_demand a0.demand.length c_a0_demand, .slice A_a0_cost a0.cost.length c_a0_cost]])) ?_ ?_
                  ·
                    rintro _ wl24 ⟨l38, F, rfl, H⟩
                    have R0 := H.ext
                    unfold ref07_best_k13 at F
                    obtain ⟨hg15, F⟩ := gd_some F
                    refine CW.region ?_
                    refine LW.pure rfl rfl (RV.move rfl) ?_
                    refine LW.pure rfl rfl (RV.add rfl rfl hg15) ?_
                    refine LW.pure rfl rfl (RV.assign rfl) ?_
                    refine LW.nil ?_
                    subst hrec7
                    refine ⟨mk7, Nat.lt_succ_self _, _, ?_, (t11_1 + 1), l38, ((l37.set (Int.toNat t11_1) (-1))), F, rfl, H⟩
                    exact ⟨rfl, rfl, (look_slice rfl (by first | rfl | (simp; done) | (simp; omega))), (look_slice rfl (by first | rfl | (simp; done) | (simp; omega))), (look_slice rfl (by first | rfl | (simp; done) | (simp; omega))), (look_slice rfl (by first | rfl | (simp; done) | (simp; omega))), (look_slice rfl (by first | rfl | (simp; done) | (simp; omega))), (look_slice rfl (by first | rfl | (simp; done) | (simp; omega))), (look_slice rfl (by first | rfl | (simp; done) | (simp; omega))), rfl, trivial⟩
                  ·
                    intro K44 hK44 jK48102
                    refine CW.block ?_
                    refine CW.seq fun K45 hK45 => ?_
                    obtain ⟨x38, hbx38, hx38, F⟩ := ix_some F
                    refine CW.region ?_
                    refine LW.pure rfl rfl (RV.move rfl) ?_
                    refine LW.pure rfl rfl (RV.move rfl) ?_
                    refine LW.pure rfl rfl (RV.indexAddr Ts22 rfl rfl hbx38 ((H.own 6 rfl).sl.addr_ hx38)) ?_
                    refine LW.go rfl rfl (OW.storeO (enc := encN) (vs := [.int .i64 (-1)]) 0 (-1) Tk3 rfl rfl (H.own 6 rfl) (fun _ => rfl) rfl hx38 rfl rfl (by decide) rfl rfl fun w22 M9 O9 => ?_)
                    replace H : Hp w w22 [.tab A9_0 c9_0 22 hs9_0 3 1 (encM encN m3), .own Al44 cl44 3 1 (List.map encN l5), .own Al45 cl45 3 1 (List.map encN l1), .own Al40 cl40 3 1 (List.map encN l39), .own Al43 cl43 3 1 (List.map encN l34), .own Al33 cl33 3 1 (List.map encN l33), .own Al41 cl41 3 1 (List.map encN ((l37.set (Int.toNat t11_1) (-1)))), .blk b1 25 [.slice A_a0_supply a0.supply.length c_a0_supply, .slice A_a0_demand a0.demand.length c_a0_demand, .slice A_a0_cost a0.cost.length c_a0_cost]] := H.mod 6 rfl M9 O9 (.inl rfl)
                    replace R0 := H.ext
                    refine LW.nil (hK45 _ _ ?_)
                    refine CW.seq fun K46 hK46 => ?_
                    obtain ⟨x39, hbx39, hx39, F⟩ := ix_some F
                    refine CW.region ?_
                    refine LW.pure rfl rfl (RV.move rfl) ?_
                    refine LW.pure rfl rfl (RV.move rfl) ?_
                    refine LW.pure rfl rfl (RV.indexAddr Ts22 rfl rfl hbx39 ((H.own 1 rfl).sl.addr_ hx39)) ?_
                    refine LW.pure rfl rfl (RV.load1 Tk3 rfl ((H.own 1 rfl).sl.at_ hx39) rfl) ?_
                    refine LW.pure rfl rfl (RV.eqi rfl rfl) ?_
                    refine LW.nil (hK46 _ _ ?_)
                    by_cases hp17 : x39 = 0
                    ·
                      replace F := ite_y hp17 F
                      have hq17 := dec_t hp17
                      refine CW.condT rfl hq17 ?_
                      obtain ⟨x40, hbx40, hx40, F⟩ := ix_some F
                      refine CW.region ?_
                      refine LW.pure rfl rfl (RV.move rfl) ?_
                      refine LW.pure rfl rfl (RV.move rfl) ?_
                      refine LW.pure rfl rfl (RV.indexAddr Ts22 rfl rfl hbx40 ((H.own 3 rfl).sl.addr_ hx40)) ?_
                      refine LW.go rfl rfl (OW.storeO (enc := encN) (vs := [.int .i64 1073741824]) 0 (1073741824) Tk3 rfl rfl (H.own 3 rfl) (fun _ => rfl) rfl hx40 rfl rfl (by decide) rfl rfl fun w23 M10 O10 => ?_)
                      replace H : Hp w w23 [.tab A9_0 c9_0 22 hs9_0 3 1 (encM encN m3), .own Al44 cl44 3 1 (List.map encN l5), .own Al45 cl45 3 1 (List.map encN l1), .own Al40 cl40 3 1 (List.map encN ((l39.set (Int.toNat t11_1) 1073741824))), .own Al43 cl43 3 1 (List.map encN l34), .own Al33 cl33 3 1 (List.map encN l33), .own Al41 cl41 3 1 (List.map encN ((l37.set (Int.toNat t11_1) (-1)))), .blk b1 25 [.slice A_a0_supply a0.supply.length c_a0_supply, .slice A_a0_demand a0.demand.length c_a0_demand, .slice A_a0_cost a0.cost.length c_a0_cost]] := H.mod 3 rfl M10 O10 (.inl rfl)
                      replace R0 := H.ext
                      refine LW.nil (jK48102 _ _ ⟨_, ?_, ⟨((l39.set (Int.toNat t11_1) 1073741824)), F, rfl, H⟩⟩)
                      exact ⟨rfl, rfl, (look_slice rfl (by first | rfl | (simp; done) | (simp; omega))), (look_slice rfl (by first | rfl | (simp; done) | (simp; omega))), (look_slice rfl (by first | rfl | (simp; done) | (simp; omega))), (look_slice rfl (by first | rfl | (simp; done) | (simp; omega))), (look_slice rfl (by first | rfl | (simp; done) | (simp; omega))), (look_slice rfl (by first | rfl | (simp; done) | (simp; omega))), (look_slice rfl (by first | rfl | (simp; done) | (simp; omega))), rfl, trivial⟩
                    ·
                      replace F := ite_n hp17 F
                      have hq17 := dec_f hp17
                      refine CW.condF rfl hq17 ?_
                      refine CW.skip (jK48102 _ _ ⟨_, ?_, ⟨l39, F, rfl, H⟩⟩)
                      exact ⟨rfl, rfl, (look_slice rfl (by first | rfl | (simp; done) | (simp; omega))), (look_slice rfl (by first | rfl | (simp; done) | (simp; omega))), (look_slice rfl (by first | rfl | (simp; done) | (simp; omega))), (look_slice rfl (by first | rfl | (simp; done) | (simp; omega))), (look_slice rfl (by first | rfl | (simp; done) | (simp; omega))), (look_slice rfl (by first | rfl | (simp; done) | (simp; omega))), (look_slice rfl (by first | rfl | (simp; done) | (simp; omega))), rfl, trivial⟩
                ·
                  replace F := ite_n hp16 F
                  have hq16 := dec_f hp16
                  refine CW.condF rfl hq16 ?_
                  refine CW.exit (jK48082 _ _ ⟨_, ?_, ⟨l39, l37, F, rfl, H⟩⟩)
                  exact ⟨rfl, rfl, (look_slice rfl (by first | rfl | (simp; done) | (simp; omega))), (look_slice rfl (by first | rfl | (simp; done) | (simp; omega))), (look_slice rfl (by first | rfl | (simp; done) | (simp; omega))), (look_slice rfl (by first | rfl | (simp; done) | (simp; omega))), (look_slice rfl (by first | rfl | (simp; done) | (simp; omega))), (look_slice rfl (by first | rfl | (simp; done) | (simp; omega))), (look_slice rfl (by first | rfl | (simp; done) | (simp; omega))), trivial⟩
            ·
              intro K47 hK47 jK48105
              refine CW.seq fun K48 hK48 => ?_
              refine CW.region ?_
              refine LW.pure rfl rfl (RV.assign rfl) ?_
              refine LW.nil (hK48 _ _ ?_)
              refine CW.block ?_
              refine CW.loop (fun meas ρ wl25 => ∃ (t10_1 : Int) (l42 : List Int), ref07_best_L7 a0 m3 l5 l1 rec1 l40 l33 l41 meas t10_1 l42 = some res ∧ ρ = [(1, .pointer (some (⟨b1, 0, none⟩))), (2, .slice none 0 0), (3, .slice A9_0 m3.length c9_0), (4, .slice Al44 l5.length cl44), (5, .slice Al45 l1.length cl45), (6, .slice Al40 l40.length cl40), (7, .slice Al43 l42.length cl43), (8, .slice Al33 l33.length cl33), (9, .slice Al41 l41.length cl41), (10, .int .i64 t10_1)] ∧ Hp w wl25 [.tab A9_0 c9_0 22 hs9_0 3 1 (encM encN m3), .own Al44 cl44 3 1 (List.map encN l5), .own Al45 cl45 3 1 (List.map encN l1), .own Al40 cl40 3 1 (List.map encN l40), .own Al43 cl43 3 1 (List.map encN l42), .own Al33 cl33 3 1 (List.map encN l33), .own Al41 cl41 3 1 (List.map encN l41), .blk b1 25 [.slice A_a0_supply a0.supply.length c_a0_supply, .slice A_a0_demand a0.demand.length c_a0_demand, .slice A_a0_cost a0.cost.length c_a0_cost]]) FU ⟨_, ?_, ((0 : Int)), l43, F, rfl, H⟩ ?_
              · exact ⟨rfl, rfl, (look_slice rfl (by first | rfl | (simp; done) | (simp; omega))), (look_slice rfl (by first | rfl | (simp; done) | (simp; omega))), (look_slice rfl (by first | rfl | (simp; done) | (simp; omega))), (look_slice rfl (by first | rfl | (simp; done) | (simp; omega))), (look_slice rfl (by first | rfl | (simp; done) | (simp; omega))), (look_slice rfl (by first | rfl | (simp; done) | (simp; omega))), (look_slice rfl (by first | rfl | (simp; done) | (simp; omega))), rfl, trivial⟩
              rintro mk8 _ wl25 ⟨t10_1, l42, F, rfl, H⟩
              have R0 := H.ext
              replace F := ref07_best_L7_s F
              obtain ⟨mk8, rfl, F⟩ := F
              generalize hrec8 : ref07_best_L7 a0 m3 l5 l1 rec1 l40 l33 l41 mk8 = rec8 at F
              unfold ref07_best_B7 at F
              refine CW.seq fun K49 hK49 => ?_
              refine CW.seq fun K50 hK50 => ?_
              refine CW.region ?_
              refine LW.pure rfl rfl (RV.move rfl) ?_
              refine LW.pure rfl rfl (RV.move rfl) ?_
              refine LW.pure rfl rfl (RV.len Ts22 rfl) ?_
              refine LW.pure rfl rfl (RV.lss rfl rfl) ?_
              refine LW.nil (hK50 _ _ ?_)
              by_cases hp18 : t10_1 < ((l42.length : Int))
              ·
                replace F := ite_y hp18 F
                have hq18 := dec_t hp18
                refine CW.condT rfl hq18 ?_
                refine CW.skip (hK49 _ _ ?_)
                refine CW.seq fun K51 hK51 => ?_
                refine CW.block ?_
                obtain ⟨x41, hbx41, hx41, F⟩ := ix_some F
                refine CW.region ?_
                refine LW.pure rfl rfl (RV.move rfl) ?_
                refine LW.pure rfl rfl (RV.move rfl) ?_
                refine LW.pure rfl rfl (RV.indexAddr Ts22 rfl rfl hbx41 ((H.own 4 rfl).sl.addr_ hx41)) ?_
                refine LW.go rfl rfl (OW.storeO (enc := encN) (vs := [.int .i64 1073741824]) 0 (1073741824) Tk3 rfl rfl (H.own 4 rfl) (fun _ => rfl) rfl hx41 rfl rfl (by decide) rfl rfl fun w24 M11 O11 => ?_)
                replace H : Hp w w24 [.tab A9_0 c9_0 22 hs9_0 3 1 (encM encN m3), .own Al44 cl44 3 1 (List.map encN l5), .own Al45 cl45 3 1 (List.map encN l1), .own Al40 cl40 3 1 (List.map encN l40), .own Al43 cl43 3 1 (List.map encN ((l42.set (Int.toNat t10_1) 1073741824))), .own Al33 cl33 3 1 (List.map encN l33), .own Al41 cl41 3 1 (List.map encN l41), .blk b1 25 [.slice A_a0_supply a0.supply.length c_a0_supply, .slice A_a0_demand a0.demand.length c_a0_demand, .slice A_a0_cost a0.cost.length c_a0_cost]] := H.mod 4 rfl M11 O11 (.inl rfl)
                replace R0 := H.ext
                refine LW.nil (hK51 _ _ ?_)
                obtain ⟨hg16, F⟩ := gd_some F
                refine CW.region ?_
                refine LW.pure rfl rfl (RV.move rfl) ?_
                refine LW.pure rfl rfl (RV.add rfl rfl hg16) ?_
                refine LW.pure rfl rfl (RV.assign rfl) ?_
                refine LW.nil ?_
                subst hrec8
                refine ⟨mk8, Nat.lt_succ_self _, _, ?_, (t10_1 + 1), ((l42.set (Int.toNat t10_1) 1073741824)), F, rfl, H⟩
                exact ⟨rfl, rfl, (look_slice rfl (by first | rfl | (simp; done) | (simp; omega))), (look_slice rfl (by first | rfl | (simp; done) | (simp; omega))), (look_slice rfl (by first | rfl | (simp; done) | (simp; omega))), (look_slice rfl (by first | rfl | (simp; done) | (simp; omega))), (look_slice rfl (by first | rfl | (simp; done) | (simp; omega))), (look_slice rfl (by first | rfl | (simp; done) | (simp; omega))), (look_slice rfl (by first | rfl | (simp; done) | (simp; omega))), rfl, trivial⟩
              ·
                replace F := ite_n hp18 F
                have hq18 := dec_f hp18
                refine CW.condF rfl hq18 ?_
                refine CW.exit (jK48105 _ _ ⟨_, ?_, ⟨l42, F, rfl, H⟩⟩)
                exact ⟨rfl, rfl, (look_slice rfl (by first | rfl | (simp; done) | (simp; omega))), (look_slice rfl (by first | rfl | (simp; done) | (simp; omega))), (look_slice rfl (by first | rfl | (simp; done) | (simp; omega))), (look_slice rfl (by first | rfl | (simp; done) | (simp; omega))), (look_slice rfl (by first | rfl | (simp; done) | (simp; omega))), (look_slice rfl (by first | rfl | (simp; done) | (simp; omega))), (look_slice rfl (by first | rfl | (simp; done) | (simp; omega))), trivial⟩
          ·
            intro K52 hK52 jK48116
            obtain ⟨hg17, F⟩ := gd_some F
            obtain ⟨hg18, F⟩ := gd_some F
            refine CW.draw [] (fun _ => True) (.cons 0 1 (.cons 1 1 (.cons 3 1 (.cons 4 1 (.alt 2 (.cons 6 1 (.cons 5 0 (.cons 7 1 .nil))) (.cons 5 0 (.cons 2 0 (.cons 6 1 (.cons 7 1 .nil))))))))) mixed (by kernel_rfl) fun w25 E13 => ?_
            replace H := H.grow E13
            replace R0 := H.ext
            refine DW.fix rfl rfl rfl (fun _ EQ => RV.move rfl) ?_
            refine DW.fix rfl rfl rfl (fun _ EQ => RV.len Ts22 rfl) ?_
            refine DW.fix rfl rfl rfl (fun _ EQ => RV.move rfl) ?_
            refine DW.fix rfl rfl rfl (fun _ EQ => RV.len Ts22 rfl) ?_
            refine DW.alt ?_ ?_
            ·
              refine DW.sole rfl rfl rfl (OW.makeR (enc := encN) (0 : Int) Ts22 rfl rfl rfl rfl rfl hg17 (by decide) fun b2 w26 N2 => ?_)
              refine ⟨fun _ => N2.ext, ModX.ext N2.ext, ?_⟩
              replace H := H.made' (k := 1) (t := 3) (enc := encN) (l := (List.replicate (Int.toNat ((l1.length : Int))) (0 : Int))) N2 N2.blk (fun _ => rfl) rfl (by first | decide | omega | (simp; done) | (simp; omega))
              replace R0 := H.ext
              refine DW.fix rfl rfl rfl (fun _ EQ => RV.assign rfl) ?_
              refine DW.sole rfl rfl rfl (OW.makeR (enc := encN) (0 : Int) Ts22 rfl rfl rfl rfl rfl hg18 (by decide) fun b3 w27 N3 => ?_)
              refine ⟨fun _ => N3.ext, ModX.ext N3.ext, ?_⟩
              replace H := H.made' (k := 1) (t := 3) (enc := encN) (l := (List.replicate (Int.toNat ((l5.length : Int))) (0 : Int))) N3 N3.blk (fun _ => rfl) rfl (by first | decide | omega | (simp; done) | (simp; omega))
              replace R0 := H.ext
              refine DW.fix rfl rfl rfl (fun _ EQ => RV.assign rfl) ?_
              replace H := H.pick (L' := [.tab A9_0 c9_0 22 hs9_0 3 1 (encM encN m3), .own Al44 cl44 3 1 (List.map encN l5), .own Al45 cl45 3 1 (List.map encN l1), .own Al40 cl40 3 1 (List.map encN l40), .own Al43 cl43 3 1 (List.map encN l43), .own (some ⟨b2, 0, none⟩) (((List.replicate (Int.toNat ((l1.length : Int))) (0 : Int))).length) 3 1 (List.map encN ((List.replicate (Int.toNat ((l1.length : Int))) (0 : Int)))), .own (some ⟨b3, 0, none⟩) (((List.replicate (Int.toNat ((l5.length : Int))) (0 : Int))).length) 3 1 (List.map encN ((List.replicate (Int.toNat ((l5.length : Int))) (0 : Int)))), .blk b1 25 [.slice A_a0_supply a0.supply.length c_a0_supply, .slice A_a0_demand a0.demand.length c_a0_demand, .slice A_a0_cost a0.cost.length c_a0_cost]]) [2, 3, 4, 5, 6, 1, 0, 7] (by decide) rfl
              replace R0 := H.ext
              refine DW.nil (jK48116 _ _ ⟨_, ?_, ⟨((List.replicate (Int.toNat ((l1.length : Int))) (0 : Int))), ((List.replicate (Int.toNat ((l5.length : Int))) (0 : Int))), (some ⟨b2, 0, none⟩), (((List.replicate (Int.toNat ((l1.length : Int))) (0 : Int))).length), (some ⟨b3, 0, none⟩), (((List.replicate (Int.toNat ((l5.length : Int))) (0 : Int))).length), F, rfl, H⟩⟩)
              exact ⟨rfl, rfl, (look_slice rfl (by first | rfl | (simp; done) | (simp; omega))), (look_slice rfl (by first | rfl | (simp; done) | (simp; omega))), (look_slice rfl (by first | rfl | (simp; done) | (simp; omega))), (look_slice rfl (by first | rfl | (simp; done) | (simp; omega))), (look_slice rfl (by first | rfl | (simp; done) | (simp; omega))), (look_slice rfl (by first | rfl | (simp; done) | (simp; omega))), (look_slice rfl (by first | rfl | (simp; done) | (simp; omega))), trivial⟩
            ·
              refine DW.sole rfl rfl rfl (OW.makeR (enc := encN) (0 : Int) Ts22 rfl rfl rfl rfl rfl hg18 (by decide) fun b4 w28 N4 => ?_)
              refine ⟨fun _ => N4.ext, ModX.ext N4.ext, ?_⟩
              replace H := H.made' (k := 1) (t := 3) (enc := encN) (l := (List.replicate (Int.toNat ((l5.length : Int))) (0 : Int))) N4 N4.blk (fun _ => rfl) rfl (by first | decide | omega | (simp; done) | (simp; omega))
              replace R0 := H.ext
              refine DW.sole rfl rfl rfl (OW.makeR (enc := encN) (0 : Int) Ts22 rfl rfl rfl rfl rfl hg17 (by decide) fun b5 w29 N5 => ?_)
              refine ⟨fun _ => N5.ext, ModX.ext N5.ext, ?_⟩
              replace H := H.made' (k := 1) (t := 3) (enc := encN) (l := (List.replicate (Int.toNat ((l1.length : Int))) (0 : Int))) N5 N5.blk (fun _ => rfl) rfl (by first | decide | omega | (simp; done) | (simp; omega))
              replace R0 := H.ext
              refine DW.fix rfl rfl rfl (fun _ EQ => RV.assign rfl) ?_
              refine DW.fix rfl rfl rfl (fun _ EQ => RV.assign rfl) ?_
              replace H := H.pick (L' := [.tab A9_0 c9_0 22 hs9_0 3 1 (encM encN m3), .own Al44 cl44 3 1 (List.map encN l5), .own Al45 cl45 3 1 (List.map encN l1), .own Al40 cl40 3 1 (List.map encN l40), .own Al43 cl43 3 1 (List.map encN l43), .own (some ⟨b5, 0, none⟩) (((List.replicate (Int.toNat ((l1.length : Int))) (0 : Int))).length) 3 1 (List.map encN ((List.replicate (Int.toNat ((l1.length : Int))) (0 : Int)))), .own (some ⟨b4, 0, none⟩) (((List.replicate (Int.toNat ((l5.length : Int))) (0 : Int))).length) 3 1 (List.map encN ((List.replicate (Int.toNat ((l5.length : Int))) (0 : Int)))), .blk b1 25 [.slice A_a0_supply a0.supply.length c_a0_supply, .slice A_a0_demand a0.demand.length c_a0_demand, .slice A_a0_cost a0.cost.length c_a0_cost]]) [2, 3, 4, 5, 6, 0, 1, 7] (by decide) rfl
              replace R0 := H.ext
              refine DW.nil (jK48116 _ _ ⟨_, ?_, ⟨((List.replicate (Int.toNat ((l1.length : Int))) (0 : Int))), ((List.replicate (Int.toNat ((l5.length : Int))) (0 : Int))), (some ⟨b5, 0, none⟩), (((List.replicate (Int.toNat ((l1.length : Int))) (0 : Int))).length), (some ⟨b4, 0, none⟩), (((List.replicate (Int.toNat ((l5.length : Int))) (0 : Int))).length), F, rfl, H⟩⟩)
              exact ⟨rfl, rfl, (look_slice rfl (by first | rfl | (simp; done) | (simp; omega))), (look_slice rfl (by first | rfl | (simp; done) | (simp; omega))), (look_slice rfl (by first | rfl | (simp; done) | (simp; omega))), (look_slice rfl (by first | rfl | (simp; done) | (simp; omega))), (look_slice rfl (by first | rfl | (simp; done) | (simp; omega))), (look_slice rfl (by first | rfl | (simp; done) | (simp; omega))), (look_slice rfl (by first | rfl | (simp; done) | (simp; omega))), trivial⟩
        ·
          intro K53 hK53 jK48117
          obtain ⟨hg19, F⟩ := gd_some F
          obtain ⟨hg20, F⟩ := gd_some F
          refine CW.draw [] (fun _ => True) (.cons 0 1 (.cons 1 1 (.cons 3 1 (.cons 4 1 (.alt 2 (.cons 6 1 (.cons 5 0 (.cons 7 1 .nil))) (.cons 5 0 (.cons 2 0 (.cons 6 1 (.cons 7 1 .nil))))))))) mixed (by kernel_rfl) fun w30 E14 => ?_
          replace H := H.grow E14
          replace R0 := H.ext
          refine DW.fix rfl rfl rfl (fun _ EQ => RV.move rfl) ?_
          refine DW.fix rfl rfl rfl (fun _ EQ => RV.len Ts22 rfl) ?_
          refine DW.fix rfl rfl rfl (fun _ EQ => RV.move rfl) ?_
          refine DW.fix rfl rfl rfl (fun _ EQ => RV.len Ts22 rfl) ?_
          refine DW.alt ?_ ?_
          ·
            refine DW.sole rfl rfl rfl (OW.makeR (enc := encN) (0 : Int) Ts22 rfl rfl rfl rfl rfl hg19 (by decide) fun b6 w31 N6 => ?_)
            refine ⟨fun _ => N6.ext, ModX.ext N6.ext, ?_⟩
            replace H := H.made' (k := 1) (t := 3) (enc := encN) (l := (List.replicate (Int.toNat ((l5.length : Int))) (0 : Int))) N6 N6.blk (fun _ => rfl) rfl (by first | decide | omega | (simp; done) | (simp; omega))
            replace R0 := H.ext
            refine DW.fix rfl rfl rfl (fun _ EQ => RV.assign rfl) ?_
            refine DW.sole rfl rfl rfl (OW.makeR (enc := encN) (0 : Int) Ts22 rfl rfl rfl rfl rfl hg20 (by decide) fun b7 w32 N7 => ?_)
            refine ⟨fun _ => N7.ext, ModX.ext N7.ext, ?_⟩
            replace H := H.made' (k := 1) (t := 3) (enc := encN) (l := (List.replicate (Int.toNat ((l1.length : Int))) (0 : Int))) N7 N7.blk (fun _ => rfl) rfl (by first | decide | omega | (simp; done) | (simp; omega))
            replace R0 := H.ext
            refine DW.fix rfl rfl rfl (fun _ EQ => RV.assign rfl) ?_
            replace H := H.pick (L' := [.tab A9_0 c9_0 22 hs9_0 3 1 (encM encN m3), .own Al44 cl44 3 1 (List.map encN l5), .own Al45 cl45 3 1 (List.map encN l1), .own (some ⟨b6, 0, none⟩) (((List.replicate (Int.toNat ((l5.length : Int))) (0 : Int))).length) 3 1 (List.map encN ((List.replicate (Int.toNat ((l5.length : Int))) (0 : Int)))), .own (some ⟨b7, 0, none⟩) (((List.replicate (Int.toNat ((l1.length : Int))) (0 : Int))).length) 3 1 (List.map encN ((List.replicate (Int.toNat ((l1.length : Int))) (0 : Int)))), .blk b1 25 [.slice A_a0_supply a0.supply.length c_a0_supply, .slice A_a0_demand a0.demand.length c_a0_demand, .slice A_a0_cost a0.cost.length c_a0_cost]]) [2, 3, 4, 1, 0, 5] (by decide) rfl
            replace R0 := H.ext
            refine DW.nil (jK48117 _ _ ⟨_, ?_, ⟨((List.replicate (Int.toNat ((l5.length : Int))) (0 : Int))), ((List.replicate (Int.toNat ((l1.length : Int))) (0 : Int))), (some ⟨b6, 0, none⟩), (((List.replicate (Int.toNat ((l5.length : Int))) (0 : Int))).length), (some ⟨b7, 0, none⟩), (((List.replicate (Int.toNat ((l1.length : Int))) (0 : Int))).length), F, rfl, H⟩⟩)
            exact ⟨rfl, rfl, (look_slice rfl (by first | rfl | (simp; done) | (simp; omega))), (look_slice rfl (by first | rfl | (simp; done) | (simp; omega))), (look_slice rfl (by first | rfl | (simp; done) | (simp; omega))), (look_slice rfl (by first | rfl | (simp; done) | (simp; omega))), (look_slice rfl (by first | rfl | (simp; done) | (simp; omega))), trivial⟩
          ·
            refine DW.sole rfl rfl rfl (OW.makeR (enc := encN) (0 : Int) Ts22 rfl rfl rfl rfl rfl hg20 (by decide) fun b8 w33 N8 => ?_)
            refine ⟨fun _ => N8.ext, ModX.ext N8.ext, ?_⟩
            replace H := H.made' (k := 1) (t := 3) (enc := encN) (l := (List.replicate (Int.toNat ((l1.length : Int))) (0 : Int))) N8 N8.blk (fun _ => rfl) rfl (by first | decide | omega | (simp; done) | (simp; omega))
            replace R0 := H.ext
            refine DW.sole rfl rfl rfl (OW.makeR (enc := encN) (0 : Int) Ts22 rfl rfl rfl rfl rfl hg19 (by decide) fun b9 w34 N9 => ?_)
            refine ⟨fun _ => N9.ext, ModX.ext N9.ext, ?_⟩
            replace H := H.made' (k := 1) (t := 3) (enc := encN) (l := (List.replicate (Int.toNat ((l5.length : Int))) (0 : Int))) N9 N9.blk (fun _ => rfl) rfl (by first | decide | omega | (simp; done) | (simp; omega))
            replace R0 := H.ext
            refine DW.fix rfl rfl rfl (fun _ EQ => RV.assign rfl) ?_
            refine DW.fix rfl rfl rfl (fun _ EQ => RV.assign rfl) ?_
            replace H := H.pick (L' := [.tab A9_0 c9_0 22 hs9_0 3 1 (encM encN m3), .own Al44 cl44 3 1 (List.map encN l5), .own Al45 cl45 3 1 (List.map encN l1), .own (some ⟨b9, 0, none⟩) (((List.replicate (Int.toNat ((l5.length : Int))) (0 : Int))).length) 3 1 (List.map encN ((List.replicate (Int.toNat ((l5.length : Int))) (0 : Int)))), .own (some ⟨b8, 0, none⟩) (((List.replicate (Int.toNat ((l1.length : Int))) (0 : Int))).length) 3 1 (List.map encN ((List.replicate (Int.toNat ((l1.length : Int))) (0 : Int)))), .blk b1 25 [.slice A_a0_supply a0.supply.length c_a0_supply, .slice A_a0_demand a0.demand.length c_a0_demand, .slice A_a0_cost a0.cost.length c_a0_cost]]) [2, 3, 4, 0, 1, 5] (by decide) rfl
            replace R0 := H.ext
            refine DW.nil (jK48117 _ _ ⟨_, ?_, ⟨((List.replicate (Int.toNat ((l5.length : Int))) (0 : Int))), ((List.replicate (Int.toNat ((l1.length : Int))) (0 : Int))), (some ⟨b9, 0, none⟩), (((List.replicate (Int.toNat ((l5.length : Int))) (0 : Int))).length), (some ⟨b8, 0, none⟩), (((List.replicate (Int.toNat ((l1.length : Int))) (0 : Int))).length), F, rfl, H⟩⟩)
            exact ⟨rfl, rfl, (look_slice rfl (by first | rfl | (simp; done) | (simp; omega))), (look_slice rfl (by first | rfl | (simp; done) | (simp; omega))), (look_slice rfl (by first | rfl | (simp; done) | (simp; omega))), (look_slice rfl (by first | rfl | (simp; done) | (simp; omega))), (look_slice rfl (by first | rfl | (simp; done) | (simp; omega))), trivial⟩
      ·
        replace F := ite_n hp1 F
        have hq1 := dec_f hp1
        refine CW.condF rfl hq1 ?_
        replace H := H.pick (L' := [.tab A9_0 c9_0 22 hs9_0 3 1 (encM encN m3)]) [0] (by decide) rfl
        replace R0 := H.ext
        refine CW.exit (jK36090 _ _ ⟨_, ?_, ⟨m3, F, rfl, H⟩⟩)
        exact ⟨rfl, (look_slice rfl (by first | rfl | (simp; done) | (simp; omega))), trivial⟩
  ·
    intro K54 hK54 jK48118
    obtain ⟨hg21, F⟩ := gd_some F
    obtain ⟨hg22, F⟩ := gd_some F
    have H0 := H
    have hz : w2.heap.size ≤ w2.heap.size := Nat.le_refl _
    refine CW.draw [3, 7] (XB w2 [.tab A9_0 c9_0 22 hs9_0 3 1 (encM encN r2), .blk b1 25 [.slice A_a0_supply a0.supply.length c_a0_supply, .slice A_a0_demand a0.demand.length c_a0_demand, .slice A_a0_cost a0.cost.length c_a0_cost]] []) (.cons 1 2 (.cons 2 2 (.cons 5 2 (.cons 6 2 (.alt 0 (.alt 3 (.cons 4 0 (.cons 7 0 (.cons 8 2 (.cons 9 2 .nil)))) (.cons 4 0 (.cons 3 0 (.cons 7 0 (.cons 8 2 (.cons 9 2 .nil)))))) (.cons 4 0 (.cons 0 0 (.cons 3 0 (.cons 7 0 (.cons 8 2 (.cons 9 2 .nil))))))))))) mixed (by kernel_rfl) fun w35 E15 => ?_
    replace H := H.grow E15
    replace R0 := H.ext
    replace hz := Nat.le_trans hz (Ext.size E15)
    refine DW.thru rfl rfl rfl (fun _ EQ => RV.fieldAddr Tf25_0 rfl) ?_
    refine DW.thru rfl rfl rfl (fun _ EQ => RV.load1 Tk22 rfl ((H.thruB 1 rfl EQ (H0.notX [] 1 rfl (by decide))).cells.off 0) rfl) ?_
    refine DW.thru rfl rfl rfl (fun _ EQ => RV.fieldAddr Tf25_1 rfl) ?_
    refine DW.thru rfl rfl rfl (fun _ EQ => RV.load1 Tk22 rfl ((H.thruB 1 rfl EQ (H0.notX [] 1 rfl (by decide))).cells.off 1) rfl) ?_
    refine DW.alt ?_ ?_
    ·
      refine DW.sole rfl rfl rfl (OW.buildSlice (e := 3) (vs := []) (cs := []) rfl (fun _ => by kernel_rfl) fun b10 w36 N10 => ?_)
      refine ⟨fun _ => N10.ext, ModX.ext N10.ext, ?_⟩
      have G0_b10 : w2.heap.size ≤ b10 := by rw [N10.at_]; exact hz
      replace H := H.made' (k := 1) (t := 3) (enc := encN) (l := ([] : List Int)) N10 N10.blk (fun _ => rfl) rfl (by first | decide | omega | (simp; done) | (simp; omega))
      replace R0 := H.ext
      replace hz := Nat.le_trans hz (Ext.size N10.ext)
      refine DW.alt ?_ ?_
      ·
        refine DW.sole rfl rfl rfl (OW.appendG (enc := encN) (l := ([] : List Int)) (xs := a0.supply) Ts22 (look_slice rfl (by first | rfl | (simp; done) | (simp; omega))) rfl (H.own 0 rfl) (h_a0_supply.ext R0) (fun _ => rfl) rfl rfl hg21 (by decide) fun A6 c6 w37 O12 M12 D1 => ?_)
        have G0_A6 := Fresh.nextZ (Fresh.at_ G0_b10) D1 hz
        refine ⟨fun h => absurd h (by decide), M12.modx (XB.newA (Fresh.at_ G0_b10)), ?_⟩
        replace H : Hp w w37 [.own A6 c6 3 1 (List.map encN ((([] : List Int) ++ a0.supply))), .tab A9_0 c9_0 22 hs9_0 3 1 (encM encN r2), .blk b1 25 [.slice A_a0_supply a0.supply.length c_a0_supply, .slice A_a0_demand a0.demand.length c_a0_demand, .slice A_a0_cost a0.cost.length c_a0_cost]] := H.mod 0 rfl M12 O12 D1
        replace R0 := H.ext
        replace hz := Nat.le_trans hz M12.size
        refine DW.sole rfl rfl rfl (OW.buildSlice (e := 3) (vs := []) (cs := []) rfl (fun _ => by kernel_rfl) fun b11 w38 N11 => ?_)
        refine ⟨fun _ => N11.ext, ModX.ext N11.ext, ?_⟩
        have G0_b11 : w2.heap.size ≤ b11 := by rw [N11.at_]; exact hz
        replace H := H.made' (k := 1) (t := 3) (enc := encN) (l := ([] : List Int)) N11 N11.blk (fun _ => rfl) rfl (by first | decide | omega | (simp; done) | (simp; omega))
        replace R0 := H.ext
        replace hz := Nat.le_trans hz (Ext.size N11.ext)
        refine DW.sole rfl rfl rfl (OW.appendG (enc := encN) (l := ([] : List Int)) (xs := a0.demand) Ts22 (look_slice rfl (by first | rfl | (simp; done) | (simp; omega))) rfl (H.own 0 rfl) (h_a0_demand.ext R0) (fun _ => rfl) rfl rfl hg22 (by decide) fun A7 c7 w39 O13 M13 D2 => ?_)
        have G0_A7 := Fresh.nextZ (Fresh.at_ G0_b11) D2 hz
        refine ⟨fun h => absurd h (by decide), M13.modx (XB.newA (Fresh.at_ G0_b11)), ?_⟩
        replace H : Hp w w39 [.own A7 c7 3 1 (List.map encN ((([] : List Int) ++ a0.demand))), .own A6 c6 3 1 (List.map encN ((([] : List Int) ++ a0.supply))), .tab A9_0 c9_0 22 hs9_0 3 1 (encM encN r2), .blk b1 25 [.slice A_a0_supply a0.supply.length c_a0_supply, .slice A_a0_demand a0.demand.length c_a0_demand, .slice A_a0_cost a0.cost.length c_a0_cost]] := H.mod 0 rfl M13 O13 D2
        replace R0 := H.ext
        replace hz := Nat.le_trans hz M13.size
        refine DW.thru rfl rfl rfl (fun _ EQ => RV.assign rfl) ?_
        refine DW.thru rfl rfl rfl (fun _ EQ => RV.assign rfl) ?_
        replace H := H.pick (L' := [.tab A9_0 c9_0 22 hs9_0 3 1 (encM encN r2), .own A6 c6 3 1 (List.map encN ((([] : List Int) ++ a0.supply))), .own A7 c7 3 1 (List.map encN ((([] : List Int) ++ a0.demand))), .blk b1 25 [.slice A_a0_supply a0.supply.length c_a0_supply, .slice A_a0_demand a0.demand.length c_a0_demand, .slice A_a0_cost a0.cost.length c_a0_cost]]) [2, 1, 0, 3] (by decide) rfl
        replace R0 := H.ext
        refine DW.nil (jK48118 _ _ ⟨_, ?_, ⟨((([] : List Int) ++ a0.supply)), ((([] : List Int) ++ a0.demand)), A6, c6, A7, c7, F, rfl, H⟩⟩)
        exact ⟨rfl, rfl, (look_slice rfl (by first | rfl | (simp; done) | (simp; omega))), (look_slice rfl (by first | rfl | (simp; done) | (simp; omega))), (look_slice rfl (by first | rfl | (simp; done) | (simp; omega))), trivial⟩
      ·
        refine DW.sole rfl rfl rfl (OW.buildSlice (e := 3) (vs := []) (cs := []) rfl (fun _ => by kernel_rfl) fun b12 w40 N12 => ?_)
        refine ⟨fun _ => N12.ext, ModX.ext N12.ext, ?_⟩
        have G0_b12 : w2.heap.size ≤ b12 := by rw [N12.at_]; exact hz
        replace H := H.made' (k := 1) (t := 3) (enc := encN) (l := ([] : List Int)) N12 N12.blk (fun _ => rfl) rfl (by first | decide | omega | (simp; done) | (simp; omega))
        replace R0 := H.ext
        replace hz := Nat.le_trans hz (Ext.size N12.ext)
        refine DW.sole rfl rfl rfl (OW.appendG (enc := encN) (l := ([] : List Int)) (xs := a0.supply) Ts22 (look_slice rfl (by first | rfl | (simp; done) | (simp; omega))) rfl (H.own 1 rfl) (h_a0_supply.ext R0) (fun _ => rfl) rfl rfl hg21 (by decide) fun A8 c8 w41 O14 M14 D3 => ?_)
        have G0_A8 := Fresh.nextZ (Fresh.at_ G0_b10) D3 hz
        refine ⟨fun h => absurd h (by decide), M14.modx (XB.newA (Fresh.at_ G0_b10)), ?_⟩
        replace H : Hp w w41 [.own (some ⟨b12, 0, none⟩) ((([] : List Int)).length) 3 1 (List.map encN (([] : List Int))), .own A8 c8 3 1 (List.map encN ((([] : List Int) ++ a0.supply))), .tab A9_0 c9_0 22 hs9_0 3 1 (encM encN r2), .blk b1 25 [.slice A_a0_supply a0.supply.length c_a0_supply, .slice A_a0_demand a0.demand.length c_a0_demand, .slice A_a0_cost a0.cost.length c_a0_cost]] := H.mod 1 rfl M14 O14 D3
        replace R0 := H.ext
        replace hz := Nat.le_trans hz M14.size
        refine DW.sole rfl rfl rfl (OW.appendG (enc := encN) (l := ([] : List Int)) (xs := a0.demand) Ts22 (look_slice rfl (by first | rfl | (simp; done) | (simp; omega))) rfl (H.own 0 rfl) (h_a0_demand.ext R0) (fun _ => rfl) rfl rfl hg22 (by decide) fun A9 c9 w42 O15 M15 D4 => ?_)
        have G0_A9 := Fresh.nextZ (Fresh.at_ G0_b12) D4 hz
        refine ⟨fun h => absurd h (by decide), M15.modx (XB.newA (Fresh.at_ G0_b12)), ?_⟩
        replace H : Hp w w42 [.own A9 c9 3 1 (List.map encN ((([] : List Int) ++ a0.demand))), .own A8 c8 3 1 (List.map encN ((([] : List Int) ++ a0.supply))), .tab A9_0 c9_0 22 hs9_0 3 1 (encM encN r2), .blk b1 25 [.slice A_a0_supply a0.supply.length c_a0_supply, .slice A_a0_demand a0.demand.length c_a0_demand, .slice A_a0_cost a0.cost.length c_a0_cost]] := H.mod 0 rfl M15 O15 D4
        replace R0 := H.ext
        replace hz := Nat.le_trans hz M15.size
        refine DW.thru rfl rfl rfl (fun _ EQ => RV.assign rfl) ?_
        refine DW.thru rfl rfl rfl (fun _ EQ => RV.assign rfl) ?_
        replace H := H.pick (L' := [.tab A9_0 c9_0 22 hs9_0 3 1 (encM encN r2), .own A8 c8 3 1 (List.map encN ((([] : List Int) ++ a0.supply))), .own A9 c9 3 1 (List.map encN ((([] : List Int) ++ a0.demand))), .blk b1 25 [.slice A_a0_supply a0.supply.length c_a0_supply, .slice A_a0_demand a0.demand.length c_a0_demand, .slice A_a0_cost a0.cost.length c_a0_cost]]) [2, 1, 0, 3] (by decide) rfl
        replace R0 := H.ext
        refine DW.nil (jK48118 _ _ ⟨_, ?_, ⟨((([] : List Int) ++ a0.supply)), ((([] : List Int) ++ a0.demand)), A8, c8, A9, c9, F, rfl, H⟩⟩)
        exact ⟨rfl, rfl, (look_slice rfl (by first | rfl | (simp; done) | (simp; omega))), (look_slice rfl (by first | rfl | (simp; done) | (simp; omega))), (look_slice rfl (by first | rfl | (simp; done) | (simp; omega))), trivial⟩
    ·
      refine DW.sole rfl rfl rfl (OW.buildSlice (e := 3) (vs := []) (cs := []) rfl (fun _ => by kernel_rfl) fun b13 w43 N13 => ?_)
      refine ⟨fun _ => N13.ext, ModX.ext N13.ext, ?_⟩
      have G0_b13 : w2.heap.size ≤ b13 := by rw [N13.at_]; exact hz
      replace H := H.made' (k := 1) (t := 3) (enc := encN) (l := ([] : List Int)) N13 N13.blk (fun _ => rfl) rfl (by first | decide | omega | (simp; done) | (simp; omega))
      replace R0 := H.ext
      replace hz := Nat.le_trans hz (Ext.size N13.ext)
      refine DW.sole rfl rfl rfl (OW.buildSlice (e := 3) (vs := []) (cs := []) rfl (fun _ => by kernel_rfl) fun b14 w44 N14 => ?_)
      refine ⟨fun _ => N14.ext, ModX.ext N14.ext, ?_⟩
      have G0_b14 : w2.heap.size ≤ b14 := by rw [N14.at_]; exact hz
      replace H := H.made' (k := 1) (t := 3) (enc := encN) (l := ([] : List Int)) N14 N14.blk (fun _ => rfl) rfl (by first | decide | omega | (simp; done) | (simp; omega))
      replace R0 := H.ext
      replace hz := Nat.le_trans hz (Ext.size N14.ext)
      refine DW.sole rfl rfl rfl (OW.appendG (enc := encN) (l := ([] : List Int)) (xs := a0.supply) Ts22 (look_slice rfl (by first | rfl | (simp; done) | (simp; omega))) rfl (H.own 0 rfl) (h_a0_supply.ext R0) (fun _ => rfl) rfl rfl hg21 (by decide) fun A10 c10 w45 O16 M16 D5 => ?_)
      have G0_A10 := Fresh.nextZ (Fresh.at_ G0_b14) D5 hz
      refine ⟨fun h => absurd h (by decide), M16.modx (XB.newA (Fresh.at_ G0_b14)), ?_⟩
      replace H : Hp w w45 [.own A10 c10 3 1 (List.map encN ((([] : List Int) ++ a0.supply))), .own (some ⟨b13, 0, none⟩) ((([] : List Int)).length) 3 1 (List.map encN (([] : List Int))), .tab A9_0 c9_0 22 hs9_0 3 1 (encM encN r2), .blk b1 25 [.slice A_a0_supply a0.supply.length c_a0_supply, .slice A_a0_demand a0.demand.length c_a0_demand, .slice A_a0_cost a0.cost.length c_a0_cost]] := H.mod 0 rfl M16 O16 D5
      replace R0 := H.ext
      replace hz := Nat.le_trans hz M16.size
      refine DW.sole rfl rfl rfl (OW.appendG (enc := encN) (l := ([] : List Int)) (xs := a0.demand) Ts22 (look_slice rfl (by first | rfl | (simp; done) | (simp; omega))) rfl (H.own 1 rfl) (h_a0_demand.ext R0) (fun _ => rfl) rfl rfl hg22 (by decide) fun A11 c11 w46 O17 M17 D6 => ?_)
      have G0_A11 := Fresh.nextZ (Fresh.at_ G0_b13) D6 hz
      refine ⟨fun h => absurd h (by decide), M17.modx (XB.newA (Fresh.at_ G0_b13)), ?_⟩
      replace H : Hp w w46 [.own A10 c10 3 1 (List.map encN ((([] : List Int) ++ a0.supply))), .own A11 c11 3 1 (List.map encN ((([] : List Int) ++ a0.demand))), .tab A9_0 c9_0 22 hs9_0 3 1 (encM encN r2), .blk b1 25 [.slice A_a0_supply a0.supply.length c_a0_supply, .slice A_a0_demand a0.demand.length c_a0_demand, .slice A_a0_cost a0.cost.length c_a0_cost]] := H.mod 1 rfl M17 O17 D6
      replace R0 := H.ext
      replace hz := Nat.le_trans hz M17.size
      refine DW.thru rfl rfl rfl (fun _ EQ => RV.assign rfl) ?_
      refine DW.thru rfl rfl rfl (fun _ EQ => RV.assign rfl) ?_
      replace H := H.pick (L' := [.tab A9_0 c9_0 22 hs9_0 3 1 (encM encN r2), .own A10 c10 3 1 (List.map encN ((([] : List Int) ++ a0.supply))), .own A11 c11 3 1 (List.map encN ((([] : List Int) ++ a0.demand))), .blk b1 25 [.slice A_a0_supply a0.supply.length c_a0_supply, .slice A_a0_demand a0.demand.length c_a0_demand, .slice A_a0_cost a0.cost.length c_a0_cost]]) [2, 0, 1, 3] (by decide) rfl
      replace R0 := H.ext
      refine DW.nil (jK48118 _ _ ⟨_, ?_, ⟨((([] : List Int) ++ a0.supply)), ((([] : List Int) ++ a0.demand)), A10, c10, A11, c11, F, rfl, H⟩⟩)
      exact ⟨rfl, rfl, (look_slice rfl (by first | rfl | (simp; done) | (simp; omega))), (look_slice rfl (by first | rfl | (simp; done) | (simp; omega))), (look_slice rfl (by first | rfl | (simp; done) | (simp; omega))), trivial⟩
end Go.D7

set_option linter.unusedVariables false
set_option linter.unusedSimpArgs false
namespace Go.D7
open Go.Tb Go.Proofs Go.RowKit
theorem Tc24 : callable Try.prog 24 = true := by kernel_rfl
theorem Tc60 : callable Try.prog 60 = true := by kernel_rfl
set_option maxRecDepth 20000 in
set_option maxHeartbeats 1000000 in
theorem ref07_Least_ok {a0 : Trade} {A_a0_supply : Option Addr} {c_a0_supply : Nat} {A_a0_demand : Option Addr} {c_a0_demand : Nat} {A_a0_cost : Option Addr} {c_a0_cost : Nat} {w : World} {res : Int × Int} (h_a0_supply : Sl w A_a0_supply c_a0_supply 1 (a0.supply.map encN)) (h_a0_demand : Sl w A_a0_demand c_a0_demand 1 (a0.demand.map encN)) (h_a0_cost : Sl2 w A_a0_cost c_a0_cost 1 encN a0.cost) (F : ref07_Least a0 = some res) : Calls Try.prog 24 #[.agg #[.slice A_a0_supply a0.supply.length c_a0_supply, .slice A_a0_demand a0.demand.length c_a0_demand, .slice A_a0_cost a0.cost.length c_a0_cost]] w (Rt w (.tuple #[.int .i64 res.1, .int .i64 res.2])) := by
  refine calls_of_cw (args := [.agg #[.slice A_a0_supply a0.supply.length c_a0_supply, .slice A_a0_demand a0.demand.length c_a0_demand, .slice A_a0_cost a0.cost.length c_a0_cost]]) Try.func24 rfl rfl rfl rfl ?_
  have H := Hp.start w
  have R0 := H.ext
  unfold ref07_Least at F
  refine CW.seq fun K1 hK1 => ?_
  refine CW.region ?_
  refine LW.go rfl rfl (OW.box rfl fun b1 w1 N1 => ?_)
  replace H := H.new N1 N1.blk
  replace R0 := H.ext
  refine LW.pure rfl rfl (RV.assign rfl) ?_
  refine LW.pure rfl rfl (RV.assign rfl) ?_
  refine LW.nil (hK1 _ _ ?_)
  refine CW.seq fun K2 hK2 => ?_
  obtain ⟨r1, hr1, F⟩ := bnd_some F
  refine CW.region ?_
  refine LW.pure rfl rfl (RV.loadA [.slice A_a0_supply a0.supply.length c_a0_supply, .slice A_a0_demand a0.demand.length c_a0_demand, .slice A_a0_cost a0.cost.length c_a0_cost] Tk25 rfl (H.blk 0 rfl).cells rfl rfl) ?_
  refine LW.go rfl rfl (OW.call Tc39 rfl (ref07_Validate_ok (a0 := a0) (h_a0_supply.ext R0) (h_a0_demand.ext R0) (h_a0_cost.ext R0) hr1) ?_)
  rintro _ w2 ⟨rfl, E1⟩
  refine ⟨_, rfl, ?_⟩
  replace H := H.grow E1
  replace R0 := H.ext
  refine LW.pure rfl rfl (RV.assign rfl) ?_
  refine LW.nil (hK2 _ _ ?_)
  refine CW.seq fun K3 hK3 => ?_
  refine CW.seq fun K4 hK4 => ?_
  refine CW.region ?_
  refine LW.pure rfl rfl (RV.move rfl) ?_
  refine LW.pure rfl rfl (RV.nei rfl rfl) ?_
  refine LW.nil (hK4 _ _ ?_)
  by_cases hp1 : r1 = 0
  ·
    replace F := ite_y hp1 F
    have hq1 := dec_t hp1
    refine CW.condF rfl (not_f hq1) ?_
    refine CW.skip (hK3 _ _ ?_)
    refine CW.seq fun K5 hK5 => ?_
    obtain ⟨r2, hr2, F⟩ := bnd_some F
    obtain ⟨r3, hr3, F⟩ := bnd_some F
    refine CW.draw [] (fun _ => True) (.cons 0 1 (.cons 1 1 (.cons 2 0 (.cons 3 0 (.cons 4 1 (.cons 5 1 .nil)))))) mixed (by kernel_rfl) fun w3 E2 => ?_
    replace H := H.grow E2
    replace R0 := H.ext
    refine DW.fix rfl rfl rfl (fun _ EQ => RV.loadA [.slice A_a0_supply a0.supply.length c_a0_supply, .slice A_a0_demand a0.demand.length c_a0_demand, .slice A_a0_cost a0.cost.length c_a0_cost] Tk25 rfl ((H.grow EQ).blk 0 rfl).cells rfl rfl) ?_
    refine DW.fix rfl rfl rfl (fun _ EQ => RV.loadA [.slice A_a0_supply a0.supply.length c_a0_supply, .slice A_a0_demand a0.demand.length c_a0_demand, .slice A_a0_cost a0.cost.length c_a0_cost] Tk25 rfl ((H.grow EQ).blk 0 rfl).cells rfl rfl) ?_
    refine DW.sole rfl rfl rfl (OW.call Tc60 rfl (ref07_best_ok (a0 := a0) (h_a0_supply.ext R0) (h_a0_demand.ext R0) (h_a0_cost.ext R0) hr2) ?_)
    rintro _ w4 ⟨A8_0, c8_0, hs8_0, rfl, E3⟩
    refine ⟨_, rfl, fun _ => E3.ext, ModX.ext E3.ext, ?_⟩
    replace H : Hp w w4 [.tab A8_0 c8_0 22 hs8_0 3 1 (encM encN r2), .blk b1 25 [.slice A_a0_supply a0.supply.length c_a0_supply, .slice A_a0_demand a0.demand.length c_a0_demand, .slice A_a0_cost a0.cost.length c_a0_cost]] := H.append E3
    replace R0 := H.ext
    refine DW.sole rfl rfl rfl (OW.call Tc59 rfl (ref07_cost_ok (a0 := a0) (a1 := r2) (h_a0_supply.ext R0) (h_a0_demand.ext R0) (h_a0_cost.ext R0) (H.tab 0 rfl).sl2 hr3) ?_)
    rintro _ w5 ⟨rfl, E4⟩
    refine ⟨_, rfl, fun _ => E4, ModX.ext E4, ?_⟩
    replace H := H.grow E4
    replace R0 := H.ext
    refine DW.fix rfl rfl rfl (fun _ EQ => RV.assign rfl) ?_
    refine DW.fix rfl rfl rfl (fun _ EQ => RV.assign rfl) ?_
    refine DW.nil (hK5 _ _ ?_)
    refine CW.ret ?_
    obtain rfl := Option.some.inj F
    refine ⟨_, (ResOK.two rfl rfl), ?_⟩
    refine ⟨(by first | rfl | simp), R0⟩
  ·
    replace F := ite_n hp1 F
    have hq1 := dec_f hp1
    refine CW.condT rfl (not_t hq1) ?_
    refine CW.seq fun K6 hK6 => ?_
    refine CW.region ?_
    refine LW.pure rfl rfl (RV.move rfl) ?_
    refine LW.pure rfl rfl (RV.assign rfl) ?_
    refine LW.pure rfl rfl (RV.assign rfl) ?_
    refine LW.nil (hK6 _ _ ?_)
    refine CW.ret ?_
    obtain rfl := Option.some.inj F
    refine ⟨_, (ResOK.two rfl rfl), ?_⟩
    refine ⟨(by first | rfl | simp), R0⟩
end Go.D7
