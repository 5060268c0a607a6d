/- Lemmas and walks that the proof of this claim uses: D7m8, D7m9, D7m20, D7m21. -/
import Derived.Test.YtmmefcihahcchaaBulkTurns3
set_option linter.unusedVariables false
set_option linter.unusedSimpArgs false
namespace Go.D7
open Go.Tb Go.Proofs Go.RowKit
theorem Tc34 : callable Try.prog 34 = true := by kernel_rfl
theorem Tc39 : callable Try.prog 39 = true := by kernel_rfl
theorem Tc58 : callable Try.prog 58 = true := by kernel_rfl
theorem Tc76 : callable Try.prog 76 = true := by kernel_rfl
theorem Tc77 : callable Try.prog 77 = true := by kernel_rfl
theorem Tc78 : callable Try.prog 78 = true := by kernel_rfl
set_option maxRecDepth 20000 in
set_option maxHeartbeats 1000000 in
theorem bulk_Cost_ok {a0 : Trade} {a1 : List (List Int)} {A_a0_supply : Option Addr} {c_a0_supply : Nat} {A_a0_demand : Option Addr} {c_a0_demand : Nat} {A_a0_cost : Option Addr} {c_a0_cost : Nat} {A_a1 : Option Addr} {c_a1 : Nat} {w : World} {res : Int × Int} (h_a0_supply : Sl w A_a0_supply c_a0_supply 1 (a0.supply.map encN)) (h_a0_demand : Sl w A_a0_demand c_a0_demand 1 (a0.demand.map encN)) (h_a0_cost : Sl2 w A_a0_cost c_a0_cost 1 encN a0.cost) (h_a1 : Sl2 w A_a1 c_a1 1 encN a1) (F : bulk_Cost a0 a1 = some res) : Calls Try.prog 37 #[.agg #[.slice A_a0_supply a0.supply.length c_a0_supply, .slice A_a0_demand a0.demand.length c_a0_demand, .slice A_a0_cost a0.cost.length c_a0_cost], .slice A_a1 a1.length c_a1] w (Rt w (.tuple #[.int .i64 res.1, .int .i64 res.2])) := by
  refine calls_of_cw (args := [.agg #[.slice A_a0_supply a0.supply.length c_a0_supply, .slice A_a0_demand a0.demand.length c_a0_demand, .slice A_a0_cost a0.cost.length c_a0_cost], .slice A_a1 a1.length c_a1]) Try.func37 rfl rfl rfl rfl ?_
  have H := Hp.start w
  have R0 := H.ext
  unfold bulk_Cost at F
  refine CW.seq fun K1 hK1 => ?_
  refine CW.region ?_
  refine LW.go rfl rfl (OW.box rfl fun b1 w1 N1 => ?_)
  replace H := H.new N1 N1.blk
  replace R0 := H.ext
  refine LW.pure rfl rfl (RV.assign rfl) ?_
  refine LW.pure rfl rfl (RV.assign rfl) ?_
  refine LW.nil (hK1 _ _ ?_)
  refine CW.seq fun K2 hK2 => ?_
  refine CW.seq fun K3 hK3 => ?_
  obtain ⟨r1, hr1, F⟩ := bnd_some F
  refine CW.region ?_
  refine LW.pure rfl rfl (RV.loadA [.slice A_a0_supply a0.supply.length c_a0_supply, .slice A_a0_demand a0.demand.length c_a0_demand, .slice A_a0_cost a0.cost.length c_a0_cost] Tk25 rfl (H.blk 0 rfl).cells rfl rfl) ?_
  refine LW.pure rfl rfl (RV.move rfl) ?_
  refine LW.go rfl rfl (OW.call Tc34 rfl (bulk_CheckPlan_ok (a0 := a0) (a1 := a1) (h_a0_supply.ext R0) (h_a0_demand.ext R0) (h_a0_cost.ext R0) (h_a1.ext R0) hr1) ?_)
  rintro _ w2 ⟨rfl, E1⟩
  refine ⟨_, rfl, ?_⟩
  replace H := H.grow E1
  replace R0 := H.ext
  refine LW.pure rfl rfl (RV.assign rfl) ?_
  refine LW.nil (hK3 _ _ ?_)
  refine CW.seq fun K4 hK4 => ?_
  refine CW.region ?_
  refine LW.pure rfl rfl (RV.move rfl) ?_
  refine LW.pure rfl rfl (RV.nei rfl rfl) ?_
  refine LW.nil (hK4 _ _ ?_)
  by_cases hp1 : r1 = 0
  ·
    replace F := ite_y hp1 F
    have hq1 := dec_t hp1
    refine CW.condF rfl (not_f hq1) ?_
    refine CW.skip (hK2 _ _ ?_)
    refine CW.seq fun K5 hK5 => ?_
    obtain ⟨r2, hr2, F⟩ := bnd_some F
    refine CW.region ?_
    refine LW.pure rfl rfl (RV.loadA [.slice A_a0_supply a0.supply.length c_a0_supply, .slice A_a0_demand a0.demand.length c_a0_demand, .slice A_a0_cost a0.cost.length c_a0_cost] Tk25 rfl (H.blk 0 rfl).cells rfl rfl) ?_
    refine LW.pure rfl rfl (RV.move rfl) ?_
    refine LW.go rfl rfl (OW.call Tc56 rfl (bulk_cost_ok (a0 := a0) (a1 := a1) (h_a0_supply.ext R0) (h_a0_demand.ext R0) (h_a0_cost.ext R0) (h_a1.ext R0) hr2) ?_)
    rintro _ w3 ⟨rfl, E2⟩
    refine ⟨_, rfl, ?_⟩
    replace H := H.grow E2
    replace R0 := H.ext
    refine LW.pure rfl rfl (RV.assign rfl) ?_
    refine LW.pure rfl rfl (RV.assign rfl) ?_
    refine LW.nil (hK5 _ _ ?_)
    refine CW.ret ?_
    obtain rfl := Option.some.inj F
    refine ⟨_, (ResOK.two rfl rfl), ?_⟩
    refine ⟨(by first | rfl | simp), R0⟩
  ·
    replace F := ite_n hp1 F
    have hq1 := dec_f hp1
    refine CW.condT rfl (not_t hq1) ?_
    refine CW.seq fun K6 hK6 => ?_
    refine CW.region ?_
    refine LW.pure rfl rfl (RV.move rfl) ?_
    refine LW.pure rfl rfl (RV.assign rfl) ?_
    refine LW.pure rfl rfl (RV.assign rfl) ?_
    refine LW.nil (hK6 _ _ ?_)
    refine CW.ret ?_
    obtain rfl := Option.some.inj F
    refine ⟨_, (ResOK.two rfl rfl), ?_⟩
    refine ⟨(by first | rfl | simp), R0⟩
set_option maxRecDepth 20000 in
set_option maxHeartbeats 1000000 in
theorem ref07_within_ok {a0 : Int} {a1 : Int} {a2 : Int} {w : World} {res : Bool} (F : ref07_within a0 a1 a2 = some res) : Calls Try.prog 58 #[.int .i64 a0, .int .i64 a1, .int .i64 a2] w (Rt w (.bool res)) := by
  refine calls_of_cw (args := [.int .i64 a0, .int .i64 a1, .int .i64 a2]) Try.func58 rfl rfl rfl rfl ?_
  have H := Hp.start w
  have R0 := H.ext
  unfold ref07_within at F
  refine CW.seq fun K1 hK1 => ?_
  refine CW.region ?_
  refine LW.pure rfl rfl (RV.assign rfl) ?_
  refine LW.nil (hK1 _ _ ?_)
  refine CW.seq fun K2 hK2 => ?_
  by_cases hp1 : a1 ≤ a0
  ·
    replace F := ite_y hp1 F
    have hq1 := dec_t hp1
    refine CW.region ?_
    refine LW.pure rfl rfl (RV.move rfl) ?_
    refine LW.pure rfl rfl (RV.move rfl) ?_
    refine LW.pure rfl rfl (RV.geq rfl rfl) ?_
    refine LW.pure rfl rfl (RV.move rfl) ?_
    refine LW.pureYB rfl rfl rfl rfl hq1 (RV.move rfl) ?_
    refine LW.pureYB rfl rfl rfl rfl hq1 (RV.move rfl) ?_
    refine LW.pureYB rfl rfl rfl rfl hq1 (RV.leq rfl rfl) ?_
    refine LW.pure rfl rfl (RV.pickTB rfl hq1 rfl) ?_
    refine LW.pure rfl rfl (RV.assign rfl) ?_
    refine LW.nil (hK2 _ _ ?_)
    refine CW.ret ?_
    obtain rfl := Option.some.inj F
    refine ⟨_, (ResOK.one rfl), ?_⟩
    refine ⟨(by first | rfl | simp), R0⟩
  ·
    replace F := ite_n hp1 F
    have hq1 := dec_f hp1
    refine CW.region ?_
    refine LW.pure rfl rfl (RV.move rfl) ?_
    refine LW.pure rfl rfl (RV.move rfl) ?_
    refine LW.pure rfl rfl (RV.geq rfl rfl) ?_
    refine LW.pure rfl rfl (RV.move rfl) ?_
    refine LW.noB rfl rfl rfl rfl (ne_beq (v := false) hq1 rfl) ?_
    refine LW.noB rfl rfl rfl rfl (ne_beq (v := false) hq1 rfl) ?_
    refine LW.noB rfl rfl rfl rfl (ne_beq (v := false) hq1 rfl) ?_
    refine LW.pure rfl rfl (RV.pickFB rfl hq1 rfl) ?_
    refine LW.pure rfl rfl (RV.assign rfl) ?_
    refine LW.nil (hK2 _ _ ?_)
    refine CW.ret ?_
    obtain rfl := Option.some.inj F
    refine ⟨_, (ResOK.one rfl), ?_⟩
    refine ⟨(by first | rfl | simp), R0⟩
set_option maxRecDepth 20000 in
set_option maxHeartbeats 1000000 in
theorem ref07_amounts_ok {a0 : List Int} {A_a0 : Option Addr} {c_a0 : Nat} {w : World} {res : Bool} (h_a0 : Sl w A_a0 c_a0 1 (a0.map encN)) (F : ref07_amounts a0 = some res) : Calls Try.prog 76 #[.slice A_a0 a0.length c_a0] w (Rt w (.bool res)) := by
  refine calls_of_cw (args := [.slice A_a0 a0.length c_a0]) Try.func76 rfl rfl rfl rfl ?_
  have H := Hp.start w
  have R0 := H.ext
  unfold ref07_amounts at F
  refine CW.seq fun K1 hK1 => ?_
  refine CW.region ?_
  refine LW.pure rfl rfl (RV.assign rfl) ?_
  refine LW.nil (hK1 _ _ ?_)
  refine CW.seqJ (fun ρ wl1 => (ref07_amounts_k1 a0 = some res ∧ ρ = [(0, .slice A_a0 a0.length c_a0), (2, .bool false)] ∧ Hp w wl1 [])) ?_ ?_
  ·
    rintro _ wl1 ⟨F, rfl, H⟩
    have R0 := H.ext
    unfold ref07_amounts_k1 at F
    refine CW.seq fun K2 hK2 => ?_
    obtain ⟨r1, hr1, F⟩ := bnd_some F
    refine CW.region ?_
    refine LW.pure rfl rfl (RV.move rfl) ?_
    refine LW.pure rfl rfl (RV.len Ts22 rfl) ?_
    refine LW.go rfl rfl (OW.call Tc58 rfl (ref07_within_ok (a0 := (a0.length : Int)) (a1 := (1 : Int)) (a2 := (4 : Int)) hr1) ?_)
    rintro _ w1 ⟨rfl, E1⟩
    refine ⟨_, rfl, ?_⟩
    replace H := H.grow E1
    replace R0 := H.ext
    refine LW.pure rfl rfl (RV.assign rfl) ?_
    refine LW.nil (hK2 _ _ ?_)
    refine CW.ret ?_
    obtain rfl := Option.some.inj F
    refine ⟨_, (ResOK.one rfl), ?_⟩
    refine ⟨(by first | rfl | simp), R0⟩
  ·
    intro K3 hK3 jK54
    refine CW.seq fun K4 hK4 => ?_
    refine CW.region ?_
    refine LW.pure rfl rfl (RV.assign rfl) ?_
    refine LW.nil (hK4 _ _ ?_)
    refine CW.block ?_
    refine CW.loop (fun meas ρ wl2 => ∃ (t3_1 : Int), ref07_amounts_L1 a0 meas t3_1 = some res ∧ ρ = [(0, .slice A_a0 a0.length c_a0), (2, .bool false), (3, .int .i64 t3_1)] ∧ Hp w wl2 []) FU ⟨_, ?_, ((0 : Int)), F, rfl, H⟩ ?_
    · exact ⟨rfl, rfl, rfl, trivial⟩
    rintro mk1 _ wl2 ⟨t3_1, F, rfl, H⟩
    have R0 := H.ext
    replace F := ref07_amounts_L1_s F
    obtain ⟨mk1, rfl, F⟩ := F
    generalize hrec1 : ref07_amounts_L1 a0 mk1 = rec1 at F
    unfold ref07_amounts_B1 at F
    refine CW.seq fun K5 hK5 => ?_
    refine CW.seq fun K6 hK6 => ?_
    refine CW.region ?_
    refine LW.pure rfl rfl (RV.move rfl) ?_
    refine LW.pure rfl rfl (RV.move rfl) ?_
    refine LW.pure rfl rfl (RV.len Ts22 rfl) ?_
    refine LW.pure rfl rfl (RV.lss rfl rfl) ?_
    refine LW.nil (hK6 _ _ ?_)
    by_cases hp1 : t3_1 < ((a0.length : Int))
    ·
      replace F := ite_y hp1 F
      have hq1 := dec_t hp1
      refine CW.condT rfl hq1 ?_
      refine CW.skip (hK5 _ _ ?_)
      refine CW.seq fun K7 hK7 => ?_
      refine CW.block ?_
      refine CW.seq fun K8 hK8 => ?_
      obtain ⟨x1, hbx1, hx1, F⟩ := ix_some F
      obtain ⟨r2, hr2, F⟩ := bnd_some F
      refine CW.region ?_
      refine LW.pure rfl rfl (RV.move rfl) ?_
      refine LW.pure rfl rfl (RV.move rfl) ?_
      refine LW.pure rfl rfl (RV.indexAddr Ts22 rfl rfl hbx1 (h_a0.addr_ hx1)) ?_
      refine LW.pure rfl rfl (RV.load1 Tk3 rfl ((h_a0.at_ hx1).ext R0) rfl) ?_
      refine LW.go rfl rfl (OW.call Tc58 rfl (ref07_within_ok (a0 := x1) (a1 := (0 : Int)) (a2 := (30 : Int)) hr2) ?_)
      rintro _ w2 ⟨rfl, E2⟩
      refine ⟨_, rfl, ?_⟩
      replace H := H.grow E2
      replace R0 := H.ext
      refine LW.pure rfl rfl (RV.not rfl) ?_
      refine LW.nil (hK8 _ _ ?_)
      by_cases hp2 : r2 = true
      ·
        replace F := ite_y hp2 F
        have hq2 : r2 = true := hp2
        refine CW.condF rfl (not_f hq2) ?_
        refine CW.skip (hK7 _ _ ?_)
        obtain ⟨hg1, F⟩ := gd_some F
        refine CW.region ?_
        refine LW.pure rfl rfl (RV.move rfl) ?_
        refine LW.pure rfl rfl (RV.add rfl rfl hg1) ?_
        refine LW.pure rfl rfl (RV.assign rfl) ?_
        refine LW.nil ?_
        subst hrec1
        refine ⟨mk1, Nat.lt_succ_self _, _, ?_, (t3_1 + 1), F, rfl, H⟩
        exact ⟨rfl, rfl, rfl, trivial⟩
      ·
        replace F := ite_n hp2 F
        have hq2 : r2 = false := raw_f hp2
        refine CW.condT rfl (not_t hq2) ?_
        refine CW.seq fun K9 hK9 => ?_
        refine CW.region ?_
        refine LW.pure rfl rfl (RV.assign rfl) ?_
        refine LW.nil (hK9 _ _ ?_)
        refine CW.ret ?_
        obtain rfl := Option.some.inj F
        refine ⟨_, (ResOK.one rfl), ?_⟩
        refine ⟨(by first | rfl | simp), R0⟩
    ·
      replace F := ite_n hp1 F
      have hq1 := dec_f hp1
      refine CW.condF rfl hq1 ?_
      refine CW.exit (jK54 _ _ ⟨_, ?_, ⟨F, rfl, H⟩⟩)
      exact ⟨rfl, rfl, trivial⟩
set_option maxRecDepth 20000 in
set_option maxHeartbeats 1000000 in
theorem ref07_sum_ok {a0 : List Int} {A_a0 : Option Addr} {c_a0 : Nat} {w : World} {res : Int} (h_a0 : Sl w A_a0 c_a0 1 (a0.map encN)) (F : ref07_sum a0 = some res) : Calls Try.prog 77 #[.slice A_a0 a0.length c_a0] w (Rt w (.int .i64 res)) := by
  refine calls_of_cw (args := [.slice A_a0 a0.length c_a0]) Try.func77 rfl rfl rfl rfl ?_
  have H := Hp.start w
  have R0 := H.ext
  unfold ref07_sum at F
  refine CW.seq fun K1 hK1 => ?_
  refine CW.region ?_
  refine LW.pure rfl rfl (RV.assign rfl) ?_
  refine LW.nil (hK1 _ _ ?_)
  refine CW.seq fun K2 hK2 => ?_
  refine CW.region ?_
  refine LW.pure rfl rfl (RV.assign rfl) ?_
  refine LW.nil (hK2 _ _ ?_)
  refine CW.seqJ (fun ρ wl1 => (∃ (t3_1 : Int), ref07_sum_k1 t3_1 = some res ∧ ρ = [(2, .int .i64 0), (3, .int .i64 t3_1)] ∧ Hp w wl1 [])) ?_ ?_
  ·
    rintro _ wl1 ⟨t3_1, F, rfl, H⟩
    have R0 := H.ext
    unfold ref07_sum_k1 at F
    refine CW.seq fun K3 hK3 => ?_
    refine CW.region ?_
    refine LW.pure rfl rfl (RV.move rfl) ?_
    refine LW.pure rfl rfl (RV.assign rfl) ?_
    refine LW.nil (hK3 _ _ ?_)
    refine CW.ret ?_
    obtain rfl := Option.some.inj F
    refine ⟨_, (ResOK.one rfl), ?_⟩
    refine ⟨(by first | rfl | simp), R0⟩
  ·
    intro K4 hK4 jK38
    refine CW.seq fun K5 hK5 => ?_
    refine CW.region ?_
    refine LW.pure rfl rfl (RV.assign rfl) ?_
    refine LW.nil (hK5 _ _ ?_)
    refine CW.block ?_
    refine CW.loop (fun meas ρ wl2 => ∃ (t3_2 : Int) (t4_1 : Int), ref07_sum_L1 a0 meas t3_2 t4_1 = some res ∧ ρ = [(0, .slice A_a0 a0.length c_a0), (2, .int .i64 0), (3, .int .i64 t3_2), (4, .int .i64 t4_1)] ∧ Hp w wl2 []) FU ⟨_, ?_, ((0 : Int)), ((0 : Int)), F, rfl, H⟩ ?_
    · exact ⟨rfl, rfl, rfl, rfl, trivial⟩
    rintro mk1 _ wl2 ⟨t3_2, t4_1, F, rfl, H⟩
    have R0 := H.ext
    replace F := ref07_sum_L1_s F
    obtain ⟨mk1, rfl, F⟩ := F
    generalize hrec1 : ref07_sum_L1 a0 mk1 = rec1 at F
    unfold ref07_sum_B1 at F
    refine CW.seq fun K6 hK6 => ?_
    refine CW.seq fun K7 hK7 => ?_
    refine CW.region ?_
    refine LW.pure rfl rfl (RV.move rfl) ?_
    refine LW.pure rfl rfl (RV.move rfl) ?_
    refine LW.pure rfl rfl (RV.len Ts22 rfl) ?_
    refine LW.pure rfl rfl (RV.lss rfl rfl) ?_
    refine LW.nil (hK7 _ _ ?_)
    by_cases hp1 : t4_1 < ((a0.length : Int))
    ·
      replace F := ite_y hp1 F
      have hq1 := dec_t hp1
      refine CW.condT rfl hq1 ?_
      refine CW.skip (hK6 _ _ ?_)
      refine CW.seq fun K8 hK8 => ?_
      refine CW.block ?_
      obtain ⟨x1, hbx1, hx1, F⟩ := ix_some F
      obtain ⟨hg1, F⟩ := gd_some F
      refine CW.region ?_
      refine LW.pure rfl rfl (RV.move rfl) ?_
      refine LW.pure rfl rfl (RV.move rfl) ?_
      refine LW.pure rfl rfl (RV.move rfl) ?_
      refine LW.pure rfl rfl (RV.indexAddr Ts22 rfl rfl hbx1 (h_a0.addr_ hx1)) ?_
      refine LW.pure rfl rfl (RV.load1 Tk3 rfl ((h_a0.at_ hx1).ext R0) rfl) ?_
      refine LW.pure rfl rfl (RV.add rfl rfl hg1) ?_
      refine LW.pure rfl rfl (RV.assign rfl) ?_
      refine LW.nil (hK8 _ _ ?_)
      obtain ⟨hg2, F⟩ := gd_some F
      refine CW.region ?_
      refine LW.pure rfl rfl (RV.move rfl) ?_
      refine LW.pure rfl rfl (RV.add rfl rfl hg2) ?_
      refine LW.pure rfl rfl (RV.assign rfl) ?_
      refine LW.nil ?_
      subst hrec1
      refine ⟨mk1, Nat.lt_succ_self _, _, ?_, (t3_2 + x1), (t4_1 + 1), F, rfl, H⟩
      exact ⟨rfl, rfl, rfl, rfl, trivial⟩
    ·
      replace F := ite_n hp1 F
      have hq1 := dec_f hp1
      refine CW.condF rfl hq1 ?_
      refine CW.exit (jK38 _ _ ⟨_, ?_, ⟨t3_2, F, rfl, H⟩⟩)
      exact ⟨rfl, rfl, trivial⟩
set_option maxRecDepth 20000 in
set_option maxHeartbeats 1000000 in
theorem ref07_table_ok {a0 : Trade} {a1 : List (List Int)} {a2 : Int} {A_a0_supply : Option Addr} {c_a0_supply : Nat} {A_a0_demand : Option Addr} {c_a0_demand : Nat} {A_a0_cost : Option Addr} {c_a0_cost : Nat} {A_a1 : Option Addr} {c_a1 : Nat} {w : World} {res : Bool} (h_a0_supply : Sl w A_a0_supply c_a0_supply 1 (a0.supply.map encN)) (h_a0_demand : Sl w A_a0_demand c_a0_demand 1 (a0.demand.map encN)) (h_a0_cost : Sl2 w A_a0_cost c_a0_cost 1 encN a0.cost) (h_a1 : Sl2 w A_a1 c_a1 1 encN a1) (F : ref07_table a0 a1 a2 = some res) : Calls Try.prog 78 #[.agg #[.slice A_a0_supply a0.supply.length c_a0_supply, .slice A_a0_demand a0.demand.length c_a0_demand, .slice A_a0_cost a0.cost.length c_a0_cost], .slice A_a1 a1.length c_a1, .int .i64 a2] w (Rt w (.bool res)) := by
  refine calls_of_cw (args := [.agg #[.slice A_a0_supply a0.supply.length c_a0_supply, .slice A_a0_demand a0.demand.length c_a0_demand, .slice A_a0_cost a0.cost.length c_a0_cost], .slice A_a1 a1.length c_a1, .int .i64 a2]) Try.func78 rfl rfl rfl rfl ?_
  have H := Hp.start w
  have R0 := H.ext
  unfold ref07_table at F
  refine CW.seq fun K1 hK1 => ?_
  refine CW.region ?_
  refine LW.go rfl rfl (OW.box rfl fun b1 w1 N1 => ?_)
  replace H := H.new N1 N1.blk
  replace R0 := H.ext
  refine LW.pure rfl rfl (RV.assign rfl) ?_
  refine LW.nil (hK1 _ _ ?_)
  refine CW.seq fun K2 hK2 => ?_
  refine CW.seq fun K3 hK3 => ?_
  refine CW.region ?_
  refine LW.pure rfl rfl (RV.move rfl) ?_
  refine LW.pure rfl rfl (RV.len Ts23 rfl) ?_
  refine LW.pure rfl rfl (RV.fieldAddr Tf25_0 rfl) ?_
  refine LW.pure rfl rfl (RV.load1 Tk22 rfl ((H.blk 0 rfl).cells.off 0) rfl) ?_
  refine LW.pure rfl rfl (RV.len Ts22 rfl) ?_
  refine LW.pure rfl rfl (RV.nei rfl rfl) ?_
  refine LW.nil (hK3 _ _ ?_)
  by_cases hp1 : ((a1.length : Int)) = ((a0.supply.length : Int))
  ·
    replace F := ite_y hp1 F
    have hq1 := dec_t hp1
    refine CW.condF rfl (not_f hq1) ?_
    refine CW.skip (hK2 _ _ ?_)
    refine CW.seqJ (fun ρ wl1 => (ref07_table_k1 = some res ∧ ρ = [(6, .bool false)] ∧ Hp w wl1 [])) ?_ ?_
    ·
      rintro _ wl1 ⟨F, rfl, H⟩
      have R0 := H.ext
      unfold ref07_table_k1 at F
      refine CW.seq fun K4 hK4 => ?_
      refine CW.region ?_
      refine LW.pure rfl rfl (RV.assign rfl) ?_
      refine LW.nil (hK4 _ _ ?_)
      refine CW.ret ?_
      obtain rfl := Option.some.inj F
      refine ⟨_, (ResOK.one rfl), ?_⟩
      refine ⟨(by first | rfl | simp), R0⟩
    ·
      intro K5 hK5 jK383
      refine CW.seq fun K6 hK6 => ?_
      refine CW.region ?_
      refine LW.pure rfl rfl (RV.assign rfl) ?_
      refine LW.nil (hK6 _ _ ?_)
      refine CW.block ?_
      refine CW.loop (fun meas ρ wl2 => ∃ (t7_1 : Int), ref07_table_L2 a0 a1 a2 meas t7_1 = some res ∧ ρ = [(1, .slice A_a1 a1.length c_a1), (2, .int .i64 a2), (3, .pointer (some (⟨b1, 0, none⟩))), (6, .bool false), (7, .int .i64 t7_1)] ∧ Hp w wl2 [.blk b1 25 [.slice A_a0_supply a0.supply.length c_a0_supply, .slice A_a0_demand a0.demand.length c_a0_demand, .slice A_a0_cost a0.cost.length c_a0_cost]]) FU ⟨_, ?_, ((0 : Int)), F, rfl, H⟩ ?_
      · exact ⟨rfl, rfl, rfl, rfl, rfl, trivial⟩
      rintro mk1 _ wl2 ⟨t7_1, F, rfl, H⟩
      have R0 := H.ext
      replace F := ref07_table_L2_s F
      obtain ⟨mk1, rfl, F⟩ := F
      generalize hrec1 : ref07_table_L2 a0 a1 a2 mk1 = rec1 at F
      unfold ref07_table_B2 at F
      refine CW.seq fun K7 hK7 => ?_
      refine CW.seq fun K8 hK8 => ?_
      refine CW.region ?_
      refine LW.pure rfl rfl (RV.move rfl) ?_
      refine LW.pure rfl rfl (RV.move rfl) ?_
      refine LW.pure rfl rfl (RV.len Ts23 rfl) ?_
      refine LW.pure rfl rfl (RV.lss rfl rfl) ?_
      refine LW.nil (hK8 _ _ ?_)
      by_cases hp2 : t7_1 < ((a1.length : Int))
      ·
        replace F := ite_y hp2 F
        have hq2 := dec_t hp2
        refine CW.condT rfl hq2 ?_
        refine CW.skip (hK7 _ _ ?_)
        refine CW.seqJ (fun ρ wl3 => (ref07_table_k2 t7_1 rec1 = some res ∧ ρ = [(1, .slice A_a1 a1.length c_a1), (2, .int .i64 a2), (3, .pointer (some (⟨b1, 0, none⟩))), (6, .bool false), (7, .int .i64 t7_1)] ∧ Hp w wl3 [.blk b1 25 [.slice A_a0_supply a0.supply.length c_a0_supply, .slice A_a0_demand a0.demand.length c_a0_demand, .slice A_a0_cost a0.cost.length c_a0_cost]])) ?_ ?_
        ·
          rintro _ wl3 ⟨F, rfl, H⟩
          have R0 := H.ext
          unfold ref07_table_k2 at F
          obtain ⟨hg1, F⟩ := gd_some F
          refine CW.region ?_
          refine LW.pure rfl rfl (RV.move rfl) ?_
          refine LW.pure rfl rfl (RV.add rfl rfl hg1) ?_
          refine LW.pure rfl rfl (RV.assign rfl) ?_
          refine LW.nil ?_
          subst hrec1
          refine ⟨mk1, Nat.lt_succ_self _, _, ?_, (t7_1 + 1), F, rfl, H⟩
          exact ⟨rfl, rfl, rfl, rfl, rfl, trivial⟩
        ·
          intro K9 hK9 jK488
          refine CW.block ?_
          refine CW.seq fun K10 hK10 => ?_
          refine CW.seq fun K11 hK11 => ?_
          obtain ⟨x4, hbx4, hx4, F⟩ := ix_some F
          refine CW.draw [] (fun _ => True) (.cons 0 1 (.cons 1 1 (.cons 2 1 (.cons 3 1 (.cons 4 1 (.cons 5 1 (.cons 6 1 (.cons 7 1 (.cons 8 1 .nil))))))))) mixed (by kernel_rfl) fun w2 E1 => ?_
          replace H := H.grow E1
          replace R0 := H.ext
          refine DW.fix rfl rfl rfl (fun _ EQ => RV.move rfl) ?_
          refine DW.fix rfl rfl rfl (fun _ EQ => RV.move rfl) ?_
          obtain ⟨A1, c1, hC1, hS1⟩ := h_a1.at_ hx4
          refine DW.fix rfl rfl rfl (fun _ EQ => RV.indexAddr Ts23 rfl rfl hbx4 (h_a1.addr hbx4)) ?_
          refine DW.fix rfl rfl rfl (fun _ EQ => RV.load1 Tk22 rfl (hC1.ext (R0.trans EQ)) rfl) ?_
          refine DW.fix rfl rfl rfl (fun _ EQ => RV.len Ts22 rfl) ?_
          refine DW.fix rfl rfl rfl (fun _ EQ => RV.fieldAddr Tf25_1 rfl) ?_
          refine DW.fix rfl rfl rfl (fun _ EQ => RV.load1 Tk22 rfl (((H.grow EQ).blk 0 rfl).cells.off 1) rfl) ?_
          refine DW.fix rfl rfl rfl (fun _ EQ => RV.len Ts22 rfl) ?_
          refine DW.fix rfl rfl rfl (fun _ EQ => RV.nei rfl rfl) ?_
          refine DW.nil (hK11 _ _ ?_)
          by_cases hp3 : ((x4.length : Int)) = ((a0.demand.length : Int))
          ·
            replace F := ite_y hp3 F
            have hq3 := dec_t hp3
            refine CW.condF rfl (not_f hq3) ?_
            refine CW.skip (hK10 _ _ ?_)
            refine CW.seq fun K12 hK12 => ?_
            refine CW.region ?_
            refine LW.pure rfl rfl (RV.assign rfl) ?_
            refine LW.nil (hK12 _ _ ?_)
            refine CW.block ?_
            refine CW.loop (fun meas ρ wl4 => ∃ (t8_1 : Int), ref07_table_L1 a1 a2 t7_1 rec1 meas t8_1 = some res ∧ ρ = [(1, .slice A_a1 a1.length c_a1), (2, .int .i64 a2), (3, .pointer (some (⟨b1, 0, none⟩))), (6, .bool false), (7, .int .i64 t7_1), (8, .int .i64 t8_1)] ∧ Hp w wl4 [.blk b1 25 [.slice A_a0_supply a0.supply.length c_a0_supply, .slice A_a0_demand a0.demand.length c_a0_demand, .slice A_a0_cost a0.cost.length c_a0_cost]]) FU ⟨_, ?_, ((0 : Int)), F, rfl, H⟩ ?_
            · exact ⟨rfl, rfl, rfl, rfl, rfl, rfl, trivial⟩
            rintro mk2 _ wl4 ⟨t8_1, F, rfl, H⟩
            have R0 := H.ext
            replace F := ref07_table_L1_s F
            obtain ⟨mk2, rfl, F⟩ := F
            generalize hrec2 : ref07_table_L1 a1 a2 t7_1 rec1 mk2 = rec2 at F
            unfold ref07_table_B1 at F
            refine CW.seq fun K13 hK13 => ?_
            refine CW.seq fun K14 hK14 => ?_
            obtain ⟨x1, hbx1, hx1, F⟩ := ix_some F
            refine CW.region ?_
            refine LW.pure rfl rfl (RV.move rfl) ?_
            refine LW.pure rfl rfl (RV.move rfl) ?_
            refine LW.pure rfl rfl (RV.move rfl) ?_
            obtain ⟨A2, c2, hC2, hS2⟩ := h_a1.at_ hx1
            refine LW.pure rfl rfl (RV.indexAddr Ts23 rfl rfl hbx1 (h_a1.addr hbx1)) ?_
            refine LW.pure rfl rfl (RV.load1 Tk22 rfl (hC2.ext R0) rfl) ?_
            refine LW.pure rfl rfl (RV.len Ts22 rfl) ?_
            refine LW.pure rfl rfl (RV.lss rfl rfl) ?_
            refine LW.nil (hK14 _ _ ?_)
            by_cases hp4 : t8_1 < ((x1.length : Int))
            ·
              replace F := ite_y hp4 F
              have hq4 := dec_t hp4
              refine CW.condT rfl hq4 ?_
              refine CW.skip (hK13 _ _ ?_)
              refine CW.seq fun K15 hK15 => ?_
              refine CW.block ?_
              refine CW.seq fun K16 hK16 => ?_
              obtain ⟨x2, hbx2, hx2, F⟩ := ix_some F
              obtain ⟨x3, hbx3, hx3, F⟩ := ix_some F
              obtain ⟨r1, hr1, F⟩ := bnd_some F
              refine CW.region ?_
              refine LW.pure rfl rfl (RV.move rfl) ?_
              refine LW.pure rfl rfl (RV.move rfl) ?_
              obtain ⟨A3, c3, hC3, hS3⟩ := h_a1.at_ hx2
              refine LW.pure rfl rfl (RV.indexAddr Ts23 rfl rfl hbx2 (h_a1.addr hbx2)) ?_
              refine LW.pure rfl rfl (RV.load1 Tk22 rfl (hC3.ext R0) rfl) ?_
              refine LW.pure rfl rfl (RV.move rfl) ?_
              refine LW.pure rfl rfl (RV.indexAddr Ts22 rfl rfl hbx3 (hS3.addr_ hx3)) ?_
              refine LW.pure rfl rfl (RV.load1 Tk3 rfl ((hS3.at_ hx3).ext R0) rfl) ?_
              refine LW.pure rfl rfl (RV.move rfl) ?_
              refine LW.go rfl rfl (OW.call Tc58 rfl (ref07_within_ok (a0 := x3) (a1 := (0 : Int)) (a2 := a2) hr1) ?_)
              rintro _ w3 ⟨rfl, E2⟩
              refine ⟨_, rfl, ?_⟩
              replace H := H.grow E2
              replace R0 := H.ext
              refine LW.pure rfl rfl (RV.not rfl) ?_
              refine LW.nil (hK16 _ _ ?_)
              by_cases hp5 : r1 = true
              ·
                replace F := ite_y hp5 F
                have hq5 : r1 = true := hp5
                refine CW.condF rfl (not_f hq5) ?_
                refine CW.skip (hK15 _ _ ?_)
                obtain ⟨hg2, F⟩ := gd_some F
                refine CW.region ?_
                refine LW.pure rfl rfl (RV.move rfl) ?_
                refine LW.pure rfl rfl (RV.add rfl rfl hg2) ?_
                refine LW.pure rfl rfl (RV.assign rfl) ?_
                refine LW.nil ?_
                subst hrec2
                refine ⟨mk2, Nat.lt_succ_self _, _, ?_, (t8_1 + 1), F, rfl, H⟩
                exact ⟨rfl, rfl, rfl, rfl, rfl, rfl, trivial⟩
              ·
                replace F := ite_n hp5 F
                have hq5 : r1 = false := raw_f hp5
                refine CW.condT rfl (not_t hq5) ?_
                refine CW.seq fun K17 hK17 => ?_
                refine CW.region ?_
                refine LW.pure rfl rfl (RV.assign rfl) ?_
                refine LW.nil (hK17 _ _ ?_)
                refine CW.ret ?_
                obtain rfl := Option.some.inj F
                refine ⟨_, (ResOK.one rfl), ?_⟩
                refine ⟨(by first | rfl | simp), R0⟩
            ·
              replace F := ite_n hp4 F
              have hq4 := dec_f hp4
              refine CW.condF rfl hq4 ?_
              refine CW.exit (jK488 _ _ ⟨_, ?_, ⟨F, rfl, H⟩⟩)
              exact ⟨rfl, rfl, rfl, rfl, rfl, trivial⟩
          ·
            replace F := ite_n hp3 F
            have hq3 := dec_f hp3
            refine CW.condT rfl (not_t hq3) ?_
            refine CW.seq fun K18 hK18 => ?_
            refine CW.region ?_
            refine LW.pure rfl rfl (RV.assign rfl) ?_
            refine LW.nil (hK18 _ _ ?_)
            refine CW.ret ?_
            obtain rfl := Option.some.inj F
            refine ⟨_, (ResOK.one rfl), ?_⟩
            refine ⟨(by first | rfl | simp), R0⟩
      ·
        replace F := ite_n hp2 F
        have hq2 := dec_f hp2
        refine CW.condF rfl hq2 ?_
        replace H := H.pick (L' := []) [] (by decide) rfl
        replace R0 := H.ext
        refine CW.exit (jK383 _ _ ⟨_, ?_, ⟨F, rfl, H⟩⟩)
        exact ⟨rfl, trivial⟩
  ·
    replace F := ite_n hp1 F
    have hq1 := dec_f hp1
    refine CW.condT rfl (not_t hq1) ?_
    refine CW.seq fun K19 hK19 => ?_
    refine CW.region ?_
    refine LW.pure rfl rfl (RV.assign rfl) ?_
    refine LW.nil (hK19 _ _ ?_)
    refine CW.ret ?_
    obtain rfl := Option.some.inj F
    refine ⟨_, (ResOK.one rfl), ?_⟩
    refine ⟨(by first | rfl | simp), R0⟩
set_option maxRecDepth 20000 in
set_option maxHeartbeats 1000000 in
theorem ref07_Validate_ok {a0 : Trade} {A_a0_supply : Option Addr} {c_a0_supply : Nat} {A_a0_demand : Option Addr} {c_a0_demand : Nat} {A_a0_cost : Option Addr} {c_a0_cost : Nat} {w : World} {res : Int} (h_a0_supply : Sl w A_a0_supply c_a0_supply 1 (a0.supply.map encN)) (h_a0_demand : Sl w A_a0_demand c_a0_demand 1 (a0.demand.map encN)) (h_a0_cost : Sl2 w A_a0_cost c_a0_cost 1 encN a0.cost) (F : ref07_Validate a0 = some res) : Calls Try.prog 39 #[.agg #[.slice A_a0_supply a0.supply.length c_a0_supply, .slice A_a0_demand a0.demand.length c_a0_demand, .slice A_a0_cost a0.cost.length c_a0_cost]] w (Rt w (.int .i64 res)) := by
  refine calls_of_cw (args := [.agg #[.slice A_a0_supply a0.supply.length c_a0_supply, .slice A_a0_demand a0.demand.length c_a0_demand, .slice A_a0_cost a0.cost.length c_a0_cost]]) Try.func39 rfl rfl rfl rfl ?_
  have H := Hp.start w
  have R0 := H.ext
  unfold ref07_Validate at F
  refine CW.seq fun K1 hK1 => ?_
  refine CW.region ?_
  refine LW.go rfl rfl (OW.box rfl fun b1 w1 N1 => ?_)
  replace H := H.new N1 N1.blk
  replace R0 := H.ext
  refine LW.pure rfl rfl (RV.assign rfl) ?_
  refine LW.nil (hK1 _ _ ?_)
  refine CW.seq fun K2 hK2 => ?_
  refine CW.seqJ (fun ρ wl1 => (∃ (t28_1 : Bool), ref07_Validate_k1 t28_1 = some res ∧ ρ = [(2, .int .i64 0), (28, .bool t28_1)] ∧ Hp w wl1 [])) ?_ ?_
  ·
    rintro _ wl1 ⟨t28_1, F, rfl, H⟩
    have R0 := H.ext
    unfold ref07_Validate_k1 at F
    by_cases hp1 : t28_1 = true
    ·
      replace F := ite_y hp1 F
      have hq1 : t28_1 = true := hp1
      refine CW.condT rfl hq1 ?_
      refine CW.seq fun K3 hK3 => ?_
      refine CW.region ?_
      refine LW.pure rfl rfl (RV.assign rfl) ?_
      refine LW.nil (hK3 _ _ ?_)
      refine CW.ret ?_
      obtain rfl := Option.some.inj F
      refine ⟨_, (ResOK.one rfl), ?_⟩
      refine ⟨(by first | rfl | simp), R0⟩
    ·
      replace F := ite_n hp1 F
      have hq1 : t28_1 = false := raw_f hp1
      refine CW.condF rfl hq1 ?_
      refine CW.skip (hK2 _ _ ?_)
      refine CW.seq fun K4 hK4 => ?_
      refine CW.region ?_
      refine LW.pure rfl rfl (RV.assign rfl) ?_
      refine LW.nil (hK4 _ _ ?_)
      refine CW.ret ?_
      obtain rfl := Option.some.inj F
      refine ⟨_, (ResOK.one rfl), ?_⟩
      refine ⟨(by first | rfl | simp), R0⟩
  ·
    intro K5 hK5 jK10
    obtain ⟨r1, hr1, F⟩ := bnd_some F
    by_cases hp2 : r1 = true
    ·
      replace F := ite_y hp2 F
      have hq2 : r1 = true := hp2
      obtain ⟨r2, hr2, F⟩ := bnd_some F
      by_cases hp3 : r2 = true
      ·
        replace F := ite_y hp3 F
        have hq3 : r2 = true := hp3
        obtain ⟨r3, hr3, F⟩ := bnd_some F
        obtain ⟨r4, hr4, F⟩ := bnd_some F
        by_cases hp4 : r3 = r4
        ·
          replace F := ite_y hp4 F
          have hq4 := dec_t hp4
          obtain ⟨r5, hr5, F⟩ := bnd_some F
          refine CW.draw [] (fun _ => True) (.cons 0 1 (.cons 1 1 (.cons 2 0 (.cons 3 1 (.cons 4 1 (.cons 5 1 (.cons 6 1 (.cons 7 0 (.cons 8 1 (.cons 9 1 (.cons 10 1 (.cons 11 1 (.cons 12 1 (.cons 14 1 (.cons 15 1 (.cons 13 0 (.cons 16 0 (.cons 17 1 (.cons 18 1 (.cons 19 1 (.cons 20 1 (.cons 21 1 (.cons 22 1 (.cons 23 0 (.cons 24 1 (.cons 25 1 .nil)))))))))))))))))))))))))) mixed (by kernel_rfl) fun w2 E1 => ?_
          replace H := H.grow E1
          replace R0 := H.ext
          refine DW.fix rfl rfl rfl (fun _ EQ => RV.fieldAddr Tf25_0 rfl) ?_
          refine DW.fix rfl rfl rfl (fun _ EQ => RV.load1 Tk22 rfl (((H.grow EQ).blk 0 rfl).cells.off 0) rfl) ?_
          refine DW.sole rfl rfl rfl (OW.call Tc76 rfl (ref07_amounts_ok (a0 := a0.supply) (h_a0_supply.ext R0) hr1) ?_)
          rintro _ w3 ⟨rfl, E2⟩
          refine ⟨_, rfl, fun _ => E2, ModX.ext E2, ?_⟩
          replace H := H.grow E2
          replace R0 := H.ext
          refine DW.fix rfl rfl rfl (fun _ EQ => RV.not rfl) ?_
          refine DW.fix rfl rfl rfl (fun _ EQ => RV.move rfl) ?_
          refine DW.fixYB rfl rfl rfl rfl rfl (not_f hq2) (fun _ EQ => RV.fieldAddr Tf25_1 rfl) ?_
          refine DW.fixYB rfl rfl rfl rfl rfl (not_f hq2) (fun _ EQ => RV.load1 Tk22 rfl (((H.grow EQ).blk 0 rfl).cells.off 1) rfl) ?_
          refine DW.soleYB rfl rfl rfl rfl rfl (not_f hq2) (OW.call Tc76 rfl (ref07_amounts_ok (a0 := a0.demand) (h_a0_demand.ext R0) hr2) ?_)
          rintro _ w4 ⟨rfl, E3⟩
          refine ⟨_, rfl, fun _ => E3, ModX.ext E3, ?_⟩
          replace H := H.grow E3
          replace R0 := H.ext
          refine DW.fixYB rfl rfl rfl rfl rfl (not_f hq2) (fun _ EQ => RV.not rfl) ?_
          refine DW.fix rfl rfl rfl (fun _ EQ => RV.pickFB rfl (not_f hq2) rfl) ?_
          refine DW.fix rfl rfl rfl (fun _ EQ => RV.move rfl) ?_
          refine DW.fixYB rfl rfl rfl rfl rfl (not_f hq3) (fun _ EQ => RV.fieldAddr Tf25_0 rfl) ?_
          refine DW.fixYB rfl rfl rfl rfl rfl (not_f hq3) (fun _ EQ => RV.load1 Tk22 rfl (((H.grow EQ).blk 0 rfl).cells.off 0) rfl) ?_
          refine DW.fixYB rfl rfl rfl rfl rfl (not_f hq3) (fun _ EQ => RV.fieldAddr Tf25_1 rfl) ?_
          refine DW.fixYB rfl rfl rfl rfl rfl (not_f hq3) (fun _ EQ => RV.load1 Tk22 rfl (((H.grow EQ).blk 0 rfl).cells.off 1) rfl) ?_
          refine DW.soleYB rfl rfl rfl rfl rfl (not_f hq3) (OW.call Tc77 rfl (ref07_sum_ok (a0 := a0.supply) (h_a0_supply.ext R0) hr3) ?_)
          rintro _ w5 ⟨rfl, E4⟩
          refine ⟨_, rfl, fun _ => E4, ModX.ext E4, ?_⟩
          replace H := H.grow E4
          replace R0 := H.ext
          refine DW.soleYB rfl rfl rfl rfl rfl (not_f hq3) (OW.call Tc77 rfl (ref07_sum_ok (a0 := a0.demand) (h_a0_demand.ext R0) hr4) ?_)
          rintro _ w6 ⟨rfl, E5⟩
          refine ⟨_, rfl, fun _ => E5, ModX.ext E5, ?_⟩
          replace H := H.grow E5
          replace R0 := H.ext
          refine DW.fixYB rfl rfl rfl rfl rfl (not_f hq3) (fun _ EQ => RV.nei rfl rfl) ?_
          refine DW.fix rfl rfl rfl (fun _ EQ => RV.pickFB rfl (not_f hq3) rfl) ?_
          refine DW.fix rfl rfl rfl (fun _ EQ => RV.move rfl) ?_
          refine DW.fixYB rfl rfl rfl rfl rfl (not_f hq4) (fun _ EQ => RV.loadA [.slice A_a0_supply a0.supply.length c_a0_supply, .slice A_a0_demand a0.demand.length c_a0_demand, .slice A_a0_cost a0.cost.length c_a0_cost] Tk25 rfl ((H.grow EQ).blk 0 rfl).cells rfl rfl) ?_
          refine DW.fixYB rfl rfl rfl rfl rfl (not_f hq4) (fun _ EQ => RV.fieldAddr Tf25_2 rfl) ?_
          refine DW.fixYB rfl rfl rfl rfl rfl (not_f hq4) (fun _ EQ => RV.load1 Tk23 rfl (((H.grow EQ).blk 0 rfl).cells.off 2) rfl) ?_
          refine DW.soleYB rfl rfl rfl rfl rfl (not_f hq4) (OW.call Tc78 rfl (ref07_table_ok (a0 := a0) (a1 := a0.cost) (a2 := (99 : Int)) (h_a0_supply.ext R0) (h_a0_demand.ext R0) (h_a0_cost.ext R0) (h_a0_cost.ext R0) hr5) ?_)
          rintro _ w7 ⟨rfl, E6⟩
          refine ⟨_, rfl, fun _ => E6, ModX.ext E6, ?_⟩
          replace H := H.grow E6
          replace R0 := H.ext
          refine DW.fixYB rfl rfl rfl rfl rfl (not_f hq4) (fun _ EQ => RV.not rfl) ?_
          refine DW.fix rfl rfl rfl (fun _ EQ => RV.pickFB rfl (not_f hq4) rfl) ?_
          replace H := H.pick (L' := []) [] (by decide) rfl
          replace R0 := H.ext
          refine DW.nil (jK10 _ _ ⟨_, ?_, ⟨(!r5), F, rfl, H⟩⟩)
          exact ⟨rfl, rfl, trivial⟩
        ·
          replace F := ite_n hp4 F
          have hq4 := dec_f hp4
          refine CW.draw [] (fun _ => True) (.cons 0 1 (.cons 1 1 (.cons 2 0 (.cons 3 1 (.cons 4 1 (.cons 5 1 (.cons 6 1 (.cons 7 0 (.cons 8 1 (.cons 9 1 (.cons 10 1 (.cons 11 1 (.cons 12 1 (.cons 14 1 (.cons 15 1 (.cons 13 0 (.cons 16 0 (.cons 17 1 (.cons 18 1 (.cons 19 1 (.cons 20 1 (.cons 21 1 (.cons 22 1 (.cons 23 0 (.cons 24 1 (.cons 25 1 .nil)))))))))))))))))))))))))) mixed (by kernel_rfl) fun w8 E7 => ?_
          replace H := H.grow E7
          replace R0 := H.ext
          refine DW.fix rfl rfl rfl (fun _ EQ => RV.fieldAddr Tf25_0 rfl) ?_
          refine DW.fix rfl rfl rfl (fun _ EQ => RV.load1 Tk22 rfl (((H.grow EQ).blk 0 rfl).cells.off 0) rfl) ?_
          refine DW.sole rfl rfl rfl (OW.call Tc76 rfl (ref07_amounts_ok (a0 := a0.supply) (h_a0_supply.ext R0) hr1) ?_)
          rintro _ w9 ⟨rfl, E8⟩
          refine ⟨_, rfl, fun _ => E8, ModX.ext E8, ?_⟩
          replace H := H.grow E8
          replace R0 := H.ext
          refine DW.fix rfl rfl rfl (fun _ EQ => RV.not rfl) ?_
          refine DW.fix rfl rfl rfl (fun _ EQ => RV.move rfl) ?_
          refine DW.fixYB rfl rfl rfl rfl rfl (not_f hq2) (fun _ EQ => RV.fieldAddr Tf25_1 rfl) ?_
          refine DW.fixYB rfl rfl rfl rfl rfl (not_f hq2) (fun _ EQ => RV.load1 Tk22 rfl (((H.grow EQ).blk 0 rfl).cells.off 1) rfl) ?_
          refine DW.soleYB rfl rfl rfl rfl rfl (not_f hq2) (OW.call Tc76 rfl (ref07_amounts_ok (a0 := a0.demand) (h_a0_demand.ext R0) hr2) ?_)
          rintro _ w10 ⟨rfl, E9⟩
          refine ⟨_, rfl, fun _ => E9, ModX.ext E9, ?_⟩
          replace H := H.grow E9
          replace R0 := H.ext
          refine DW.fixYB rfl rfl rfl rfl rfl (not_f hq2) (fun _ EQ => RV.not rfl) ?_
          refine DW.fix rfl rfl rfl (fun _ EQ => RV.pickFB rfl (not_f hq2) rfl) ?_
          refine DW.fix rfl rfl rfl (fun _ EQ => RV.move rfl) ?_
          refine DW.fixYB rfl rfl rfl rfl rfl (not_f hq3) (fun _ EQ => RV.fieldAddr Tf25_0 rfl) ?_
          refine DW.fixYB rfl rfl rfl rfl rfl (not_f hq3) (fun _ EQ => RV.load1 Tk22 rfl (((H.grow EQ).blk 0 rfl).cells.off 0) rfl) ?_
          refine DW.fixYB rfl rfl rfl rfl rfl (not_f hq3) (fun _ EQ => RV.fieldAddr Tf25_1 rfl) ?_
          refine DW.fixYB rfl rfl rfl rfl rfl (not_f hq3) (fun _ EQ => RV.load1 Tk22 rfl (((H.grow EQ).blk 0 rfl).cells.off 1) rfl) ?_
          refine DW.soleYB rfl rfl rfl rfl rfl (not_f hq3) (OW.call Tc77 rfl (ref07_sum_ok (a0 := a0.supply) (h_a0_supply.ext R0) hr3) ?_)
          rintro _ w11 ⟨rfl, E10⟩
          refine ⟨_, rfl, fun _ => E10, ModX.ext E10, ?_⟩
          replace H := H.grow E10
          replace R0 := H.ext
          refine DW.soleYB rfl rfl rfl rfl rfl (not_f hq3) (OW.call Tc77 rfl (ref07_sum_ok (a0 := a0.demand) (h_a0_demand.ext R0) hr4) ?_)
          rintro _ w12 ⟨rfl, E11⟩
          refine ⟨_, rfl, fun _ => E11, ModX.ext E11, ?_⟩
          replace H := H.grow E11
          replace R0 := H.ext
          refine DW.fixYB rfl rfl rfl rfl rfl (not_f hq3) (fun _ EQ => RV.nei rfl rfl) ?_
          refine DW.fix rfl rfl rfl (fun _ EQ => RV.pickFB rfl (not_f hq3) rfl) ?_
          refine DW.fix rfl rfl rfl (fun _ EQ => RV.move rfl) ?_
          refine DW.fixNB rfl rfl rfl rfl rfl (ne_beq (v := true) (not_t hq4) rfl) ?_
          refine DW.fixNB rfl rfl rfl rfl rfl (ne_beq (v := true) (not_t hq4) rfl) ?_
          refine DW.fixNB rfl rfl rfl rfl rfl (ne_beq (v := true) (not_t hq4) rfl) ?_
          refine DW.soleNB rfl rfl rfl rfl rfl (ne_beq (v := true) (not_t hq4) rfl) ?_
          refine DW.fixNB rfl rfl rfl rfl rfl (ne_beq (v := true) (not_t hq4) rfl) ?_
          refine DW.fix rfl rfl rfl (fun _ EQ => RV.pickTB rfl (not_t hq4) rfl) ?_
          replace H := H.pick (L' := []) [] (by decide) rfl
          replace R0 := H.ext
          refine DW.nil (jK10 _ _ ⟨_, ?_, ⟨true, F, rfl, H⟩⟩)
          exact ⟨rfl, rfl, trivial⟩
      ·
        replace F := ite_n hp3 F
        have hq3 : r2 = false := raw_f hp3
        refine CW.draw [] (fun _ => True) (.cons 0 1 (.cons 1 1 (.cons 2 0 (.cons 3 1 (.cons 4 1 (.cons 5 1 (.cons 6 1 (.cons 7 0 (.cons 8 1 (.cons 9 1 (.cons 10 1 (.cons 11 1 (.cons 12 1 (.cons 14 1 (.cons 15 1 (.cons 13 0 (.cons 16 0 (.cons 17 1 (.cons 18 1 (.cons 19 1 (.cons 20 1 (.cons 21 1 (.cons 22 1 (.cons 23 0 (.cons 24 1 (.cons 25 1 .nil)))))))))))))))))))))))))) mixed (by kernel_rfl) fun w13 E12 => ?_
        replace H := H.grow E12
        replace R0 := H.ext
        refine DW.fix rfl rfl rfl (fun _ EQ => RV.fieldAddr Tf25_0 rfl) ?_
        refine DW.fix rfl rfl rfl (fun _ EQ => RV.load1 Tk22 rfl (((H.grow EQ).blk 0 rfl).cells.off 0) rfl) ?_
        refine DW.sole rfl rfl rfl (OW.call Tc76 rfl (ref07_amounts_ok (a0 := a0.supply) (h_a0_supply.ext R0) hr1) ?_)
        rintro _ w14 ⟨rfl, E13⟩
        refine ⟨_, rfl, fun _ => E13, ModX.ext E13, ?_⟩
        replace H := H.grow E13
        replace R0 := H.ext
        refine DW.fix rfl rfl rfl (fun _ EQ => RV.not rfl) ?_
        refine DW.fix rfl rfl rfl (fun _ EQ => RV.move rfl) ?_
        refine DW.fixYB rfl rfl rfl rfl rfl (not_f hq2) (fun _ EQ => RV.fieldAddr Tf25_1 rfl) ?_
        refine DW.fixYB rfl rfl rfl rfl rfl (not_f hq2) (fun _ EQ => RV.load1 Tk22 rfl (((H.grow EQ).blk 0 rfl).cells.off 1) rfl) ?_
        refine DW.soleYB rfl rfl rfl rfl rfl (not_f hq2) (OW.call Tc76 rfl (ref07_amounts_ok (a0 := a0.demand) (h_a0_demand.ext R0) hr2) ?_)
        rintro _ w15 ⟨rfl, E14⟩
        refine ⟨_, rfl, fun _ => E14, ModX.ext E14, ?_⟩
        replace H := H.grow E14
        replace R0 := H.ext
        refine DW.fixYB rfl rfl rfl rfl rfl (not_f hq2) (fun _ EQ => RV.not rfl) ?_
        refine DW.fix rfl rfl rfl (fun _ EQ => RV.pickFB rfl (not_f hq2) rfl) ?_
        refine DW.fix rfl rfl rfl (fun _ EQ => RV.move rfl) ?_
        refine DW.fixNB rfl rfl rfl rfl rfl (ne_beq (v := true) (not_t hq3) rfl) ?_
        refine DW.fixNB rfl rfl rfl rfl rfl (ne_beq (v := true) (not_t hq3) rfl) ?_
        refine DW.fixNB rfl rfl rfl rfl rfl (ne_beq (v := true) (not_t hq3) rfl) ?_
        refine DW.fixNB rfl rfl rfl rfl rfl (ne_beq (v := true) (not_t hq3) rfl) ?_
        refine DW.soleNB rfl rfl rfl rfl rfl (ne_beq (v := true) (not_t hq3) rfl) ?_
        refine DW.soleNB rfl rfl rfl rfl rfl (ne_beq (v := true) (not_t hq3) rfl) ?_
        refine DW.fixNB rfl rfl rfl rfl rfl (ne_beq (v := true) (not_t hq3) rfl) ?_
        refine DW.fix rfl rfl rfl (fun _ EQ => RV.pickTB rfl (not_t hq3) rfl) ?_
        refine DW.fix rfl rfl rfl (fun _ EQ => RV.move rfl) ?_
        refine DW.fixNB rfl rfl rfl rfl rfl (ne_beq (v := true) rfl rfl) ?_
        refine DW.fixNB rfl rfl rfl rfl rfl (ne_beq (v := true) rfl rfl) ?_
        refine DW.fixNB rfl rfl rfl rfl rfl (ne_beq (v := true) rfl rfl) ?_
        refine DW.soleNB rfl rfl rfl rfl rfl (ne_beq (v := true) rfl rfl) ?_
        refine DW.fixNB rfl rfl rfl rfl rfl (ne_beq (v := true) rfl rfl) ?_
        refine DW.fix rfl rfl rfl (fun _ EQ => RV.pickTB rfl rfl rfl) ?_
        replace H := H.pick (L' := []) [] (by decide) rfl
        replace R0 := H.ext
        refine DW.nil (jK10 _ _ ⟨_, ?_, ⟨true, F, rfl, H⟩⟩)
        exact ⟨rfl, rfl, trivial⟩
    ·
      replace F := ite_n hp2 F
      have hq2 : r1 = false := raw_f hp2
      refine CW.draw [] (fun _ => True) (.cons 0 1 (.cons 1 1 (.cons 2 0 (.cons 3 1 (.cons 4 1 (.cons 5 1 (.cons 6 1 (.cons 7 0 (.cons 8 1 (.cons 9 1 (.cons 10 1 (.cons 11 1 (.cons 12 1 (.cons 14 1 (.cons 15 1 (.cons 13 0 (.cons 16 0 (.cons 17 1 (.cons 18 1 (.cons 19 1 (.cons 20 1 (.cons 21 1 (.cons 22 1 (.cons 23 0 (.cons 24 1 (.cons 25 1 .nil)))))))))))))))))))))))))) mixed (by kernel_rfl) fun w16 E15 => ?_
      replace H := H.grow E15
      replace R0 := H.ext
      refine DW.fix rfl rfl rfl (fun _ EQ => RV.fieldAddr Tf25_0 rfl) ?_
      refine DW.fix rfl rfl rfl (fun _ EQ => RV.load1 Tk22 rfl (((H.grow EQ).blk 0 rfl).cells.off 0) rfl) ?_
      refine DW.sole rfl rfl rfl (OW.call Tc76 rfl (ref07_amounts_ok (a0 := a0.supply) (h_a0_supply.ext R0) hr1) ?_)
      rintro _ w17 ⟨rfl, E16⟩
      refine ⟨_, rfl, fun _ => E16, ModX.ext E16, ?_⟩
      replace H := H.grow E16
      replace R0 := H.ext
      refine DW.fix rfl rfl rfl (fun _ EQ => RV.not rfl) ?_
      refine DW.fix rfl rfl rfl (fun _ EQ => RV.move rfl) ?_
      refine DW.fixNB rfl rfl rfl rfl rfl (ne_beq (v := true) (not_t hq2) rfl) ?_
      refine DW.fixNB rfl rfl rfl rfl rfl (ne_beq (v := true) (not_t hq2) rfl) ?_
      refine DW.soleNB rfl rfl rfl rfl rfl (ne_beq (v := true) (not_t hq2) rfl) ?_
      refine DW.fixNB rfl rfl rfl rfl rfl (ne_beq (v := true) (not_t hq2) rfl) ?_
      refine DW.fix rfl rfl rfl (fun _ EQ => RV.pickTB rfl (not_t hq2) rfl) ?_
      refine DW.fix rfl rfl rfl (fun _ EQ => RV.move rfl) ?_
      refine DW.fixNB rfl rfl rfl rfl rfl (ne_beq (v := true) rfl rfl) ?_
      refine DW.fixNB rfl rfl rfl rfl rfl (ne_beq (v := true) rfl rfl) ?_
      refine DW.fixNB rfl rfl rfl rfl rfl (ne_beq (v := true) rfl rfl) ?_
      refine DW.fixNB rfl rfl rfl rfl rfl (ne_beq (v := true) rfl rfl) ?_
      refine DW.soleNB rfl rfl rfl rfl rfl (ne_beq (v := true) rfl rfl) ?_
      refine DW.soleNB rfl rfl rfl rfl rfl (ne_beq (v := true) rfl rfl) ?_
      refine DW.fixNB rfl rfl rfl rfl rfl (ne_beq (v := true) rfl rfl) ?_
      refine DW.fix rfl rfl rfl (fun _ EQ => RV.pickTB rfl rfl rfl) ?_
      refine DW.fix rfl rfl rfl (fun _ EQ => RV.move rfl) ?_
      refine DW.fixNB rfl rfl rfl rfl rfl (ne_beq (v := true) rfl rfl) ?_
      refine DW.fixNB rfl rfl rfl rfl rfl (ne_beq (v := true) rfl rfl) ?_
      refine DW.fixNB rfl rfl rfl rfl rfl (ne_beq (v := true) rfl rfl) ?_
      refine DW.soleNB rfl rfl rfl rfl rfl (ne_beq (v := true) rfl rfl) ?_
      refine DW.fixNB rfl rfl rfl rfl rfl (ne_beq (v := true) rfl rfl) ?_
      refine DW.fix rfl rfl rfl (fun _ EQ => RV.pickTB rfl rfl rfl) ?_
      replace H := H.pick (L' := []) [] (by decide) rfl
      replace R0 := H.ext
      refine DW.nil (jK10 _ _ ⟨_, ?_, ⟨true, F, rfl, H⟩⟩)
      exact ⟨rfl, rfl, trivial⟩
end Go.D7

set_option linter.unusedVariables false
set_option linter.unusedSimpArgs false
namespace Go.D7
open Go.Tb Go.Proofs Go.RowKit
theorem Tc17 : callable Try.prog 17 = true := by kernel_rfl
theorem Tc18 : callable Try.prog 18 = true := by kernel_rfl
theorem Tc37 : callable Try.prog 37 = true := by kernel_rfl
end Go.D7

set_option linter.unusedVariables false
set_option linter.unusedSimpArgs false
namespace Go.D7
open Go.Tb Go.Proofs Go.RowKit
theorem Tc30 : callable Try.prog 30 = true := by kernel_rfl
set_option maxRecDepth 20000 in
set_option maxHeartbeats 1000000 in
theorem ref07_Same_ok {a0 : Trade} {a1 : Trade} {A_a0_supply : Option Addr} {c_a0_supply : Nat} {A_a0_demand : Option Addr} {c_a0_demand : Nat} {A_a0_cost : Option Addr} {c_a0_cost : Nat} {A_a1_supply : Option Addr} {c_a1_supply : Nat} {A_a1_demand : Option Addr} {c_a1_demand : Nat} {A_a1_cost : Option Addr} {c_a1_cost : Nat} {w : World} {res : Bool} (h_a0_supply : Sl w A_a0_supply c_a0_supply 1 (a0.supply.map encN)) (h_a0_demand : Sl w A_a0_demand c_a0_demand 1 (a0.demand.map encN)) (h_a0_cost : Sl2 w A_a0_cost c_a0_cost 1 encN a0.cost) (h_a1_supply : Sl w A_a1_supply c_a1_supply 1 (a1.supply.map encN)) (h_a1_demand : Sl w A_a1_demand c_a1_demand 1 (a1.demand.map encN)) (h_a1_cost : Sl2 w A_a1_cost c_a1_cost 1 encN a1.cost) (F : ref07_Same a0 a1 = some res) : Calls Try.prog 30 #[.agg #[.slice A_a0_supply a0.supply.length c_a0_supply, .slice A_a0_demand a0.demand.length c_a0_demand, .slice A_a0_cost a0.cost.length c_a0_cost], .agg #[.slice A_a1_supply a1.supply.length c_a1_supply, .slice A_a1_demand a1.demand.length c_a1_demand, .slice A_a1_cost a1.cost.length c_a1_cost]] w (Rt w (.bool res)) := by
  refine calls_of_cw (args := [.agg #[.slice A_a0_supply a0.supply.length c_a0_supply, .slice A_a0_demand a0.demand.length c_a0_demand, .slice A_a0_cost a0.cost.length c_a0_cost], .agg #[.slice A_a1_supply a1.supply.length c_a1_supply, .slice A_a1_demand a1.demand.length c_a1_demand, .slice A_a1_cost a1.cost.length c_a1_cost]]) Try.func30 rfl rfl rfl rfl ?_
  have H := Hp.start w
  have R0 := H.ext
  unfold ref07_Same at F
  refine CW.seq fun K1 hK1 => ?_
  refine CW.region ?_
  refine LW.go rfl rfl (OW.box rfl fun b1 w1 N1 => ?_)
  replace H := H.new N1 N1.blk
  replace R0 := H.ext
  refine LW.go rfl rfl (OW.box rfl fun b2 w2 N2 => ?_)
  replace H := H.new N2 N2.blk
  replace R0 := H.ext
  refine LW.pure rfl rfl (RV.assign rfl) ?_
  refine LW.nil (hK1 _ _ ?_)
  refine CW.seq fun K2 hK2 => ?_
  obtain ⟨r1, hr1, F⟩ := bnd_some F
  by_cases hp1 : r1 = true
  ·
    replace F := ite_y hp1 F
    have hq1 : r1 = true := hp1
    obtain ⟨r2, hr2, F⟩ := bnd_some F
    by_cases hp2 : r2 = true
    ·
      replace F := ite_y hp2 F
      have hq2 : r2 = true := hp2
      obtain ⟨r3, hr3, F⟩ := bnd_some F
      refine CW.region ?_
      refine LW.pure rfl rfl (RV.fieldAddr Tf25_0 rfl) ?_
      refine LW.pure rfl rfl (RV.load1 Tk22 rfl ((H.blk 1 rfl).cells.off 0) rfl) ?_
      refine LW.pure rfl rfl (RV.fieldAddr Tf25_0 rfl) ?_
      refine LW.pure rfl rfl (RV.load1 Tk22 rfl ((H.blk 0 rfl).cells.off 0) rfl) ?_
      refine LW.go rfl rfl (OW.call Tc67 rfl (ref07_SameInts_ok (a0 := a0.supply) (a1 := a1.supply) (h_a0_supply.ext R0) (h_a1_supply.ext R0) hr1) ?_)
      rintro _ w3 ⟨rfl, E1⟩
      refine ⟨_, rfl, ?_⟩
      replace H := H.grow E1
      replace R0 := H.ext
      refine LW.pure rfl rfl (RV.move rfl) ?_
      refine LW.pureYB rfl rfl rfl rfl hq1 (RV.fieldAddr Tf25_1 rfl) ?_
      refine LW.pureYB rfl rfl rfl rfl hq1 (RV.load1 Tk22 rfl ((H.blk 1 rfl).cells.off 1) rfl) ?_
      refine LW.pureYB rfl rfl rfl rfl hq1 (RV.fieldAddr Tf25_1 rfl) ?_
      refine LW.pureYB rfl rfl rfl rfl hq1 (RV.load1 Tk22 rfl ((H.blk 0 rfl).cells.off 1) rfl) ?_
      refine LW.yesB rfl rfl rfl rfl hq1 (OW.call Tc67 rfl (ref07_SameInts_ok (a0 := a0.demand) (a1 := a1.demand) (h_a0_demand.ext R0) (h_a1_demand.ext R0) hr2) ?_)
      rintro _ w4 ⟨rfl, E2⟩
      refine ⟨_, rfl, ?_⟩
      replace H := H.grow E2
      replace R0 := H.ext
      refine LW.pure rfl rfl (RV.pickTB rfl hq1 rfl) ?_
      refine LW.pure rfl rfl (RV.move rfl) ?_
      refine LW.pureYB rfl rfl rfl rfl hq2 (RV.fieldAddr Tf25_2 rfl) ?_
      refine LW.pureYB rfl rfl rfl rfl hq2 (RV.load1 Tk23 rfl ((H.blk 1 rfl).cells.off 2) rfl) ?_
      refine LW.pureYB rfl rfl rfl rfl hq2 (RV.fieldAddr Tf25_2 rfl) ?_
      refine LW.pureYB rfl rfl rfl rfl hq2 (RV.load1 Tk23 rfl ((H.blk 0 rfl).cells.off 2) rfl) ?_
      refine LW.yesB rfl rfl rfl rfl hq2 (OW.call Tc33 rfl (ref07_SameTables_ok (a0 := a0.cost) (a1 := a1.cost) (h_a0_cost.ext R0) (h_a1_cost.ext R0) hr3) ?_)
      rintro _ w5 ⟨rfl, E3⟩
      refine ⟨_, rfl, ?_⟩
      replace H := H.grow E3
      replace R0 := H.ext
      refine LW.pure rfl rfl (RV.pickTB rfl hq2 rfl) ?_
      refine LW.pure rfl rfl (RV.assign rfl) ?_
      refine LW.nil (hK2 _ _ ?_)
      refine CW.ret ?_
      obtain rfl := Option.some.inj F
      refine ⟨_, (ResOK.one rfl), ?_⟩
      refine ⟨(by first | rfl | simp), R0⟩
    ·
      replace F := ite_n hp2 F
      have hq2 : r2 = false := raw_f hp2
      refine CW.region ?_
      refine LW.pure rfl rfl (RV.fieldAddr Tf25_0 rfl) ?_
      refine LW.pure rfl rfl (RV.load1 Tk22 rfl ((H.blk 1 rfl).cells.off 0) rfl) ?_
      refine LW.pure rfl rfl (RV.fieldAddr Tf25_0 rfl) ?_
      refine LW.pure rfl rfl (RV.load1 Tk22 rfl ((H.blk 0 rfl).cells.off 0) rfl) ?_
      refine LW.go rfl rfl (OW.call Tc67 rfl (ref07_SameInts_ok (a0 := a0.supply) (a1 := a1.supply) (h_a0_supply.ext R0) (h_a1_supply.ext R0) hr1) ?_)
      rintro _ w6 ⟨rfl, E4⟩
      refine ⟨_, rfl, ?_⟩
      replace H := H.grow E4
      replace R0 := H.ext
      refine LW.pure rfl rfl (RV.move rfl) ?_
      refine LW.pureYB rfl rfl rfl rfl hq1 (RV.fieldAddr Tf25_1 rfl) ?_
      refine LW.pureYB rfl rfl rfl rfl hq1 (RV.load1 Tk22 rfl ((H.blk 1 rfl).cells.off 1) rfl) ?_
      refine LW.pureYB rfl rfl rfl rfl hq1 (RV.fieldAddr Tf25_1 rfl) ?_
      refine LW.pureYB rfl rfl rfl rfl hq1 (RV.load1 Tk22 rfl ((H.blk 0 rfl).cells.off 1) rfl) ?_
      refine LW.yesB rfl rfl rfl rfl hq1 (OW.call Tc67 rfl (ref07_SameInts_ok (a0 := a0.demand) (a1 := a1.demand) (h_a0_demand.ext R0) (h_a1_demand.ext R0) hr2) ?_)
      rintro _ w7 ⟨rfl, E5⟩
      refine ⟨_, rfl, ?_⟩
      replace H := H.grow E5
      replace R0 := H.ext
      refine LW.pure rfl rfl (RV.pickTB rfl hq1 rfl) ?_
      refine LW.pure rfl rfl (RV.move rfl) ?_
      refine LW.noB rfl rfl rfl rfl (ne_beq (v := false) hq2 rfl) ?_
      refine LW.noB rfl rfl rfl rfl (ne_beq (v := false) hq2 rfl) ?_
      refine LW.noB rfl rfl rfl rfl (ne_beq (v := false) hq2 rfl) ?_
      refine LW.noB rfl rfl rfl rfl (ne_beq (v := false) hq2 rfl) ?_
      refine LW.noB rfl rfl rfl rfl (ne_beq (v := false) hq2 rfl) ?_
      refine LW.pure rfl rfl (RV.pickFB rfl hq2 rfl) ?_
      refine LW.pure rfl rfl (RV.assign rfl) ?_
      refine LW.nil (hK2 _ _ ?_)
      refine CW.ret ?_
      obtain rfl := Option.some.inj F
      refine ⟨_, (ResOK.one rfl), ?_⟩
      refine ⟨(by first | rfl | simp), R0⟩
  ·
    replace F := ite_n hp1 F
    have hq1 : r1 = false := raw_f hp1
    refine CW.region ?_
    refine LW.pure rfl rfl (RV.fieldAddr Tf25_0 rfl) ?_
    refine LW.pure rfl rfl (RV.load1 Tk22 rfl ((H.blk 1 rfl).cells.off 0) rfl) ?_
    refine LW.pure rfl rfl (RV.fieldAddr Tf25_0 rfl) ?_
    refine LW.pure rfl rfl (RV.load1 Tk22 rfl ((H.blk 0 rfl).cells.off 0) rfl) ?_
    refine LW.go rfl rfl (OW.call Tc67 rfl (ref07_SameInts_ok (a0 := a0.supply) (a1 := a1.supply) (h_a0_supply.ext R0) (h_a1_supply.ext R0) hr1) ?_)
    rintro _ w8 ⟨rfl, E6⟩
    refine ⟨_, rfl, ?_⟩
    replace H := H.grow E6
    replace R0 := H.ext
    refine LW.pure rfl rfl (RV.move rfl) ?_
    refine LW.noB rfl rfl rfl rfl (ne_beq (v := false) hq1 rfl) ?_
    refine LW.noB rfl rfl rfl rfl (ne_beq (v := false) hq1 rfl) ?_
    refine LW.noB rfl rfl rfl rfl (ne_beq (v := false) hq1 rfl) ?_
    refine LW.noB rfl rfl rfl rfl (ne_beq (v := false) hq1 rfl) ?_
    refine LW.noB rfl rfl rfl rfl (ne_beq (v := false) hq1 rfl) ?_
    refine LW.pure rfl rfl (RV.pickFB rfl hq1 rfl) ?_
    refine LW.pure rfl rfl (RV.move rfl) ?_
    refine LW.noB rfl rfl rfl rfl (ne_beq (v := false) rfl rfl) ?_
    refine LW.noB rfl rfl rfl rfl (ne_beq (v := false) rfl rfl) ?_
    refine LW.noB rfl rfl rfl rfl (ne_beq (v := false) rfl rfl) ?_
    refine LW.noB rfl rfl rfl rfl (ne_beq (v := false) rfl rfl) ?_
    refine LW.noB rfl rfl rfl rfl (ne_beq (v := false) rfl rfl) ?_
    refine LW.pure rfl rfl (RV.pickFB rfl rfl rfl) ?_
    refine LW.pure rfl rfl (RV.assign rfl) ?_
    refine LW.nil (hK2 _ _ ?_)
    refine CW.ret ?_
    obtain rfl := Option.some.inj F
    refine ⟨_, (ResOK.one rfl), ?_⟩
    refine ⟨(by first | rfl | simp), R0⟩
end Go.D7

set_option linter.unusedVariables false
set_option linter.unusedSimpArgs false
namespace Go.D7
open Go.Tb Go.Proofs Go.RowKit
set_option maxRecDepth 20000 in
set_option maxHeartbeats 1000000 in
theorem bulk_Turn_ok {a0 : Trade} {A_a0_supply : Option Addr} {c_a0_supply : Nat} {A_a0_demand : Option Addr} {c_a0_demand : Nat} {A_a0_cost : Option Addr} {c_a0_cost : Nat} {w : World} {res : Trade × Int} (h_a0_supply : Sl w A_a0_supply c_a0_supply 1 (a0.supply.map encN)) (h_a0_demand : Sl w A_a0_demand c_a0_demand 1 (a0.demand.map encN)) (h_a0_cost : Sl2 w A_a0_cost c_a0_cost 1 encN a0.cost) (F : bulk_Turn a0 = some res) : Calls Try.prog 47 #[.agg #[.slice A_a0_supply a0.supply.length c_a0_supply, .slice A_a0_demand a0.demand.length c_a0_demand, .slice A_a0_cost a0.cost.length c_a0_cost]] w (fun e w' => ∃ (A0_supply : Option Addr) (c0_supply : Nat) (A0_demand : Option Addr) (c0_demand : Nat) (A0_cost : Option Addr) (c0_cost : Nat) (hs0_cost : List (Option Addr × Nat)), e = .returned (.tuple #[.agg #[.slice A0_supply res.1.supply.length c0_supply, .slice A0_demand res.1.demand.length c0_demand, .slice A0_cost res.1.cost.length c0_cost], .int .i64 res.2]) ∧ Hp w w' [.own A0_supply c0_supply 3 1 (List.map encN res.1.supply), .own A0_demand c0_demand 3 1 (List.map encN res.1.demand), .tab A0_cost c0_cost 22 hs0_cost 3 1 (encM encN res.1.cost)]) := by
  refine calls_of_cw (args := [.agg #[.slice A_a0_supply a0.supply.length c_a0_supply, .slice A_a0_demand a0.demand.length c_a0_demand, .slice A_a0_cost a0.cost.length c_a0_cost]]) Try.func47 rfl rfl rfl rfl ?_
  have H := Hp.start w
  have R0 := H.ext
  unfold bulk_Turn at F
  refine CW.seq fun K1 hK1 => ?_
  refine CW.region ?_
  refine LW.go rfl rfl (OW.box rfl fun b1 w1 N1 => ?_)
  replace H := H.new N1 N1.blk
  replace R0 := H.ext
  refine LW.go rfl rfl (OW.alloc Tz25 fun b2 w2 N2 => ?_)
  replace H := H.new N2 N2.blk
  replace R0 := H.ext
  refine LW.pure rfl rfl (RV.assign rfl) ?_
  refine LW.nil (hK1 _ _ ?_)
  refine CW.seq fun K2 hK2 => ?_
  refine CW.seq fun K3 hK3 => ?_
  obtain ⟨r1, hr1, F⟩ := bnd_some F
  refine CW.region ?_
  refine LW.pure rfl rfl (RV.loadA [.slice A_a0_supply a0.supply.length c_a0_supply, .slice A_a0_demand a0.demand.length c_a0_demand, .slice A_a0_cost a0.cost.length c_a0_cost] Tk25 rfl (H.blk 1 rfl).cells rfl rfl) ?_
  refine LW.go rfl rfl (OW.call Tc38 rfl (bulk_Validate_ok (a0 := a0) (h_a0_supply.ext R0) (h_a0_demand.ext R0) (h_a0_cost.ext R0) hr1) ?_)
  rintro _ w3 ⟨rfl, E1⟩
  refine ⟨_, rfl, ?_⟩
  replace H := H.grow E1
  replace R0 := H.ext
  refine LW.pure rfl rfl (RV.assign rfl) ?_
  refine LW.nil (hK3 _ _ ?_)
  refine CW.seq fun K4 hK4 => ?_
  refine CW.region ?_
  refine LW.pure rfl rfl (RV.move rfl) ?_
  refine LW.pure rfl rfl (RV.nei rfl rfl) ?_
  refine LW.nil (hK4 _ _ ?_)
  by_cases hp1 : r1 = 0
  ·
    replace F := ite_y hp1 F
    have hq1 := dec_t hp1
    refine CW.condF rfl (not_f hq1) ?_
    refine CW.skip (hK2 _ _ ?_)
    refine CW.seqJ (fun ρ wl1 => (∃ (l1 : List Int) (l2 : List Int) (bk1 : Nat) (Al1 : Option Addr) (cl1 : Nat) (Al2 : Option Addr) (cl2 : Nat), bulk_Turn_k4 a0 l1 l2 = some res ∧ ρ = [(1, .pointer (some (⟨b1, 0, none⟩))), (2, .pointer (some (⟨b2, 0, none⟩))), (3, .int .i64 0), (5, .pointer (some (⟨bk1, 0, none⟩)))] ∧ Hp w wl1 [.own Al1 cl1 3 1 (List.map encN l1), .own Al2 cl2 3 1 (List.map encN l2), .blk b1 25 [.slice A_a0_supply a0.supply.length c_a0_supply, .slice A_a0_demand a0.demand.length c_a0_demand, .slice A_a0_cost a0.cost.length c_a0_cost], .blk b2 25 [.slice none 0 0, .slice none 0 0, .slice none 0 0], .blk bk1 25 [.slice Al1 l1.length cl1, .slice Al2 l2.length cl2, .slice none 0 0]])) ?_ ?_
    ·
      rintro _ wl1 ⟨l1, l2, bk1, Al1, cl1, Al2, cl2, F, rfl, H⟩
      have R0 := H.ext
      unfold bulk_Turn_k4 at F
      refine CW.seqJ (fun ρ wl2 => (∃ (m1 : List (List Int)) (hsm1 : List (Option Addr × Nat)) (Am1 : Option Addr) (cm1 : Nat), bulk_Turn_k1 l1 l2 m1 = some res ∧ ρ = [(2, .pointer (some (⟨b2, 0, none⟩))), (3, .int .i64 0), (5, .pointer (some (⟨bk1, 0, none⟩)))] ∧ Hp w wl2 [.own Al1 cl1 3 1 (List.map encN l1), .own Al2 cl2 3 1 (List.map encN l2), .tab Am1 cm1 22 hsm1 3 1 (encM encN m1), .blk b2 25 [.slice none 0 0, .slice none 0 0, .slice none 0 0], .blk bk1 25 [.slice Al1 l1.length cl1, .slice Al2 l2.length cl2, .slice Am1 m1.length cm1]])) ?_ ?_
      ·
        rintro _ wl2 ⟨m1, hsm1, Am1, cm1, F, rfl, H⟩
        have R0 := H.ext
        unfold bulk_Turn_k1 at F
        refine CW.seq fun K5 hK5 => ?_
        refine CW.region ?_
        refine LW.pure rfl rfl (RV.loadA [.slice Al1 l1.length cl1, .slice Al2 l2.length cl2, .slice Am1 m1.length cm1] Tk25 rfl (H.blk 4 rfl).cells rfl rfl) ?_
        refine LW.go rfl rfl (OW.store Tk25 rfl rfl (H.blk 3 rfl) (off := 0) (vs := [.slice Al1 l1.length cl1, .slice Al2 l2.length cl2, .slice Am1 m1.length cm1]) rfl rfl rfl rfl rfl fun w4 S1 => ?_)
        replace H : Hp w w4 [.own Al1 cl1 3 1 (List.map encN l1), .own Al2 cl2 3 1 (List.map encN l2), .tab Am1 cm1 22 hsm1 3 1 (encM encN m1), .blk b2 25 [.slice Al1 l1.length cl1, .slice Al2 l2.length cl2, .slice Am1 m1.length cm1], .blk bk1 25 [.slice Al1 l1.length cl1, .slice Al2 l2.length cl2, .slice Am1 m1.length cm1]] := H.stored 3 rfl S1
        replace R0 := H.ext
        refine LW.pure rfl rfl (RV.assign rfl) ?_
        refine LW.nil (hK5 _ _ ?_)
        refine CW.ret ?_
        obtain rfl := Option.some.inj F
        refine ⟨_, (ResOK.two ⟨_, rfl, run_loadVar_agg Tk25 (H.blk 3 rfl).cells (us := [.slice Al1 l1.length cl1, .slice Al2 l2.length cl2, .slice Am1 m1.length cm1]) rfl rfl⟩ rfl), ?_⟩
        replace H := H.pick (L' := [.own Al1 cl1 3 1 (List.map encN l1), .own Al2 cl2 3 1 (List.map encN l2), .tab Am1 cm1 22 hsm1 3 1 (encM encN m1)]) [0, 1, 2] (by decide) rfl
        replace R0 := H.ext
        exact ⟨Al1, cl1, Al2, cl2, Am1, cm1, hsm1, (by first | rfl | (simp; done) | (simp; omega)), H⟩
      ·
        intro K6 hK6 jK566
        refine CW.seq fun K7 hK7 => ?_
        refine CW.region ?_
        refine LW.pure rfl rfl (RV.fieldAddr Tf25_1 rfl) ?_
        refine LW.pure rfl rfl (RV.load1 Tk22 rfl ((H.blk 2 rfl).cells.off 1) rfl) ?_
        refine LW.pure rfl rfl (RV.len Ts22 rfl) ?_
        refine LW.pure rfl rfl (RV.move rfl) ?_
        refine LW.nil (hK7 _ _ ?_)
        refine CW.block ?_
        replace H := H.nilTab encN 22 3 1
        replace R0 := H.ext
        replace H := H.pick (L' := [.own Al1 cl1 3 1 (List.map encN l1), .own Al2 cl2 3 1 (List.map encN l2), .tab none 0 22 ([]) 3 1 (encM encN (([] : List (List Int)))), .blk b1 25 [.slice A_a0_supply a0.supply.length c_a0_supply, .slice A_a0_demand a0.demand.length c_a0_demand, .slice A_a0_cost a0.cost.length c_a0_cost], .blk b2 25 [.slice none 0 0, .slice none 0 0, .slice none 0 0], .blk bk1 25 [.slice Al1 l1.length cl1, .slice Al2 l2.length cl2, .slice none 0 0]]) [1, 2, 0, 3, 4, 5] (by decide) rfl
        replace R0 := H.ext
        replace H := H.cast (L' := [.own Al1 cl1 3 1 (List.map encN l1), .own Al2 cl2 3 1 (List.map encN l2), .tab none 0 22 ([]) 3 1 (encM encN (([] : List (List Int)))), .blk b1 25 [.slice A_a0_supply a0.supply.length c_a0_supply, .slice A_a0_demand a0.demand.length c_a0_demand, .slice A_a0_cost a0.cost.length c_a0_cost], .blk b2 25 [.slice none 0 0, .slice none 0 0, .slice none 0 0], .blk bk1 25 [.slice Al1 l1.length cl1, .slice Al2 l2.length cl2, .slice none ((([] : List (List Int))).length) 0]]) (by first | rfl | (simp only [List.length_set]; done) | simp)
        refine CW.loop (fun meas ρ wl3 => ∃ (t25_1 : Int) (m3 : List (List Int)) (hsm3 : List (Option Addr × Nat)) (Am3 : Option Addr) (cm3 : Nat), bulk_Turn_L2 a0 l1 l2 meas t25_1 m3 = some res ∧ ρ = [(1, .pointer (some (⟨b1, 0, none⟩))), (2, .pointer (some (⟨b2, 0, none⟩))), (3, .int .i64 0), (5, .pointer (some (⟨bk1, 0, none⟩))), (24, .int .i64 ((a0.demand.length : Int))), (25, .int .i64 t25_1)] ∧ Hp w wl3 [.own Al1 cl1 3 1 (List.map encN l1), .own Al2 cl2 3 1 (List.map encN l2), .tab Am3 cm3 22 hsm3 3 1 (encM encN m3), .blk b1 25 [.slice A_a0_supply a0.supply.length c_a0_supply, .slice A_a0_demand a0.demand.length c_a0_demand, .slice A_a0_cost a0.cost.length c_a0_cost], .blk b2 25 [.slice none 0 0, .slice none 0 0, .slice none 0 0], .blk bk1 25 [.slice Al1 l1.length cl1, .slice Al2 l2.length cl2, .slice Am3 m3.length cm3]]) FU ⟨_, ?_, ((0 : Int)), (([] : List (List Int))), ([]), none, 0, F, rfl, H⟩ ?_
        · exact ⟨rfl, rfl, rfl, rfl, rfl, rfl, trivial⟩
        rintro mk1 _ wl3 ⟨t25_1, m3, hsm3, Am3, cm3, F, rfl, H⟩
        have R0 := H.ext
        replace F := bulk_Turn_L2_s F
        obtain ⟨mk1, rfl, F⟩ := F
        generalize hrec1 : bulk_Turn_L2 a0 l1 l2 mk1 = rec1 at F
        unfold bulk_Turn_B2 at F
        refine CW.seq fun K8 hK8 => ?_
        refine CW.region ?_
        refine LW.pure rfl rfl (RV.lss rfl rfl) ?_
        refine LW.nil (hK8 _ _ ?_)
        refine CW.seq fun K9 hK9 => ?_
        by_cases hp2 : t25_1 < ((a0.demand.length : Int))
        ·
          replace F := ite_y hp2 F
          have hq2 := dec_t hp2
          refine CW.condT rfl hq2 ?_
          refine CW.skip (hK9 _ _ ?_)
          refine CW.seqJ (fun ρ wl4 => (∃ (m2 : List (List Int)) (hsm2 : List (Option Addr × Nat)) (Am2 : Option Addr) (cm2 : Nat), bulk_Turn_k2 t25_1 rec1 m2 = some res ∧ ρ = [(1, .pointer (some (⟨b1, 0, none⟩))), (2, .pointer (some (⟨b2, 0, none⟩))), (3, .int .i64 0), (5, .pointer (some (⟨bk1, 0, none⟩))), (24, .int .i64 ((a0.demand.length : Int))), (25, .int .i64 t25_1)] ∧ Hp w wl4 [.own Al1 cl1 3 1 (List.map encN l1), .own Al2 cl2 3 1 (List.map encN l2), .tab Am2 cm2 22 hsm2 3 1 (encM encN m2), .blk b1 25 [.slice A_a0_supply a0.supply.length c_a0_supply, .slice A_a0_demand a0.demand.length c_a0_demand, .slice A_a0_cost a0.cost.length c_a0_cost], .blk b2 25 [.slice none 0 0, .slice none 0 0, .slice none 0 0], .blk bk1 25 [.slice Al1 l1.length cl1, .slice Al2 l2.length cl2, .slice Am2 m2.length cm2]])) ?_ ?_
          ·
            rintro _ wl4 ⟨m2, hsm2, Am2, cm2, F, rfl, H⟩
            have R0 := H.ext
            unfold bulk_Turn_k2 at F
            obtain ⟨hg1, F⟩ := gd_some F
            refine CW.region ?_
            refine LW.pure rfl rfl (RV.add rfl rfl hg1) ?_
            refine LW.pure rfl rfl (RV.move rfl) ?_
            refine LW.nil ?_
            subst hrec1
            refine ⟨mk1, Nat.lt_succ_self _, _, ?_, (t25_1 + 1), m2, hsm2, Am2, cm2, F, rfl, H⟩
            exact ⟨rfl, rfl, rfl, rfl, rfl, rfl, trivial⟩
          ·
            intro K10 hK10 jK721
            refine CW.block ?_
            refine CW.seq fun K11 hK11 => ?_
            refine CW.region ?_
            refine LW.pure rfl rfl (RV.move rfl) ?_
            refine LW.pure rfl rfl (RV.assign rfl) ?_
            refine LW.nil (hK11 _ _ ?_)
            refine CW.seq fun K12 hK12 => ?_
            refine CW.region ?_
            refine LW.pure rfl rfl (RV.assign rfl) ?_
            refine LW.nil (hK12 _ _ ?_)
            refine CW.seqJ (fun ρ wl5 => (∃ (l3 : List Int) (Al3 : Option Addr) (cl3 : Nat), bulk_Turn_k3 t25_1 m3 rec1 l3 = some res ∧ ρ = [(1, .pointer (some (⟨b1, 0, none⟩))), (2, .pointer (some (⟨b2, 0, none⟩))), (3, .int .i64 0), (5, .pointer (some (⟨bk1, 0, none⟩))), (7, .slice Al3 l3.length cl3), (24, .int .i64 ((a0.demand.length : Int))), (25, .int .i64 t25_1)] ∧ Hp w wl5 [.own Al3 cl3 3 1 (List.map encN l3), .own Al1 cl1 3 1 (List.map encN l1), .own Al2 cl2 3 1 (List.map encN l2), .tab Am3 cm3 22 hsm3 3 1 (encM encN m3), .blk b1 25 [.slice A_a0_supply a0.supply.length c_a0_supply, .slice A_a0_demand a0.demand.length c_a0_demand, .slice A_a0_cost a0.cost.length c_a0_cost], .blk b2 25 [.slice none 0 0, .slice none 0 0, .slice none 0 0], .blk bk1 25 [.slice Al1 l1.length cl1, .slice Al2 l2.length cl2, .slice Am3 m3.length cm3]])) ?_ ?_
            ·
              rintro _ wl5 ⟨l3, Al3, cl3, F, rfl, H⟩
              have R0 := H.ext
              unfold bulk_Turn_k3 at F
              obtain ⟨hg2, F⟩ := gd_some F
              refine CW.region ?_
              refine LW.pure rfl rfl (RV.fieldAddr Tf25_2 rfl) ?_
              refine LW.pure rfl rfl (RV.load1 Tk23 rfl ((H.blk 6 rfl).cells.off 2) rfl) ?_
              refine LW.pure rfl rfl (RV.move rfl) ?_
              refine LW.go rfl rfl (OW.buildSlice (e := 22) (vs := [.slice Al3 l3.length cl3]) (cs := [.slice Al3 l3.length cl3]) rfl (fun _ => by kernel_rfl) fun b3 w5 N3 => ?_)
              replace H := H.made' (k := 1) (t := 22) (enc := encH) (l := ([((Al3, cl3), List.map encN l3)] : List ((Option Addr × Nat) × List (List Value)))) N3 (by have q := N3.blk; simp only [List.flatMap_cons, List.flatMap_nil, encH, List.length_map, List.append_nil, List.cons_append, List.nil_append]; first | done | exact q) (fun _ => rfl) rfl (by first | decide | omega | (simp; done) | (simp; omega))
              replace R0 := H.ext
              refine LW.go rfl rfl (OW.appendT (enc := encN) (m := m3) (l := l3) Ts23 rfl rfl (H.tab 4 rfl) (H.own 0 rfl).sl rfl hg2 (by decide) fun A1 c1 w6 O1 M1 D1 => ?_)
              replace H : Hp w w6 [.own (some ⟨b3, 0, none⟩) ((([((Al3, cl3), List.map encN l3)] : List ((Option Addr × Nat) × List (List Value)))).length) 22 1 (List.map encH (([((Al3, cl3), List.map encN l3)] : List ((Option Addr × Nat) × List (List Value))))), .own Al1 cl1 3 1 (List.map encN l1), .own Al2 cl2 3 1 (List.map encN l2), .tab A1 c1 22 ((hsm3 ++ [(Al3, cl3)])) 3 1 (encM encN ((m3 ++ [l3]))), .blk b1 25 [.slice A_a0_supply a0.supply.length c_a0_supply, .slice A_a0_demand a0.demand.length c_a0_demand, .slice A_a0_cost a0.cost.length c_a0_cost], .blk b2 25 [.slice none 0 0, .slice none 0 0, .slice none 0 0], .blk bk1 25 [.slice Al1 l1.length cl1, .slice Al2 l2.length cl2, .slice Am3 m3.length cm3]] := H.tabPush 4 1 (by decide) rfl rfl M1 D1 O1
              replace R0 := H.ext
              refine LW.pure rfl rfl (RV.fieldAddr Tf25_2 rfl) ?_
              refine LW.go rfl rfl (OW.store Tk23 rfl rfl (H.blk 6 rfl) (off := 2) (vs := [.slice A1 (((m3 ++ [l3])).length) c1]) rfl rfl rfl rfl rfl fun w7 S2 => ?_)
              replace H : Hp w w7 [.own (some ⟨b3, 0, none⟩) ((([((Al3, cl3), List.map encN l3)] : List ((Option Addr × Nat) × List (List Value)))).length) 22 1 (List.map encH (([((Al3, cl3), List.map encN l3)] : List ((Option Addr × Nat) × List (List Value))))), .own Al1 cl1 3 1 (List.map encN l1), .own Al2 cl2 3 1 (List.map encN l2), .tab A1 c1 22 ((hsm3 ++ [(Al3, cl3)])) 3 1 (encM encN ((m3 ++ [l3]))), .blk b1 25 [.slice A_a0_supply a0.supply.length c_a0_supply, .slice A_a0_demand a0.demand.length c_a0_demand, .slice A_a0_cost a0.cost.length c_a0_cost], .blk b2 25 [.slice none 0 0, .slice none 0 0, .slice none 0 0], .blk bk1 25 [.slice Al1 l1.length cl1, .slice Al2 l2.length cl2, .slice A1 (((m3 ++ [l3])).length) c1]] := H.stored 6 rfl S2
              replace R0 := H.ext
              replace H := H.pick (L' := [.own Al1 cl1 3 1 (List.map encN l1), .own Al2 cl2 3 1 (List.map encN l2), .tab A1 c1 22 ((hsm3 ++ [(Al3, cl3)])) 3 1 (encM encN ((m3 ++ [l3]))), .blk b1 25 [.slice A_a0_supply a0.supply.length c_a0_supply, .slice A_a0_demand a0.demand.length c_a0_demand, .slice A_a0_cost a0.cost.length c_a0_cost], .blk b2 25 [.slice none 0 0, .slice none 0 0, .slice none 0 0], .blk bk1 25 [.slice Al1 l1.length cl1, .slice Al2 l2.length cl2, .slice A1 (((m3 ++ [l3])).length) c1]]) [1, 2, 3, 4, 5, 6] (by decide) rfl
              replace R0 := H.ext
              refine LW.nil (jK721 _ _ ⟨_, ?_, ⟨((m3 ++ [l3])), ((hsm3 ++ [(Al3, cl3)])), A1, c1, F, rfl, H⟩⟩)
              exact ⟨rfl, rfl, rfl, rfl, rfl, rfl, trivial⟩
            ·
              intro K13 hK13 jK737
              refine CW.seq fun K14 hK14 => ?_
              refine CW.region ?_
              refine LW.pure rfl rfl (RV.fieldAddr Tf25_0 rfl) ?_
              refine LW.pure rfl rfl (RV.load1 Tk22 rfl ((H.blk 3 rfl).cells.off 0) rfl) ?_
              refine LW.pure rfl rfl (RV.len Ts22 rfl) ?_
              refine LW.pure rfl rfl (RV.move rfl) ?_
              refine LW.nil (hK14 _ _ ?_)
              refine CW.block ?_
              replace H := H.nilOwn 3 1
              replace R0 := H.ext
              refine CW.loop (fun meas ρ wl6 => ∃ (t31_1 : Int) (l4 : List Int) (Al4 : Option Addr) (cl4 : Nat), bulk_Turn_L1 a0 t25_1 m3 rec1 meas t31_1 l4 = some res ∧ ρ = [(1, .pointer (some (⟨b1, 0, none⟩))), (2, .pointer (some (⟨b2, 0, none⟩))), (3, .int .i64 0), (5, .pointer (some (⟨bk1, 0, none⟩))), (6, .int .i64 t25_1), (7, .slice Al4 l4.length cl4), (24, .int .i64 ((a0.demand.length : Int))), (25, .int .i64 t25_1), (30, .int .i64 ((a0.supply.length : Int))), (31, .int .i64 t31_1)] ∧ Hp w wl6 [.own Al4 cl4 3 1 (List.map encN l4), .own Al1 cl1 3 1 (List.map encN l1), .own Al2 cl2 3 1 (List.map encN l2), .tab Am3 cm3 22 hsm3 3 1 (encM encN m3), .blk b1 25 [.slice A_a0_supply a0.supply.length c_a0_supply, .slice A_a0_demand a0.demand.length c_a0_demand, .slice A_a0_cost a0.cost.length c_a0_cost], .blk b2 25 [.slice none 0 0, .slice none 0 0, .slice none 0 0], .blk bk1 25 [.slice Al1 l1.length cl1, .slice Al2 l2.length cl2, .slice Am3 m3.length cm3]]) FU ⟨_, ?_, ((0 : Int)), (([] : List Int)), none, 0, F, rfl, H⟩ ?_
              · exact ⟨rfl, rfl, rfl, rfl, rfl, (look_slice rfl (by first | rfl | (simp; done) | (simp; omega))), rfl, rfl, rfl, rfl, trivial⟩
              rintro mk2 _ wl6 ⟨t31_1, l4, Al4, cl4, F, rfl, H⟩
              have R0 := H.ext
              replace F := bulk_Turn_L1_s F
              obtain ⟨mk2, rfl, F⟩ := F
              generalize hrec2 : bulk_Turn_L1 a0 t25_1 m3 rec1 mk2 = rec2 at F
              unfold bulk_Turn_B1 at F
              refine CW.seq fun K15 hK15 => ?_
              refine CW.region ?_
              refine LW.pure rfl rfl (RV.lss rfl rfl) ?_
              refine LW.nil (hK15 _ _ ?_)
              refine CW.seq fun K16 hK16 => ?_
              by_cases hp3 : t31_1 < ((a0.supply.length : Int))
              ·
                replace F := ite_y hp3 F
                have hq3 := dec_t hp3
                refine CW.condT rfl hq3 ?_
                refine CW.skip (hK16 _ _ ?_)
                refine CW.seq fun K17 hK17 => ?_
                refine CW.block ?_
                refine CW.seq fun K18 hK18 => ?_
                refine CW.region ?_
                refine LW.pure rfl rfl (RV.move rfl) ?_
                refine LW.pure rfl rfl (RV.assign rfl) ?_
                refine LW.nil (hK18 _ _ ?_)
                obtain ⟨x1, hbx1, hx1, F⟩ := ix_some F
                obtain ⟨x2, hbx2, hx2, F⟩ := ix_some F
                obtain ⟨hg3, F⟩ := gd_some F
                refine CW.region ?_
                refine LW.pure rfl rfl (RV.move rfl) ?_
                refine LW.pure rfl rfl (RV.fieldAddr Tf25_2 rfl) ?_
                refine LW.pure rfl rfl (RV.load1 Tk23 rfl ((H.blk 4 rfl).cells.off 2) rfl) ?_
                refine LW.pure rfl rfl (RV.move rfl) ?_
                obtain ⟨A2, c2, hC1, hS1⟩ := h_a0_cost.at_ hx1
                refine LW.pure rfl rfl (RV.indexAddr Ts23 rfl rfl hbx1 (h_a0_cost.addr hbx1)) ?_
                refine LW.pure rfl rfl (RV.load1 Tk22 rfl (hC1.ext R0) rfl) ?_
                refine LW.pure rfl rfl (RV.move rfl) ?_
                refine LW.pure rfl rfl (RV.indexAddr Ts22 rfl rfl hbx2 (hS1.addr_ hx2)) ?_
                refine LW.pure rfl rfl (RV.load1 Tk3 rfl ((hS1.at_ hx2).ext R0) rfl) ?_
                refine LW.go rfl rfl (OW.buildSlice (e := 3) (vs := [.int .i64 x2]) (cs := [.int .i64 x2]) rfl (fun _ => by kernel_rfl) fun b4 w8 N4 => ?_)
                replace H := H.made' (k := 1) (t := 3) (enc := encN) (l := ([x2] : List Int)) N4 N4.blk (fun _ => rfl) rfl (by first | decide | omega | (simp; done) | (simp; omega))
                replace R0 := H.ext
                refine LW.go rfl rfl (OW.appendG (enc := encN) (l := l4) (xs := ([x2] : List Int)) Ts22 rfl (look_slice rfl (by first | rfl | (simp; done) | (simp; omega))) (H.own 1 rfl) (H.own 0 rfl).sl (fun _ => rfl) rfl rfl hg3 (by decide) fun A3 c3 w9 O2 M2 D2 => ?_)
                replace H : Hp w w9 [.own (some ⟨b4, 0, none⟩) ((([x2] : List Int)).length) 3 1 (List.map encN (([x2] : List Int))), .own A3 c3 3 1 (List.map encN ((l4 ++ ([x2] : List Int)))), .own Al1 cl1 3 1 (List.map encN l1), .own Al2 cl2 3 1 (List.map encN l2), .tab Am3 cm3 22 hsm3 3 1 (encM encN m3), .blk b1 25 [.slice A_a0_supply a0.supply.length c_a0_supply, .slice A_a0_demand a0.demand.length c_a0_demand, .slice A_a0_cost a0.cost.length c_a0_cost], .blk b2 25 [.slice none 0 0, .slice none 0 0, .slice none 0 0], .blk bk1 25 [.slice Al1 l1.length cl1, .slice Al2 l2.length cl2, .slice Am3 m3.length cm3]] := H.mod 1 rfl M2 O2 D2
                replace R0 := H.ext
                refine LW.pure rfl rfl (RV.assign rfl) ?_
                refine LW.nil (hK17 _ _ ?_)
                obtain ⟨hg4, F⟩ := gd_some F
                refine CW.region ?_
                refine LW.pure rfl rfl (RV.add rfl rfl hg4) ?_
                refine LW.pure rfl rfl (RV.move rfl) ?_
                refine LW.nil ?_
                replace H := H.pick (L' := [.own A3 c3 3 1 (List.map encN ((l4 ++ ([x2] : List Int)))), .own Al1 cl1 3 1 (List.map encN l1), .own Al2 cl2 3 1 (List.map encN l2), .tab Am3 cm3 22 hsm3 3 1 (encM encN m3), .blk b1 25 [.slice A_a0_supply a0.supply.length c_a0_supply, .slice A_a0_demand a0.demand.length c_a0_demand, .slice A_a0_cost a0.cost.length c_a0_cost], .blk b2 25 [.slice none 0 0, .slice none 0 0, .slice none 0 0], .blk bk1 25 [.slice Al1 l1.length cl1, .slice Al2 l2.length cl2, .slice Am3 m3.length cm3]]) [1, 2, 3, 4, 5, 6, 7] (by decide) rfl
                replace R0 := H.ext
                subst hrec2
                refine ⟨mk2, Nat.lt_succ_self _, _, ?_, (t31_1 + 1), ((l4 ++ ([x2] : List Int))), A3, c3, F, rfl, H⟩
                exact ⟨rfl, rfl, rfl, rfl, rfl, (look_slice rfl (by first | rfl | (simp; done) | (simp; omega))), rfl, rfl, rfl, rfl, trivial⟩
              ·
                replace F := ite_n hp3 F
                have hq3 := dec_f hp3
                refine CW.condF rfl hq3 ?_
                refine CW.exit (jK737 _ _ ⟨_, ?_, ⟨l4, Al4, cl4, F, rfl, H⟩⟩)
                exact ⟨rfl, rfl, rfl, rfl, (look_slice rfl (by first | rfl | (simp; done) | (simp; omega))), rfl, rfl, trivial⟩
        ·
          replace F := ite_n hp2 F
          have hq2 := dec_f hp2
          refine CW.condF rfl hq2 ?_
          replace H := H.pick (L' := [.own Al1 cl1 3 1 (List.map encN l1), .own Al2 cl2 3 1 (List.map encN l2), .tab Am3 cm3 22 hsm3 3 1 (encM encN m3), .blk b2 25 [.slice none 0 0, .slice none 0 0, .slice none 0 0], .blk bk1 25 [.slice Al1 l1.length cl1, .slice Al2 l2.length cl2, .slice Am3 m3.length cm3]]) [0, 1, 2, 4, 5] (by decide) rfl
          replace R0 := H.ext
          refine CW.exit (jK566 _ _ ⟨_, ?_, ⟨m3, hsm3, Am3, cm3, F, rfl, H⟩⟩)
          exact ⟨rfl, rfl, rfl, trivial⟩
    ·
      intro K19 hK19 jK751
      obtain ⟨r2, hr2, F⟩ := bnd_some F
      obtain ⟨r3, hr3, F⟩ := bnd_some F
      refine CW.draw [8] (fun _ => True) (.cons 0 1 (.cons 1 1 (.cons 3 1 (.cons 4 1 (.alt 2 (.alt 5 (.cons 6 1 (.cons 7 0 (.cons 8 0 .nil))) (.cons 7 0 (.cons 5 0 (.cons 6 1 (.cons 8 0 .nil))))) (.cons 7 0 (.cons 2 0 (.cons 5 0 (.cons 6 1 (.cons 8 0 .nil)))))))))) mixed (by kernel_rfl) fun w10 E2 => ?_
      replace H := H.grow E2
      replace R0 := H.ext
      refine DW.fix rfl rfl rfl (fun _ EQ => RV.fieldAddr Tf25_1 rfl) ?_
      refine DW.fix rfl rfl rfl (fun _ EQ => RV.load1 Tk22 rfl (((H.grow EQ).blk 1 rfl).cells.off 1) rfl) ?_
      refine DW.fix rfl rfl rfl (fun _ EQ => RV.fieldAddr Tf25_0 rfl) ?_
      refine DW.fix rfl rfl rfl (fun _ EQ => RV.load1 Tk22 rfl (((H.grow EQ).blk 1 rfl).cells.off 0) rfl) ?_
      refine DW.alt ?_ ?_
      ·
        refine DW.sole rfl rfl rfl (OW.call Tc83 rfl (slices_Clone_int_ok (a0 := a0.demand) (h_a0_demand.ext R0) hr2) ?_)
        rintro _ w11 ⟨A12_0, c12_0, rfl, E3⟩
        refine ⟨_, rfl, fun _ => E3.ext, ModX.ext E3.ext, ?_⟩
        replace H : Hp w w11 [.own A12_0 c12_0 3 1 (List.map encN r2), .blk b2 25 [.slice none 0 0, .slice none 0 0, .slice none 0 0], .blk b1 25 [.slice A_a0_supply a0.supply.length c_a0_supply, .slice A_a0_demand a0.demand.length c_a0_demand, .slice A_a0_cost a0.cost.length c_a0_cost]] := H.append E3
        replace R0 := H.ext
        refine DW.alt ?_ ?_
        ·
          refine DW.sole rfl rfl rfl (OW.call Tc83 rfl (slices_Clone_int_ok (a0 := a0.supply) (h_a0_supply.ext R0) hr3) ?_)
          rintro _ w12 ⟨A13_0, c13_0, rfl, E4⟩
          refine ⟨_, rfl, fun _ => E4.ext, ModX.ext E4.ext, ?_⟩
          replace H : Hp w w12 [.own A13_0 c13_0 3 1 (List.map encN r3), .own A12_0 c12_0 3 1 (List.map encN r2), .blk b2 25 [.slice none 0 0, .slice none 0 0, .slice none 0 0], .blk b1 25 [.slice A_a0_supply a0.supply.length c_a0_supply, .slice A_a0_demand a0.demand.length c_a0_demand, .slice A_a0_cost a0.cost.length c_a0_cost]] := H.append E4
          replace R0 := H.ext
          refine DW.fix rfl rfl rfl (fun _ EQ => RV.build (vs := [.slice A12_0 r2.length c12_0, .slice A13_0 r3.length c13_0]) (cs := [.slice A12_0 r2.length c12_0, .slice A13_0 r3.length c13_0, .slice none 0 0]) rfl (fun _ => by kernel_rfl)) ?_
          refine DW.sole rfl rfl rfl (OW.alloc Tz25 fun b5 w13 N5 => ?_)
          refine ⟨fun _ => N5.ext, ModX.ext N5.ext, ?_⟩
          replace H := H.new N5 N5.blk
          replace R0 := H.ext
          refine DW.sole rfl rfl rfl (OW.store Tk25 rfl rfl (H.blk 0 rfl) (off := 0) (vs := [.slice A12_0 r2.length c12_0, .slice A13_0 r3.length c13_0, .slice none 0 0]) rfl rfl rfl rfl rfl fun w14 S3 => ?_)
          refine ⟨fun h => absurd h (by decide), S3.modx trivial, ?_⟩
          replace H : Hp w w14 [.blk b5 25 [.slice A12_0 r2.length c12_0, .slice A13_0 r3.length c13_0, .slice none 0 0], .own A13_0 c13_0 3 1 (List.map encN r3), .own A12_0 c12_0 3 1 (List.map encN r2), .blk b2 25 [.slice none 0 0, .slice none 0 0, .slice none 0 0], .blk b1 25 [.slice A_a0_supply a0.supply.length c_a0_supply, .slice A_a0_demand a0.demand.length c_a0_demand, .slice A_a0_cost a0.cost.length c_a0_cost]] := H.stored 0 rfl S3
          replace R0 := H.ext
          replace H := H.pick (L' := [.own A12_0 c12_0 3 1 (List.map encN r2), .own A13_0 c13_0 3 1 (List.map encN r3), .blk b1 25 [.slice A_a0_supply a0.supply.length c_a0_supply, .slice A_a0_demand a0.demand.length c_a0_demand, .slice A_a0_cost a0.cost.length c_a0_cost], .blk b2 25 [.slice none 0 0, .slice none 0 0, .slice none 0 0], .blk b5 25 [.slice A12_0 r2.length c12_0, .slice A13_0 r3.length c13_0, .slice none 0 0]]) [2, 1, 4, 3, 0] (by decide) rfl
          replace R0 := H.ext
          refine DW.nil (jK751 _ _ ⟨_, ?_, ⟨r2, r3, b5, A12_0, c12_0, A13_0, c13_0, F, rfl, H⟩⟩)
          exact ⟨rfl, rfl, rfl, rfl, trivial⟩
        ·
          refine DW.sole rfl rfl rfl (OW.alloc Tz25 fun b6 w15 N6 => ?_)
          refine ⟨fun _ => N6.ext, ModX.ext N6.ext, ?_⟩
          replace H := H.new N6 N6.blk
          replace R0 := H.ext
          refine DW.sole rfl rfl rfl (OW.call Tc83 rfl (slices_Clone_int_ok (a0 := a0.supply) (h_a0_supply.ext R0) hr3) ?_)
          rintro _ w16 ⟨A14_0, c14_0, rfl, E5⟩
          refine ⟨_, rfl, fun _ => E5.ext, ModX.ext E5.ext, ?_⟩
          replace H : Hp w w16 [.own A14_0 c14_0 3 1 (List.map encN r3), .blk b6 25 [.slice none 0 0, .slice none 0 0, .slice none 0 0], .own A12_0 c12_0 3 1 (List.map encN r2), .blk b2 25 [.slice none 0 0, .slice none 0 0, .slice none 0 0], .blk b1 25 [.slice A_a0_supply a0.supply.length c_a0_supply, .slice A_a0_demand a0.demand.length c_a0_demand, .slice A_a0_cost a0.cost.length c_a0_cost]] := H.append E5
          replace R0 := H.ext
          refine DW.fix rfl rfl rfl (fun _ EQ => RV.build (vs := [.slice A12_0 r2.length c12_0, .slice A14_0 r3.length c14_0]) (cs := [.slice A12_0 r2.length c12_0, .slice A14_0 r3.length c14_0, .slice none 0 0]) rfl (fun _ => by kernel_rfl)) ?_
          refine DW.sole rfl rfl rfl (OW.store Tk25 rfl rfl (H.blk 1 rfl) (off := 0) (vs := [.slice A12_0 r2.length c12_0, .slice A14_0 r3.length c14_0, .slice none 0 0]) rfl rfl rfl rfl rfl fun w17 S4 => ?_)
          refine ⟨fun h => absurd h (by decide), S4.modx trivial, ?_⟩
          replace H : Hp w w17 [.own A14_0 c14_0 3 1 (List.map encN r3), .blk b6 25 [.slice A12_0 r2.length c12_0, .slice A14_0 r3.length c14_0, .slice none 0 0], .own A12_0 c12_0 3 1 (List.map encN r2), .blk b2 25 [.slice none 0 0, .slice none 0 0, .slice none 0 0], .blk b1 25 [.slice A_a0_supply a0.supply.length c_a0_supply, .slice A_a0_demand a0.demand.length c_a0_demand, .slice A_a0_cost a0.cost.length c_a0_cost]] := H.stored 1 rfl S4
          replace R0 := H.ext
          replace H := H.pick (L' := [.own A12_0 c12_0 3 1 (List.map encN r2), .own A14_0 c14_0 3 1 (List.map encN r3), .blk b1 25 [.slice A_a0_supply a0.supply.length c_a0_supply, .slice A_a0_demand a0.demand.length c_a0_demand, .slice A_a0_cost a0.cost.length c_a0_cost], .blk b2 25 [.slice none 0 0, .slice none 0 0, .slice none 0 0], .blk b6 25 [.slice A12_0 r2.length c12_0, .slice A14_0 r3.length c14_0, .slice none 0 0]]) [2, 0, 4, 3, 1] (by decide) rfl
          replace R0 := H.ext
          refine DW.nil (jK751 _ _ ⟨_, ?_, ⟨r2, r3, b6, A12_0, c12_0, A14_0, c14_0, F, rfl, H⟩⟩)
          exact ⟨rfl, rfl, rfl, rfl, trivial⟩
      ·
        refine DW.sole rfl rfl rfl (OW.alloc Tz25 fun b7 w18 N7 => ?_)
        refine ⟨fun _ => N7.ext, ModX.ext N7.ext, ?_⟩
        replace H := H.new N7 N7.blk
        replace R0 := H.ext
        refine DW.sole rfl rfl rfl (OW.call Tc83 rfl (slices_Clone_int_ok (a0 := a0.demand) (h_a0_demand.ext R0) hr2) ?_)
        rintro _ w19 ⟨A15_0, c15_0, rfl, E6⟩
        refine ⟨_, rfl, fun _ => E6.ext, ModX.ext E6.ext, ?_⟩
        replace H : Hp w w19 [.own A15_0 c15_0 3 1 (List.map encN r2), .blk b7 25 [.slice none 0 0, .slice none 0 0, .slice none 0 0], .blk b2 25 [.slice none 0 0, .slice none 0 0, .slice none 0 0], .blk b1 25 [.slice A_a0_supply a0.supply.length c_a0_supply, .slice A_a0_demand a0.demand.length c_a0_demand, .slice A_a0_cost a0.cost.length c_a0_cost]] := H.append E6
        replace R0 := H.ext
        refine DW.sole rfl rfl rfl (OW.call Tc83 rfl (slices_Clone_int_ok (a0 := a0.supply) (h_a0_supply.ext R0) hr3) ?_)
        rintro _ w20 ⟨A16_0, c16_0, rfl, E7⟩
        refine ⟨_, rfl, fun _ => E7.ext, ModX.ext E7.ext, ?_⟩
        replace H : Hp w w20 [.own A16_0 c16_0 3 1 (List.map encN r3), .own A15_0 c15_0 3 1 (List.map encN r2), .blk b7 25 [.slice none 0 0, .slice none 0 0, .slice none 0 0], .blk b2 25 [.slice none 0 0, .slice none 0 0, .slice none 0 0], .blk b1 25 [.slice A_a0_supply a0.supply.length c_a0_supply, .slice A_a0_demand a0.demand.length c_a0_demand, .slice A_a0_cost a0.cost.length c_a0_cost]] := H.append E7
        replace R0 := H.ext
        refine DW.fix rfl rfl rfl (fun _ EQ => RV.build (vs := [.slice A15_0 r2.length c15_0, .slice A16_0 r3.length c16_0]) (cs := [.slice A15_0 r2.length c15_0, .slice A16_0 r3.length c16_0, .slice none 0 0]) rfl (fun _ => by kernel_rfl)) ?_
        refine DW.sole rfl rfl rfl (OW.store Tk25 rfl rfl (H.blk 2 rfl) (off := 0) (vs := [.slice A15_0 r2.length c15_0, .slice A16_0 r3.length c16_0, .slice none 0 0]) rfl rfl rfl rfl rfl fun w21 S5 => ?_)
        refine ⟨fun h => absurd h (by decide), S5.modx trivial, ?_⟩
        replace H : Hp w w21 [.own A16_0 c16_0 3 1 (List.map encN r3), .own A15_0 c15_0 3 1 (List.map encN r2), .blk b7 25 [.slice A15_0 r2.length c15_0, .slice A16_0 r3.length c16_0, .slice none 0 0], .blk b2 25 [.slice none 0 0, .slice none 0 0, .slice none 0 0], .blk b1 25 [.slice A_a0_supply a0.supply.length c_a0_supply, .slice A_a0_demand a0.demand.length c_a0_demand, .slice A_a0_cost a0.cost.length c_a0_cost]] := H.stored 2 rfl S5
        replace R0 := H.ext
        replace H := H.pick (L' := [.own A15_0 c15_0 3 1 (List.map encN r2), .own A16_0 c16_0 3 1 (List.map encN r3), .blk b1 25 [.slice A_a0_supply a0.supply.length c_a0_supply, .slice A_a0_demand a0.demand.length c_a0_demand, .slice A_a0_cost a0.cost.length c_a0_cost], .blk b2 25 [.slice none 0 0, .slice none 0 0, .slice none 0 0], .blk b7 25 [.slice A15_0 r2.length c15_0, .slice A16_0 r3.length c16_0, .slice none 0 0]]) [1, 0, 4, 3, 2] (by decide) rfl
        replace R0 := H.ext
        refine DW.nil (jK751 _ _ ⟨_, ?_, ⟨r2, r3, b7, A15_0, c15_0, A16_0, c16_0, F, rfl, H⟩⟩)
        exact ⟨rfl, rfl, rfl, rfl, trivial⟩
  ·
    replace F := ite_n hp1 F
    have hq1 := dec_f hp1
    refine CW.condT rfl (not_t hq1) ?_
    refine CW.seq fun K20 hK20 => ?_
    refine CW.region ?_
    refine LW.pure rfl rfl (RV.build (vs := []) (cs := [.slice none 0 0, .slice none 0 0, .slice none 0 0]) rfl (fun _ => by kernel_rfl)) ?_
    refine LW.pure rfl rfl (RV.move rfl) ?_
    refine LW.go rfl rfl (OW.store Tk25 rfl rfl (H.blk 0 rfl) (off := 0) (vs := [.slice none 0 0, .slice none 0 0, .slice none 0 0]) rfl rfl rfl rfl rfl fun w22 S6 => ?_)
    replace H : Hp w w22 [.blk b2 25 [.slice none 0 0, .slice none 0 0, .slice none 0 0], .blk b1 25 [.slice A_a0_supply a0.supply.length c_a0_supply, .slice A_a0_demand a0.demand.length c_a0_demand, .slice A_a0_cost a0.cost.length c_a0_cost]] := H.stored 0 rfl S6
    replace R0 := H.ext
    refine LW.pure rfl rfl (RV.assign rfl) ?_
    refine LW.nil (hK20 _ _ ?_)
    refine CW.ret ?_
    obtain rfl := Option.some.inj F
    refine ⟨_, (ResOK.two ⟨_, rfl, run_loadVar_agg Tk25 (H.blk 0 rfl).cells (us := [.slice none 0 0, .slice none 0 0, .slice none 0 0]) rfl rfl⟩ rfl), ?_⟩
    replace H := H.nilOwn 3 1
    replace R0 := H.ext
    replace H := H.nilOwn 3 1
    replace R0 := H.ext
    replace H := H.nilTab encN 22 3 1
    replace R0 := H.ext
    replace H := H.pick (L' := [.own none 0 3 1 (List.map encN (([] : List Int))), .own none 0 3 1 (List.map encN (([] : List Int))), .tab none 0 22 ([]) 3 1 (encM encN (([] : List (List Int))))]) [2, 1, 0] (by decide) rfl
    replace R0 := H.ext
    exact ⟨none, 0, none, 0, none, 0, ([]), (by first | rfl | (simp; done) | (simp; omega)), H⟩
set_option maxRecDepth 20000 in
set_option maxHeartbeats 1000000 in
theorem ref07_Turned_ok {a0 : List (List Int)} {A_a0 : Option Addr} {c_a0 : Nat} {w : World} {res : (List (List Int))} (h_a0 : Sl2 w A_a0 c_a0 1 encN a0) (F : ref07_Turned a0 = some res) : Calls Try.prog 49 #[.slice A_a0 a0.length c_a0] w (fun e w' => ∃ (A1 : Option Addr) (c1 : Nat) (hs0 : List (Option Addr × Nat)), e = .returned (.slice A1 res.length c1) ∧ Hp w w' [.tab A1 c1 22 hs0 3 1 (encM encN res)]) := by
  refine calls_of_cw (args := [.slice A_a0 a0.length c_a0]) Try.func49 rfl rfl rfl rfl ?_
  have H := Hp.start w
  have R0 := H.ext
  unfold ref07_Turned at F
  refine CW.seq fun K1 hK1 => ?_
  refine CW.region ?_
  refine LW.pure rfl rfl (RV.assign rfl) ?_
  refine LW.nil (hK1 _ _ ?_)
  refine CW.seq fun K2 hK2 => ?_
  refine CW.region ?_
  refine LW.pure rfl rfl (RV.assign rfl) ?_
  refine LW.nil (hK2 _ _ ?_)
  refine CW.seqJ (fun ρ wl1 => (∃ (m1 : List (List Int)) (hsm1 : List (Option Addr × Nat)) (Am1 : Option Addr) (cm1 : Nat), ref07_Turned_k1 m1 = some res ∧ ρ = [(2, .slice none 0 0), (3, .slice Am1 m1.length cm1)] ∧ Hp w wl1 [.tab Am1 cm1 22 hsm1 3 1 (encM encN m1)])) ?_ ?_
  ·
    rintro _ wl1 ⟨m1, hsm1, Am1, cm1, F, rfl, H⟩
    have R0 := H.ext
    unfold ref07_Turned_k1 at F
    refine CW.seq fun K3 hK3 => ?_
    refine CW.region ?_
    refine LW.pure rfl rfl (RV.move rfl) ?_
    refine LW.pure rfl rfl (RV.assign rfl) ?_
    refine LW.nil (hK3 _ _ ?_)
    refine CW.ret ?_
    obtain rfl := Option.some.inj F
    refine ⟨_, (ResOK.one rfl), ?_⟩
    exact ⟨Am1, cm1, hsm1, (by first | rfl | (simp; done) | (simp; omega)), H⟩
  ·
    intro K4 hK4 jK434
    refine CW.seq fun K5 hK5 => ?_
    refine CW.region ?_
    refine LW.pure rfl rfl (RV.assign rfl) ?_
    refine LW.nil (hK5 _ _ ?_)
    refine CW.block ?_
    replace H := H.nilTab encN 22 3 1
    replace R0 := H.ext
    refine CW.loop (fun meas ρ wl2 => ∃ (t4_1 : Int) (m3 : List (List Int)) (hsm3 : List (Option Addr × Nat)) (Am3 : Option Addr) (cm3 : Nat), ref07_Turned_L2 a0 meas t4_1 m3 = some res ∧ ρ = [(0, .slice A_a0 a0.length c_a0), (2, .slice none 0 0), (3, .slice Am3 m3.length cm3), (4, .int .i64 t4_1)] ∧ Hp w wl2 [.tab Am3 cm3 22 hsm3 3 1 (encM encN m3)]) FU ⟨_, ?_, ((0 : Int)), (([] : List (List Int))), ([]), none, 0, F, rfl, H⟩ ?_
    · exact ⟨rfl, rfl, (look_slice rfl (by first | rfl | (simp; done) | (simp; omega))), rfl, trivial⟩
    rintro mk1 _ wl2 ⟨t4_1, m3, hsm3, Am3, cm3, F, rfl, H⟩
    have R0 := H.ext
    replace F := ref07_Turned_L2_s F
    obtain ⟨mk1, rfl, F⟩ := F
    generalize hrec1 : ref07_Turned_L2 a0 mk1 = rec1 at F
    unfold ref07_Turned_B2 at F
    refine CW.seq fun K6 hK6 => ?_
    refine CW.seqJ (fun ρ wl3 => (∃ (t17_1 : Bool), ref07_Turned_k4 a0 t4_1 m3 rec1 t17_1 = some res ∧ ρ = [(0, .slice A_a0 a0.length c_a0), (2, .slice none 0 0), (3, .slice Am3 m3.length cm3), (4, .int .i64 t4_1), (17, .bool t17_1)] ∧ Hp w wl3 [.tab Am3 cm3 22 hsm3 3 1 (encM encN m3)])) ?_ ?_
    ·
      rintro _ wl3 ⟨t17_1, F, rfl, H⟩
      have R0 := H.ext
      unfold ref07_Turned_k4 at F
      by_cases hp1 : t17_1 = true
      ·
        replace F := ite_y hp1 F
        have hq1 : t17_1 = true := hp1
        refine CW.condT rfl hq1 ?_
        refine CW.skip (hK6 _ _ ?_)
        refine CW.seqJ (fun ρ wl4 => (∃ (m2 : List (List Int)) (hsm2 : List (Option Addr × Nat)) (Am2 : Option Addr) (cm2 : Nat), ref07_Turned_k2 t4_1 rec1 m2 = some res ∧ ρ = [(0, .slice A_a0 a0.length c_a0), (2, .slice none 0 0), (3, .slice Am2 m2.length cm2), (4, .int .i64 t4_1)] ∧ Hp w wl4 [.tab Am2 cm2 22 hsm2 3 1 (encM encN m2)])) ?_ ?_
        ·
          rintro _ wl4 ⟨m2, hsm2, Am2, cm2, F, rfl, H⟩
          have R0 := H.ext
          unfold ref07_Turned_k2 at F
          obtain ⟨hg1, F⟩ := gd_some F
          refine CW.region ?_
          refine LW.pure rfl rfl (RV.move rfl) ?_
          refine LW.pure rfl rfl (RV.add rfl rfl hg1) ?_
          refine LW.pure rfl rfl (RV.assign rfl) ?_
          refine LW.nil ?_
          subst hrec1
          refine ⟨mk1, Nat.lt_succ_self _, _, ?_, (t4_1 + 1), m2, hsm2, Am2, cm2, F, rfl, H⟩
          exact ⟨rfl, rfl, (look_slice rfl (by first | rfl | (simp; done) | (simp; omega))), rfl, trivial⟩
        ·
          intro K7 hK7 jK553
          refine CW.block ?_
          refine CW.seq fun K8 hK8 => ?_
          refine CW.region ?_
          refine LW.pure rfl rfl (RV.assign rfl) ?_
          refine LW.nil (hK8 _ _ ?_)
          refine CW.seqJ (fun ρ wl5 => (∃ (l1 : List Int) (Al1 : Option Addr) (cl1 : Nat), ref07_Turned_k3 t4_1 m3 rec1 l1 = some res ∧ ρ = [(0, .slice A_a0 a0.length c_a0), (2, .slice none 0 0), (3, .slice Am3 m3.length cm3), (4, .int .i64 t4_1), (5, .slice Al1 l1.length cl1)] ∧ Hp w wl5 [.tab Am3 cm3 22 hsm3 3 1 (encM encN m3), .own Al1 cl1 3 1 (List.map encN l1)])) ?_ ?_
          ·
            rintro _ wl5 ⟨l1, Al1, cl1, F, rfl, H⟩
            have R0 := H.ext
            unfold ref07_Turned_k3 at F
            obtain ⟨hg2, F⟩ := gd_some F
            refine CW.region ?_
            refine LW.pure rfl rfl (RV.move rfl) ?_
            refine LW.pure rfl rfl (RV.move rfl) ?_
            refine LW.go rfl rfl (OW.buildSlice (e := 22) (vs := [.slice Al1 l1.length cl1]) (cs := [.slice Al1 l1.length cl1]) rfl (fun _ => by kernel_rfl) fun b1 w1 N1 => ?_)
            replace H := H.made' (k := 1) (t := 22) (enc := encH) (l := ([((Al1, cl1), List.map encN l1)] : List ((Option Addr × Nat) × List (List Value)))) N1 (by have q := N1.blk; simp only [List.flatMap_cons, List.flatMap_nil, encH, List.length_map, List.append_nil, List.cons_append, List.nil_append]; first | done | exact q) (fun _ => rfl) rfl (by first | decide | omega | (simp; done) | (simp; omega))
            replace R0 := H.ext
            refine LW.go rfl rfl (OW.appendT (enc := encN) (m := m3) (l := l1) Ts23 rfl rfl (H.tab 1 rfl) (H.own 0 rfl).sl rfl hg2 (by decide) fun A2 c2 w2 O1 M1 D1 => ?_)
            replace H : Hp w w2 [.own (some ⟨b1, 0, none⟩) ((([((Al1, cl1), List.map encN l1)] : List ((Option Addr × Nat) × List (List Value)))).length) 22 1 (List.map encH (([((Al1, cl1), List.map encN l1)] : List ((Option Addr × Nat) × List (List Value))))), .tab A2 c2 22 ((hsm3 ++ [(Al1, cl1)])) 3 1 (encM encN ((m3 ++ [l1])))] := H.tabPush 1 2 (by decide) rfl rfl M1 D1 O1
            replace R0 := H.ext
            refine LW.pure rfl rfl (RV.assign rfl) ?_
            replace H := H.pick (L' := [.tab A2 c2 22 ((hsm3 ++ [(Al1, cl1)])) 3 1 (encM encN ((m3 ++ [l1])))]) [1] (by decide) rfl
            replace R0 := H.ext
            refine LW.nil (jK553 _ _ ⟨_, ?_, ⟨((m3 ++ [l1])), ((hsm3 ++ [(Al1, cl1)])), A2, c2, F, rfl, H⟩⟩)
            exact ⟨rfl, rfl, (look_slice rfl (by first | rfl | (simp; done) | (simp; omega))), rfl, trivial⟩
          ·
            intro K9 hK9 jK565
            refine CW.seq fun K10 hK10 => ?_
            refine CW.region ?_
            refine LW.pure rfl rfl (RV.assign rfl) ?_
            refine LW.nil (hK10 _ _ ?_)
            refine CW.block ?_
            replace H := H.nilOwn 3 1
            replace R0 := H.ext
            replace H := H.pick (L' := [.tab Am3 cm3 22 hsm3 3 1 (encM encN m3), .own none 0 3 1 (List.map encN (([] : List Int)))]) [1, 0] (by decide) rfl
            replace R0 := H.ext
            refine CW.loop (fun meas ρ wl6 => ∃ (t6_1 : Int) (l2 : List Int) (Al2 : Option Addr) (cl2 : Nat), ref07_Turned_L1 a0 t4_1 m3 rec1 meas t6_1 l2 = some res ∧ ρ = [(0, .slice A_a0 a0.length c_a0), (2, .slice none 0 0), (3, .slice Am3 m3.length cm3), (4, .int .i64 t4_1), (5, .slice Al2 l2.length cl2), (6, .int .i64 t6_1)] ∧ Hp w wl6 [.tab Am3 cm3 22 hsm3 3 1 (encM encN m3), .own Al2 cl2 3 1 (List.map encN l2)]) FU ⟨_, ?_, ((0 : Int)), (([] : List Int)), none, 0, F, rfl, H⟩ ?_
            · exact ⟨rfl, rfl, (look_slice rfl (by first | rfl | (simp; done) | (simp; omega))), rfl, (look_slice rfl (by first | rfl | (simp; done) | (simp; omega))), rfl, trivial⟩
            rintro mk2 _ wl6 ⟨t6_1, l2, Al2, cl2, F, rfl, H⟩
            have R0 := H.ext
            replace F := ref07_Turned_L1_s F
            obtain ⟨mk2, rfl, F⟩ := F
            generalize hrec2 : ref07_Turned_L1 a0 t4_1 m3 rec1 mk2 = rec2 at F
            unfold ref07_Turned_B1 at F
            refine CW.seq fun K11 hK11 => ?_
            refine CW.seq fun K12 hK12 => ?_
            refine CW.region ?_
            refine LW.pure rfl rfl (RV.move rfl) ?_
            refine LW.pure rfl rfl (RV.move rfl) ?_
            refine LW.pure rfl rfl (RV.len Ts23 rfl) ?_
            refine LW.pure rfl rfl (RV.lss rfl rfl) ?_
            refine LW.nil (hK12 _ _ ?_)
            by_cases hp2 : t6_1 < ((a0.length : Int))
            ·
              replace F := ite_y hp2 F
              have hq2 := dec_t hp2
              refine CW.condT rfl hq2 ?_
              refine CW.skip (hK11 _ _ ?_)
              refine CW.seq fun K13 hK13 => ?_
              refine CW.block ?_
              obtain ⟨x1, hbx1, hx1, F⟩ := ix_some F
              obtain ⟨x2, hbx2, hx2, F⟩ := ix_some F
              obtain ⟨hg3, F⟩ := gd_some F
              refine CW.region ?_
              refine LW.pure rfl rfl (RV.move rfl) ?_
              refine LW.pure rfl rfl (RV.move rfl) ?_
              refine LW.pure rfl rfl (RV.move rfl) ?_
              obtain ⟨A3, c3, hC1, hS1⟩ := h_a0.at_ hx1
              refine LW.pure rfl rfl (RV.indexAddr Ts23 rfl rfl hbx1 (h_a0.addr hbx1)) ?_
              refine LW.pure rfl rfl (RV.load1 Tk22 rfl (hC1.ext R0) rfl) ?_
              refine LW.pure rfl rfl (RV.move rfl) ?_
              refine LW.pure rfl rfl (RV.indexAddr Ts22 rfl rfl hbx2 (hS1.addr_ hx2)) ?_
              refine LW.pure rfl rfl (RV.load1 Tk3 rfl ((hS1.at_ hx2).ext R0) rfl) ?_
              refine LW.go rfl rfl (OW.buildSlice (e := 3) (vs := [.int .i64 x2]) (cs := [.int .i64 x2]) rfl (fun _ => by kernel_rfl) fun b2 w3 N2 => ?_)
              replace H := H.made' (k := 1) (t := 3) (enc := encN) (l := ([x2] : List Int)) N2 N2.blk (fun _ => rfl) rfl (by first | decide | omega | (simp; done) | (simp; omega))
              replace R0 := H.ext
              refine LW.go rfl rfl (OW.appendG (enc := encN) (l := l2) (xs := ([x2] : List Int)) Ts22 rfl (look_slice rfl (by first | rfl | (simp; done) | (simp; omega))) (H.own 2 rfl) (H.own 0 rfl).sl (fun _ => rfl) rfl rfl hg3 (by decide) fun A4 c4 w4 O2 M2 D2 => ?_)
              replace H : Hp w w4 [.own (some ⟨b2, 0, none⟩) ((([x2] : List Int)).length) 3 1 (List.map encN (([x2] : List Int))), .tab Am3 cm3 22 hsm3 3 1 (encM encN m3), .own A4 c4 3 1 (List.map encN ((l2 ++ ([x2] : List Int))))] := H.mod 2 rfl M2 O2 D2
              replace R0 := H.ext
              refine LW.pure rfl rfl (RV.assign rfl) ?_
              refine LW.nil (hK13 _ _ ?_)
              obtain ⟨hg4, F⟩ := gd_some F
              refine CW.region ?_
              refine LW.pure rfl rfl (RV.move rfl) ?_
              refine LW.pure rfl rfl (RV.add rfl rfl hg4) ?_
              refine LW.pure rfl rfl (RV.assign rfl) ?_
              refine LW.nil ?_
              replace H := H.pick (L' := [.tab Am3 cm3 22 hsm3 3 1 (encM encN m3), .own A4 c4 3 1 (List.map encN ((l2 ++ ([x2] : List Int))))]) [1, 2] (by decide) rfl
              replace R0 := H.ext
              subst hrec2
              refine ⟨mk2, Nat.lt_succ_self _, _, ?_, (t6_1 + 1), ((l2 ++ ([x2] : List Int))), A4, c4, F, rfl, H⟩
              exact ⟨rfl, rfl, (look_slice rfl (by first | rfl | (simp; done) | (simp; omega))), rfl, (look_slice rfl (by first | rfl | (simp; done) | (simp; omega))), rfl, trivial⟩
            ·
              replace F := ite_n hp2 F
              have hq2 := dec_f hp2
              refine CW.condF rfl hq2 ?_
              refine CW.exit (jK565 _ _ ⟨_, ?_, ⟨l2, Al2, cl2, F, rfl, H⟩⟩)
              exact ⟨rfl, rfl, (look_slice rfl (by first | rfl | (simp; done) | (simp; omega))), rfl, (look_slice rfl (by first | rfl | (simp; done) | (simp; omega))), trivial⟩
      ·
        replace F := ite_n hp1 F
        have hq1 : t17_1 = false := raw_f hp1
        refine CW.condF rfl hq1 ?_
        refine CW.exit (jK434 _ _ ⟨_, ?_, ⟨m3, hsm3, Am3, cm3, F, rfl, H⟩⟩)
        exact ⟨rfl, (look_slice rfl (by first | rfl | (simp; done) | (simp; omega))), trivial⟩
    ·
      intro K14 hK14 jK576
      by_cases hp3 : (0 : Int) < ((a0.length : Int))
      ·
        replace F := ite_y hp3 F
        have hq3 := dec_t hp3
        obtain ⟨x3, hbx3, hx3, F⟩ := ix_some F
        refine CW.region ?_
        refine LW.pure rfl rfl (RV.move rfl) ?_
        refine LW.pure rfl rfl (RV.len Ts23 rfl) ?_
        refine LW.pure rfl rfl (RV.gtr rfl rfl) ?_
        refine LW.pure rfl rfl (RV.move rfl) ?_
        refine LW.pureYB rfl rfl rfl rfl hq3 (RV.move rfl) ?_
        refine LW.pureYB rfl rfl rfl rfl hq3 (RV.move rfl) ?_
        obtain ⟨A5, c5, hC2, hS2⟩ := h_a0.at_ hx3
        refine LW.pureYB rfl rfl rfl rfl hq3 (RV.indexAddr Ts23 rfl rfl hbx3 (h_a0.addr hbx3)) ?_
        refine LW.pureYB rfl rfl rfl rfl hq3 (RV.load1 Tk22 rfl (hC2.ext R0) rfl) ?_
        refine LW.pureYB rfl rfl rfl rfl hq3 (RV.len Ts22 rfl) ?_
        refine LW.pureYB rfl rfl rfl rfl hq3 (RV.lss rfl rfl) ?_
        refine LW.pure rfl rfl (RV.pickTB rfl hq3 rfl) ?_
        refine LW.nil (jK576 _ _ ⟨_, ?_, ⟨(decide (t4_1 < ((x3.length : Int)))), F, rfl, H⟩⟩)
        exact ⟨rfl, rfl, (look_slice rfl (by first | rfl | (simp; done) | (simp; omega))), rfl, rfl, trivial⟩
      ·
        replace F := ite_n hp3 F
        have hq3 := dec_f hp3
        refine CW.region ?_
        refine LW.pure rfl rfl (RV.move rfl) ?_
        refine LW.pure rfl rfl (RV.len Ts23 rfl) ?_
        refine LW.pure rfl rfl (RV.gtr rfl rfl) ?_
        refine LW.pure rfl rfl (RV.move rfl) ?_
        refine LW.noB rfl rfl rfl rfl (ne_beq (v := false) hq3 rfl) ?_
        refine LW.noB rfl rfl rfl rfl (ne_beq (v := false) hq3 rfl) ?_
        refine LW.noB rfl rfl rfl rfl (ne_beq (v := false) hq3 rfl) ?_
        refine LW.noB rfl rfl rfl rfl (ne_beq (v := false) hq3 rfl) ?_
        refine LW.noB rfl rfl rfl rfl (ne_beq (v := false) hq3 rfl) ?_
        refine LW.noB rfl rfl rfl rfl (ne_beq (v := false) hq3 rfl) ?_
        refine LW.pure rfl rfl (RV.pickFB rfl hq3 rfl) ?_
        refine LW.nil (jK576 _ _ ⟨_, ?_, ⟨false, F, rfl, H⟩⟩)
        exact ⟨rfl, rfl, (look_slice rfl (by first | rfl | (simp; done) | (simp; omega))), rfl, rfl, trivial⟩
end Go.D7
