/- Lemmas and walks that the proof of this claim uses: D7m8, D7m9, D7m12, D7m13, Tb22, D7p1, D7p2, D7p3. -/
import Derived.Test.YtmmefcihahcchaaBulkSquares3
set_option linter.unusedVariables false
set_option linter.unusedSimpArgs false
namespace Go.D7
open Go.Tb Go.Proofs Go.RowKit
theorem Tc34 : callable Try.prog 34 = true := by kernel_rfl
theorem Tc39 : callable Try.prog 39 = true := by kernel_rfl
theorem Tc58 : callable Try.prog 58 = true := by kernel_rfl
theorem Tc76 : callable Try.prog 76 = true := by kernel_rfl
theorem Tc77 : callable Try.prog 77 = true := by kernel_rfl
theorem Tc78 : callable Try.prog 78 = true := by kernel_rfl
set_option maxRecDepth 20000 in
set_option maxHeartbeats 1000000 in
theorem ref07_within_ok {a0 : Int} {a1 : Int} {a2 : Int} {w : World} {res : Bool} (F : ref07_within a0 a1 a2 = some res) : Calls Try.prog 58 #[.int .i64 a0, .int .i64 a1, .int .i64 a2] w (Rt w (.bool res)) := by
  refine calls_of_cw (args := [.int .i64 a0, .int .i64 a1, .int .i64 a2]) Try.func58 rfl rfl rfl rfl ?_
  have H := Hp.start w
  have R0 := H.ext
  unfold ref07_within at F
  refine CW.seq fun K1 hK1 => ?_
  refine CW.region ?_
  refine LW.pure rfl rfl (RV.assign rfl) ?_
  refine LW.nil (hK1 _ _ ?_)
  refine CW.seq fun K2 hK2 => ?_
  by_cases hp1 : a1 ≤ a0
  ·
    replace F := ite_y hp1 F
    have hq1 := dec_t hp1
    refine CW.region ?_
    refine LW.pure rfl rfl (RV.move rfl) ?_
    refine LW.pure rfl rfl (RV.move rfl) ?_
    refine LW.pure rfl rfl (RV.geq rfl rfl) ?_
    refine LW.pure rfl rfl (RV.move rfl) ?_
    refine LW.pureYB rfl rfl rfl rfl hq1 (RV.move rfl) ?_
    refine LW.pureYB rfl rfl rfl rfl hq1 (RV.move rfl) ?_
    refine LW.pureYB rfl rfl rfl rfl hq1 (RV.leq rfl rfl) ?_
    refine LW.pure rfl rfl (RV.pickTB rfl hq1 rfl) ?_
    refine LW.pure rfl rfl (RV.assign rfl) ?_
    refine LW.nil (hK2 _ _ ?_)
    refine CW.ret ?_
    obtain rfl := Option.some.inj F
    refine ⟨_, (ResOK.one rfl), ?_⟩
    refine ⟨(by first | rfl | simp), R0⟩
  ·
    replace F := ite_n hp1 F
    have hq1 := dec_f hp1
    refine CW.region ?_
    refine LW.pure rfl rfl (RV.move rfl) ?_
    refine LW.pure rfl rfl (RV.move rfl) ?_
    refine LW.pure rfl rfl (RV.geq rfl rfl) ?_
    refine LW.pure rfl rfl (RV.move rfl) ?_
    refine LW.noB rfl rfl rfl rfl (ne_beq (v := false) hq1 rfl) ?_
    refine LW.noB rfl rfl rfl rfl (ne_beq (v := false) hq1 rfl) ?_
    refine LW.noB rfl rfl rfl rfl (ne_beq (v := false) hq1 rfl) ?_
    refine LW.pure rfl rfl (RV.pickFB rfl hq1 rfl) ?_
    refine LW.pure rfl rfl (RV.assign rfl) ?_
    refine LW.nil (hK2 _ _ ?_)
    refine CW.ret ?_
    obtain rfl := Option.some.inj F
    refine ⟨_, (ResOK.one rfl), ?_⟩
    refine ⟨(by first | rfl | simp), R0⟩
set_option maxRecDepth 20000 in
set_option maxHeartbeats 1000000 in
theorem ref07_amounts_ok {a0 : List Int} {A_a0 : Option Addr} {c_a0 : Nat} {w : World} {res : Bool} (h_a0 : Sl w A_a0 c_a0 1 (a0.map encN)) (F : ref07_amounts a0 = some res) : Calls Try.prog 76 #[.slice A_a0 a0.length c_a0] w (Rt w (.bool res)) := by
  refine calls_of_cw (args := [.slice A_a0 a0.length c_a0]) Try.func76 rfl rfl rfl rfl ?_
  have H := Hp.start w
  have R0 := H.ext
  unfold ref07_amounts at F
  refine CW.seq fun K1 hK1 => ?_
  refine CW.region ?_
  refine LW.pure rfl rfl (RV.assign rfl) ?_
  refine LW.nil (hK1 _ _ ?_)
  refine CW.seqJ (fun ρ wl1 => (ref07_amounts_k1 a0 = some res ∧ ρ = [(0, .slice A_a0 a0.length c_a0), (2, .bool false)] ∧ Hp w wl1 [])) ?_ ?_
  ·
    rintro _ wl1 ⟨F, rfl, H⟩
    have R0 := H.ext
    unfold ref07_amounts_k1 at F
    refine CW.seq fun K2 hK2 => ?_
    obtain ⟨r1, hr1, F⟩ := bnd_some F
    refine CW.region ?_
    refine LW.pure rfl rfl (RV.move rfl) ?_
    refine LW.pure rfl rfl (RV.len Ts22 rfl) ?_
    refine LW.go rfl rfl (OW.call Tc58 rfl (ref07_within_ok (a0 := (a0.length : Int)) (a1 := (1 : Int)) (a2 := (4 : Int)) hr1) ?_)
    rintro _ w1 ⟨rfl, E1⟩
    refine ⟨_, rfl, ?_⟩
    replace H := H.grow E1
    replace R0 := H.ext
    refine LW.pure rfl rfl (RV.assign rfl) ?_
    refine LW.nil (hK2 _ _ ?_)
    refine CW.ret ?_
    obtain rfl := Option.some.inj F
    refine ⟨_, (ResOK.one rfl), ?_⟩
    refine ⟨(by first | rfl | simp), R0⟩
  ·
    intro K3 hK3 jK54
    refine CW.seq fun K4 hK4 => ?_
    refine CW.region ?_
    refine LW.pure rfl rfl (RV.assign rfl) ?_
    refine LW.nil (hK4 _ _ ?_)
    refine CW.block ?_
    refine CW.loop (fun meas ρ wl2 => ∃ (t3_1 : Int), ref07_amounts_L1 a0 meas t3_1 = some res ∧ ρ = [(0, .slice A_a0 a0.length c_a0), (2, .bool false), (3, .int .i64 t3_1)] ∧ Hp w wl2 []) FU ⟨_, ?_, ((0 : Int)), F, rfl, H⟩ ?_
    · exact ⟨rfl, rfl, rfl, trivial⟩
    rintro mk1 _ wl2 ⟨t3_1, F, rfl, H⟩
    have R0 := H.ext
    replace F := ref07_amounts_L1_s F
    obtain ⟨mk1, rfl, F⟩ := F
    generalize hrec1 : ref07_amounts_L1 a0 mk1 = rec1 at F
    unfold ref07_amounts_B1 at F
    refine CW.seq fun K5 hK5 => ?_
    refine CW.seq fun K6 hK6 => ?_
    refine CW.region ?_
    refine LW.pure rfl rfl (RV.move rfl) ?_
    refine LW.pure rfl rfl (RV.move rfl) ?_
    refine LW.pure rfl rfl (RV.len Ts22 rfl) ?_
    refine LW.pure rfl rfl (RV.lss rfl rfl) ?_
    refine LW.nil (hK6 _ _ ?_)
    by_cases hp1 : t3_1 < ((a0.length : Int))
    ·
      replace F := ite_y hp1 F
      have hq1 := dec_t hp1
      refine CW.condT rfl hq1 ?_
      refine CW.skip (hK5 _ _ ?_)
      refine CW.seq fun K7 hK7 => ?_
      refine CW.block ?_
      refine CW.seq fun K8 hK8 => ?_
      obtain ⟨x1, hbx1, hx1, F⟩ := ix_some F
      obtain ⟨r2, hr2, F⟩ := bnd_some F
      refine CW.region ?_
      refine LW.pure rfl rfl (RV.move rfl) ?_
      refine LW.pure rfl rfl (RV.move rfl) ?_
      refine LW.pure rfl rfl (RV.indexAddr Ts22 rfl rfl hbx1 (h_a0.addr_ hx1)) ?_
      refine LW.pure rfl rfl (RV.load1 Tk3 rfl ((h_a0.at_ hx1).ext R0) rfl) ?_
      refine LW.go rfl rfl (OW.call Tc58 rfl (ref07_within_ok (a0 := x1) (a1 := (0 : Int)) (a2 := (30 : Int)) hr2) ?_)
      rintro _ w2 ⟨rfl, E2⟩
      refine ⟨_, rfl, ?_⟩
      replace H := H.grow E2
      replace R0 := H.ext
      refine LW.pure rfl rfl (RV.not rfl) ?_
      refine LW.nil (hK8 _ _ ?_)
      by_cases hp2 : r2 = true
      ·
        replace F := ite_y hp2 F
        have hq2 : r2 = true := hp2
        refine CW.condF rfl (not_f hq2) ?_
        refine CW.skip (hK7 _ _ ?_)
        obtain ⟨hg1, F⟩ := gd_some F
        refine CW.region ?_
        refine LW.pure rfl rfl (RV.move rfl) ?_
        refine LW.pure rfl rfl (RV.add rfl rfl hg1) ?_
        refine LW.pure rfl rfl (RV.assign rfl) ?_
        refine LW.nil ?_
        subst hrec1
        refine ⟨mk1, Nat.lt_succ_self _, _, ?_, (t3_1 + 1), F, rfl, H⟩
        exact ⟨rfl, rfl, rfl, trivial⟩
      ·
        replace F := ite_n hp2 F
        have hq2 : r2 = false := raw_f hp2
        refine CW.condT rfl (not_t hq2) ?_
        refine CW.seq fun K9 hK9 => ?_
        refine CW.region ?_
        refine LW.pure rfl rfl (RV.assign rfl) ?_
        refine LW.nil (hK9 _ _ ?_)
        refine CW.ret ?_
        obtain rfl := Option.some.inj F
        refine ⟨_, (ResOK.one rfl), ?_⟩
        refine ⟨(by first | rfl | simp), R0⟩
    ·
      replace F := ite_n hp1 F
      have hq1 := dec_f hp1
      refine CW.condF rfl hq1 ?_
      refine CW.exit (jK54 _ _ ⟨_, ?_, ⟨F, rfl, H⟩⟩)
      exact ⟨rfl, rfl, trivial⟩
set_option maxRecDepth 20000 in
set_option maxHeartbeats 1000000 in
theorem ref07_sum_ok {a0 : List Int} {A_a0 : Option Addr} {c_a0 : Nat} {w : World} {res : Int} (h_a0 : Sl w A_a0 c_a0 1 (a0.map encN)) (F : ref07_sum a0 = some res) : Calls Try.prog 77 #[.slice A_a0 a0.length c_a0] w (Rt w (.int .i64 res)) := by
  refine calls_of_cw (args := [.slice A_a0 a0.length c_a0]) Try.func77 rfl rfl rfl rfl ?_
  have H := Hp.start w
  have R0 := H.ext
  unfold ref07_sum at F
  refine CW.seq fun K1 hK1 => ?_
  refine CW.region ?_
  refine LW.pure rfl rfl (RV.assign rfl) ?_
  refine LW.nil (hK1 _ _ ?_)
  refine CW.seq fun K2 hK2 => ?_
  refine CW.region ?_
  refine LW.pure rfl rfl (RV.assign rfl) ?_
  refine LW.nil (hK2 _ _ ?_)
  refine CW.seqJ (fun ρ wl1 => (∃ (t3_1 : Int), ref07_sum_k1 t3_1 = some res ∧ ρ = [(2, .int .i64 0), (3, .int .i64 t3_1)] ∧ Hp w wl1 [])) ?_ ?_
  ·
    rintro _ wl1 ⟨t3_1, F, rfl, H⟩
    have R0 := H.ext
    unfold ref07_sum_k1 at F
    refine CW.seq fun K3 hK3 => ?_
    refine CW.region ?_
    refine LW.pure rfl rfl (RV.move rfl) ?_
    refine LW.pure rfl rfl (RV.assign rfl) ?_
    refine LW.nil (hK3 _ _ ?_)
    refine CW.ret ?_
    obtain rfl := Option.some.inj F
    refine ⟨_, (ResOK.one rfl), ?_⟩
    refine ⟨(by first | rfl | simp), R0⟩
  ·
    intro K4 hK4 jK38
    refine CW.seq fun K5 hK5 => ?_
    refine CW.region ?_
    refine LW.pure rfl rfl (RV.assign rfl) ?_
    refine LW.nil (hK5 _ _ ?_)
    refine CW.block ?_
    refine CW.loop (fun meas ρ wl2 => ∃ (t3_2 : Int) (t4_1 : Int), ref07_sum_L1 a0 meas t3_2 t4_1 = some res ∧ ρ = [(0, .slice A_a0 a0.length c_a0), (2, .int .i64 0), (3, .int .i64 t3_2), (4, .int .i64 t4_1)] ∧ Hp w wl2 []) FU ⟨_, ?_, ((0 : Int)), ((0 : Int)), F, rfl, H⟩ ?_
    · exact ⟨rfl, rfl, rfl, rfl, trivial⟩
    rintro mk1 _ wl2 ⟨t3_2, t4_1, F, rfl, H⟩
    have R0 := H.ext
    replace F := ref07_sum_L1_s F
    obtain ⟨mk1, rfl, F⟩ := F
    generalize hrec1 : ref07_sum_L1 a0 mk1 = rec1 at F
    unfold ref07_sum_B1 at F
    refine CW.seq fun K6 hK6 => ?_
    refine CW.seq fun K7 hK7 => ?_
    refine CW.region ?_
    refine LW.pure rfl rfl (RV.move rfl) ?_
    refine LW.pure rfl rfl (RV.move rfl) ?_
    refine LW.pure rfl rfl (RV.len Ts22 rfl) ?_
    refine LW.pure rfl rfl (RV.lss rfl rfl) ?_
    refine LW.nil (hK7 _ _ ?_)
    by_cases hp1 : t4_1 < ((a0.length : Int))
    ·
      replace F := ite_y hp1 F
      have hq1 := dec_t hp1
      refine CW.condT rfl hq1 ?_
      refine CW.skip (hK6 _ _ ?_)
      refine CW.seq fun K8 hK8 => ?_
      refine CW.block ?_
      obtain ⟨x1, hbx1, hx1, F⟩ := ix_some F
      obtain ⟨hg1, F⟩ := gd_some F
      refine CW.region ?_
      refine LW.pure rfl rfl (RV.move rfl) ?_
      refine LW.pure rfl rfl (RV.move rfl) ?_
      refine LW.pure rfl rfl (RV.move rfl) ?_
      refine LW.pure rfl rfl (RV.indexAddr Ts22 rfl rfl hbx1 (h_a0.addr_ hx1)) ?_
      refine LW.pure rfl rfl (RV.load1 Tk3 rfl ((h_a0.at_ hx1).ext R0) rfl) ?_
      refine LW.pure rfl rfl (RV.add rfl rfl hg1) ?_
      refine LW.pure rfl rfl (RV.assign rfl) ?_
      refine LW.nil (hK8 _ _ ?_)
      obtain ⟨hg2, F⟩ := gd_some F
      refine CW.region ?_
      refine LW.pure rfl rfl (RV.move rfl) ?_
      refine LW.pure rfl rfl (RV.add rfl rfl hg2) ?_
      refine LW.pure rfl rfl (RV.assign rfl) ?_
      refine LW.nil ?_
      subst hrec1
      refine ⟨mk1, Nat.lt_succ_self _, _, ?_, (t3_2 + x1), (t4_1 + 1), F, rfl, H⟩
      exact ⟨rfl, rfl, rfl, rfl, trivial⟩
    ·
      replace F := ite_n hp1 F
      have hq1 := dec_f hp1
      refine CW.condF rfl hq1 ?_
      refine CW.exit (jK38 _ _ ⟨_, ?_, ⟨t3_2, F, rfl, H⟩⟩)
      exact ⟨rfl, rfl, trivial⟩
set_option maxRecDepth 20000 in
set_option maxHeartbeats 1000000 in
theorem ref07_table_ok {a0 : Trade} {a1 : List (List Int)} {a2 : Int} {A_a0_supply : Option Addr} {c_a0_supply : Nat} {A_a0_demand : Option Addr} {c_a0_demand : Nat} {A_a0_cost : Option Addr} {c_a0_cost : Nat} {A_a1 : Option Addr} {c_a1 : Nat} {w : World} {res : Bool} (h_a0_supply : Sl w A_a0_supply c_a0_supply 1 (a0.supply.map encN)) (h_a0_demand : Sl w A_a0_demand c_a0_demand 1 (a0.demand.map encN)) (h_a0_cost : Sl2 w A_a0_cost c_a0_cost 1 encN a0.cost) (h_a1 : Sl2 w A_a1 c_a1 1 encN a1) (F : ref07_table a0 a1 a2 = some res) : Calls Try.prog 78 #[.agg #[.slice A_a0_supply a0.supply.length c_a0_supply, .slice A_a0_demand a0.demand.length c_a0_demand, .slice A_a0_cost a0.cost.length c_a0_cost], .slice A_a1 a1.length c_a1, .int .i64 a2] w (Rt w (.bool res)) := by
  refine calls_of_cw (args := [.agg #[.slice A_a0_supply a0.supply.length c_a0_supply, .slice A_a0_demand a0.demand.length c_a0_demand, .slice A_a0_cost a0.cost.length c_a0_cost], .slice A_a1 a1.length c_a1, .int .i64 a2]) Try.func78 rfl rfl rfl rfl ?_
  have H := Hp.start w
  have R0 := H.ext
  unfold ref07_table at F
  refine CW.seq fun K1 hK1 => ?_
  refine CW.region ?_
  refine LW.go rfl rfl (OW.box rfl fun b1 w1 N1 => ?_)
  replace H := H.new N1 N1.blk
  replace R0 := H.ext
  refine LW.pure rfl rfl (RV.assign rfl) ?_
  refine LW.nil (hK1 _ _ ?_)
  refine CW.seq fun K2 hK2 => ?_
  refine CW.seq fun K3 hK3 => ?_
  refine CW.region ?_
  refine LW.pure rfl rfl (RV.move rfl) ?_
  refine LW.pure rfl rfl (RV.len Ts23 rfl) ?_
  refine LW.pure rfl rfl (RV.fieldAddr Tf25_0 rfl) ?_
  refine LW.pure rfl rfl (RV.load1 Tk22 rfl ((H.blk 0 rfl).cells.off 0) rfl) ?_
  refine LW.pure rfl rfl (RV.len Ts22 rfl) ?_
  refine LW.pure rfl rfl (RV.nei rfl rfl) ?_
  refine LW.nil (hK3 _ _ ?_)
  by_cases hp1 : ((a1.length : Int)) = ((a0.supply.length : Int))
  ·
    replace F := ite_y hp1 F
    have hq1 := dec_t hp1
    refine CW.condF rfl (not_f hq1) ?_
    refine CW.skip (hK2 _ _ ?_)
    refine CW.seqJ (fun ρ wl1 => (ref07_table_k1 = some res ∧ ρ = [(6, .bool false)] ∧ Hp w wl1 [])) ?_ ?_
    ·
      rintro _ wl1 ⟨F, rfl, H⟩
      have R0 := H.ext
      unfold ref07_table_k1 at F
      refine CW.seq fun K4 hK4 => ?_
      refine CW.region ?_
      refine LW.pure rfl rfl (RV.assign rfl) ?_
      refine LW.nil (hK4 _ _ ?_)
      refine CW.ret ?_
      obtain rfl := Option.some.inj F
      refine ⟨_, (ResOK.one rfl), ?_⟩
      refine ⟨(by first | rfl | simp), R0⟩
    ·
      intro K5 hK5 jK383
      refine CW.seq fun K6 hK6 => ?_
      refine CW.region ?_
      refine LW.pure rfl rfl (RV.assign rfl) ?_
      refine LW.nil (hK6 _ _ ?_)
      refine CW.block ?_
      refine CW.loop (fun meas ρ wl2 => ∃ (t7_1 : Int), ref07_table_L2 a0 a1 a2 meas t7_1 = some res ∧ ρ = [(1, .slice A_a1 a1.length c_a1), (2, .int .i64 a2), (3, .pointer (some (⟨b1, 0, none⟩))), (6, .bool false), (7, .int .i64 t7_1)] ∧ Hp w wl2 [.blk b1 25 [.slice A_a0_supply a0.supply.length c_a0_supply, .slice A_a0_demand a0.demand.length c_a0_demand, .slice A_a0_cost a0.cost.length c_a0_cost]]) FU ⟨_, ?_, ((0 : Int)), F, rfl, H⟩ ?_
      · exact ⟨rfl, rfl, rfl, rfl, rfl, trivial⟩
      rintro mk1 _ wl2 ⟨t7_1, F, rfl, H⟩
      have R0 := H.ext
      replace F := ref07_table_L2_s F
      obtain ⟨mk1, rfl, F⟩ := F
      generalize hrec1 : ref07_table_L2 a0 a1 a2 mk1 = rec1 at F
      unfold ref07_table_B2 at F
      refine CW.seq fun K7 hK7 => ?_
      refine CW.seq fun K8 hK8 => ?_
      refine CW.region ?_
      refine LW.pure rfl rfl (RV.move rfl) ?_
      refine LW.pure rfl rfl (RV.move rfl) ?_
      refine LW.pure rfl rfl (RV.len Ts23 rfl) ?_
      refine LW.pure rfl rfl (RV.lss rfl rfl) ?_
      refine LW.nil (hK8 _ _ ?_)
      by_cases hp2 : t7_1 < ((a1.length : Int))
      ·
        replace F := ite_y hp2 F
        have hq2 := dec_t hp2
        refine CW.condT rfl hq2 ?_
        refine CW.skip (hK7 _ _ ?_)
        refine CW.seqJ (fun ρ wl3 => (ref07_table_k2 t7_1 rec1 = some res ∧ ρ = [(1, .slice A_a1 a1.length c_a1), (2, .int .i64 a2), (3, .pointer (some (⟨b1, 0, none⟩))), (6, .bool false), (7, .int .i64 t7_1)] ∧ Hp w wl3 [.blk b1 25 [.slice A_a0_supply a0.supply.length c_a0_supply, .slice A_a0_demand a0.demand.length c_a0_demand, .slice A_a0_cost a0.cost.length c_a0_cost]])) ?_ ?_
        ·
          rintro _ wl3 ⟨F, rfl, H⟩
          have R0 := H.ext
          unfold ref07_table_k2 at F
          obtain ⟨hg1, F⟩ := gd_some F
          refine CW.region ?_
          refine LW.pure rfl rfl (RV.move rfl) ?_
          refine LW.pure rfl rfl (RV.add rfl rfl hg1) ?_
          refine LW.pure rfl rfl (RV.assign rfl) ?_
          refine LW.nil ?_
          subst hrec1
          refine ⟨mk1, Nat.lt_succ_self _, _, ?_, (t7_1 + 1), F, rfl, H⟩
          exact ⟨rfl, rfl, rfl, rfl, rfl, trivial⟩
        ·
          intro K9 hK9 jK488
          refine CW.block ?_
          refine CW.seq fun K10 hK10 => ?_
          refine CW.seq fun K11 hK11 => ?_
          obtain ⟨x4, hbx4, hx4, F⟩ := ix_some F
          refine CW.draw [] (fun _ => True) (.cons 0 1 (.cons 1 1 (.cons 2 1 (.cons 3 1 (.cons 4 1 (.cons 5 1 (.cons 6 1 (.cons 7 1 (.cons 8 1 .nil))))))))) mixed (by kernel_rfl) fun w2 E1 => ?_
          replace H := H.grow E1
          replace R0 := H.ext
          refine DW.fix rfl rfl rfl (fun _ EQ => RV.move rfl) ?_
          refine DW.fix rfl rfl rfl (fun _ EQ => RV.move rfl) ?_
          obtain ⟨A1, c1, hC1, hS1⟩ := h_a1.at_ hx4
          refine DW.fix rfl rfl rfl (fun _ EQ => RV.indexAddr Ts23 rfl rfl hbx4 (h_a1.addr hbx4)) ?_
          refine DW.fix rfl rfl rfl (fun _ EQ => RV.load1 Tk22 rfl (hC1.ext (R0.trans EQ)) rfl) ?_
          refine DW.fix rfl rfl rfl (fun _ EQ => RV.len Ts22 rfl) ?_
          refine DW.fix rfl rfl rfl (fun _ EQ => RV.fieldAddr Tf25_1 rfl) ?_
          refine DW.fix rfl rfl rfl (fun _ EQ => RV.load1 Tk22 rfl (((H.grow EQ).blk 0 rfl).cells.off 1) rfl) ?_
          refine DW.fix rfl rfl rfl (fun _ EQ => RV.len Ts22 rfl) ?_
          refine DW.fix rfl rfl rfl (fun _ EQ => RV.nei rfl rfl) ?_
          refine DW.nil (hK11 _ _ ?_)
          by_cases hp3 : ((x4.length : Int)) = ((a0.demand.length : Int))
          ·
            replace F := ite_y hp3 F
            have hq3 := dec_t hp3
            refine CW.condF rfl (not_f hq3) ?_
            refine CW.skip (hK10 _ _ ?_)
            refine CW.seq fun K12 hK12 => ?_
            refine CW.region ?_
            refine LW.pure rfl rfl (RV.assign rfl) ?_
            refine LW.nil (hK12 _ _ ?_)
            refine CW.block ?_
            refine CW.loop (fun meas ρ wl4 => ∃ (t8_1 : Int), ref07_table_L1 a1 a2 t7_1 rec1 meas t8_1 = some res ∧ ρ = [(1, .slice A_a1 a1.length c_a1), (2, .int .i64 a2), (3, .pointer (some (⟨b1, 0, none⟩))), (6, .bool false), (7, .int .i64 t7_1), (8, .int .i64 t8_1)] ∧ Hp w wl4 [.blk b1 25 [.slice A_a0_supply a0.supply.length c_a0_supply, .slice A_a0_demand a0.demand.length c_a0_demand, .slice A_a0_cost a0.cost.length c_a0_cost]]) FU ⟨_, ?_, ((0 : Int)), F, rfl, H⟩ ?_
            · exact ⟨rfl, rfl, rfl, rfl, rfl, rfl, trivial⟩
            rintro mk2 _ wl4 ⟨t8_1, F, rfl, H⟩
            have R0 := H.ext
            replace F := ref07_table_L1_s F
            obtain ⟨mk2, rfl, F⟩ := F
            generalize hrec2 : ref07_table_L1 a1 a2 t7_1 rec1 mk2 = rec2 at F
            unfold ref07_table_B1 at F
            refine CW.seq fun K13 hK13 => ?_
            refine CW.seq fun K14 hK14 => ?_
            obtain ⟨x1, hbx1, hx1, F⟩ := ix_some F
            refine CW.region ?_
            refine LW.pure rfl rfl (RV.move rfl) ?_
            refine LW.pure rfl rfl (RV.move rfl) ?_
            refine LW.pure rfl rfl (RV.move rfl) ?_
            obtain ⟨A2, c2, hC2, hS2⟩ := h_a1.at_ hx1
            refine LW.pure rfl rfl (RV.indexAddr Ts23 rfl rfl hbx1 (h_a1.addr hbx1)) ?_
            refine LW.pure rfl rfl (RV.load1 Tk22 rfl (hC2.ext R0) rfl) ?_
            refine LW.pure rfl rfl (RV.len Ts22 rfl) ?_
            refine LW.pure rfl rfl (RV.lss rfl rfl) ?_
            refine LW.nil (hK14 _ _ ?_)
            by_cases hp4 : t8_1 < ((x1.length : Int))
            ·
              replace F := ite_y hp4 F
              have hq4 := dec_t hp4
              refine CW.condT rfl hq4 ?_
              refine CW.skip (hK13 _ _ ?_)
              refine CW.seq fun K15 hK15 => ?_
              refine CW.block ?_
              refine CW.seq fun K16 hK16 => ?_
              obtain ⟨x2, hbx2, hx2, F⟩ := ix_some F
              obtain ⟨x3, hbx3, hx3, F⟩ := ix_some F
              obtain ⟨r1, hr1, F⟩ := bnd_some F
              refine CW.region ?_
              refine LW.pure rfl rfl (RV.move rfl) ?_
              refine LW.pure rfl rfl (RV.move rfl) ?_
              obtain ⟨A3, c3, hC3, hS3⟩ := h_a1.at_ hx2
              refine LW.pure rfl rfl (RV.indexAddr Ts23 rfl rfl hbx2 (h_a1.addr hbx2)) ?_
              refine LW.pure rfl rfl (RV.load1 Tk22 rfl (hC3.ext R0) rfl) ?_
              refine LW.pure rfl rfl (RV.move rfl) ?_
              refine LW.pure rfl rfl (RV.indexAddr Ts22 rfl rfl hbx3 (hS3.addr_ hx3)) ?_
              refine LW.pure rfl rfl (RV.load1 Tk3 rfl ((hS3.at_ hx3).ext R0) rfl) ?_
              refine LW.pure rfl rfl (RV.move rfl) ?_
              refine LW.go rfl rfl (OW.call Tc58 rfl (ref07_within_ok (a0 := x3) (a1 := (0 : Int)) (a2 := a2) hr1) ?_)
              rintro _ w3 ⟨rfl, E2⟩
              refine ⟨_, rfl, ?_⟩
              replace H := H.grow E2
              replace R0 := H.ext
              refine LW.pure rfl rfl (RV.not rfl) ?_
              refine LW.nil (hK16 _ _ ?_)
              by_cases hp5 : r1 = true
              ·
                replace F := ite_y hp5 F
                have hq5 : r1 = true := hp5
                refine CW.condF rfl (not_f hq5) ?_
                refine CW.skip (hK15 _ _ ?_)
                obtain ⟨hg2, F⟩ := gd_some F
                refine CW.region ?_
                refine LW.pure rfl rfl (RV.move rfl) ?_
                refine LW.pure rfl rfl (RV.add rfl rfl hg2) ?_
                refine LW.pure rfl rfl (RV.assign rfl) ?_
                refine LW.nil ?_
                subst hrec2
                refine ⟨mk2, Nat.lt_succ_self _, _, ?_, (t8_1 + 1), F, rfl, H⟩
                exact ⟨rfl, rfl, rfl, rfl, rfl, rfl, trivial⟩
              ·
                replace F := ite_n hp5 F
                have hq5 : r1 = false := raw_f hp5
                refine CW.condT rfl (not_t hq5) ?_
                refine CW.seq fun K17 hK17 => ?_
                refine CW.region ?_
                refine LW.pure rfl rfl (RV.assign rfl) ?_
                refine LW.nil (hK17 _ _ ?_)
                refine CW.ret ?_
                obtain rfl := Option.some.inj F
                refine ⟨_, (ResOK.one rfl), ?_⟩
                refine ⟨(by first | rfl | simp), R0⟩
            ·
              replace F := ite_n hp4 F
              have hq4 := dec_f hp4
              refine CW.condF rfl hq4 ?_
              refine CW.exit (jK488 _ _ ⟨_, ?_, ⟨F, rfl, H⟩⟩)
              exact ⟨rfl, rfl, rfl, rfl, rfl, trivial⟩
          ·
            replace F := ite_n hp3 F
            have hq3 := dec_f hp3
            refine CW.condT rfl (not_t hq3) ?_
            refine CW.seq fun K18 hK18 => ?_
            refine CW.region ?_
            refine LW.pure rfl rfl (RV.assign rfl) ?_
            refine LW.nil (hK18 _ _ ?_)
            refine CW.ret ?_
            obtain rfl := Option.some.inj F
            refine ⟨_, (ResOK.one rfl), ?_⟩
            refine ⟨(by first | rfl | simp), R0⟩
      ·
        replace F := ite_n hp2 F
        have hq2 := dec_f hp2
        refine CW.condF rfl hq2 ?_
        replace H := H.pick (L' := []) [] (by decide) rfl
        replace R0 := H.ext
        refine CW.exit (jK383 _ _ ⟨_, ?_, ⟨F, rfl, H⟩⟩)
        exact ⟨rfl, trivial⟩
  ·
    replace F := ite_n hp1 F
    have hq1 := dec_f hp1
    refine CW.condT rfl (not_t hq1) ?_
    refine CW.seq fun K19 hK19 => ?_
    refine CW.region ?_
    refine LW.pure rfl rfl (RV.assign rfl) ?_
    refine LW.nil (hK19 _ _ ?_)
    refine CW.ret ?_
    obtain rfl := Option.some.inj F
    refine ⟨_, (ResOK.one rfl), ?_⟩
    refine ⟨(by first | rfl | simp), R0⟩
set_option maxRecDepth 20000 in
set_option maxHeartbeats 1000000 in
theorem ref07_Validate_ok {a0 : Trade} {A_a0_supply : Option Addr} {c_a0_supply : Nat} {A_a0_demand : Option Addr} {c_a0_demand : Nat} {A_a0_cost : Option Addr} {c_a0_cost : Nat} {w : World} {res : Int} (h_a0_supply : Sl w A_a0_supply c_a0_supply 1 (a0.supply.map encN)) (h_a0_demand : Sl w A_a0_demand c_a0_demand 1 (a0.demand.map encN)) (h_a0_cost : Sl2 w A_a0_cost c_a0_cost 1 encN a0.cost) (F : ref07_Validate a0 = some res) : Calls Try.prog 39 #[.agg #[.slice A_a0_supply a0.supply.length c_a0_supply, .slice A_a0_demand a0.demand.length c_a0_demand, .slice A_a0_cost a0.cost.length c_a0_cost]] w (Rt w (.int .i64 res)) := by
  refine calls_of_cw (args := [.agg #[.slice A_a0_supply a0.supply.length c_a0_supply, .slice A_a0_demand a0.demand.length c_a0_demand, .slice A_a0_cost a0.cost.length c_a0_cost]]) Try.func39 rfl rfl rfl rfl ?_
  have H := Hp.start w
  have R0 := H.ext
  unfold ref07_Validate at F
  refine CW.seq fun K1 hK1 => ?_
  refine CW.region ?_
  refine LW.go rfl rfl (OW.box rfl fun b1 w1 N1 => ?_)
  replace H := H.new N1 N1.blk
  replace R0 := H.ext
  refine LW.pure rfl rfl (RV.assign rfl) ?_
  refine LW.nil (hK1 _ _ ?_)
  refine CW.seq fun K2 hK2 => ?_
  refine CW.seqJ (fun ρ wl1 => (∃ (t28_1 : Bool), ref07_Validate_k1 t28_1 = some res ∧ ρ = [(2, .int .i64 0), (28, .bool t28_1)] ∧ Hp w wl1 [])) ?_ ?_
  ·
    rintro _ wl1 ⟨t28_1, F, rfl, H⟩
    have R0 := H.ext
    unfold ref07_Validate_k1 at F
    by_cases hp1 : t28_1 = true
    ·
      replace F := ite_y hp1 F
      have hq1 : t28_1 = true := hp1
      refine CW.condT rfl hq1 ?_
      refine CW.seq fun K3 hK3 => ?_
      refine CW.region ?_
      refine LW.pure rfl rfl (RV.assign rfl) ?_
      refine LW.nil (hK3 _ _ ?_)
      refine CW.ret ?_
      obtain rfl := Option.some.inj F
      refine ⟨_, (ResOK.one rfl), ?_⟩
      refine ⟨(by first | rfl | simp), R0⟩
    ·
      replace F := ite_n hp1 F
      have hq1 : t28_1 = false := raw_f hp1
      refine CW.condF rfl hq1 ?_
      refine CW.skip (hK2 _ _ ?_)
      refine CW.seq fun K4 hK4 => ?_
      refine CW.region ?_
      refine LW.pure rfl rfl (RV.assign rfl) ?_
      refine LW.nil (hK4 _ _ ?_)
      refine CW.ret ?_
      obtain rfl := Option.some.inj F
      refine ⟨_, (ResOK.one rfl), ?_⟩
      refine ⟨(by first | rfl | simp), R0⟩
  ·
    intro K5 hK5 jK10
    obtain ⟨r1, hr1, F⟩ := bnd_some F
    by_cases hp2 : r1 = true
    ·
      replace F := ite_y hp2 F
      have hq2 : r1 = true := hp2
      obtain ⟨r2, hr2, F⟩ := bnd_some F
      by_cases hp3 : r2 = true
      ·
        replace F := ite_y hp3 F
        have hq3 : r2 = true := hp3
        obtain ⟨r3, hr3, F⟩ := bnd_some F
        obtain ⟨r4, hr4, F⟩ := bnd_some F
        by_cases hp4 : r3 = r4
        ·
          replace F := ite_y hp4 F
          have hq4 := dec_t hp4
          obtain ⟨r5, hr5, F⟩ := bnd_some F
          refine CW.draw [] (fun _ => True) (.cons 0 1 (.cons 1 1 (.cons 2 0 (.cons 3 1 (.cons 4 1 (.cons 5 1 (.cons 6 1 (.cons 7 0 (.cons 8 1 (.cons 9 1 (.cons 10 1 (.cons 11 1 (.cons 12 1 (.cons 14 1 (.cons 15 1 (.cons 13 0 (.cons 16 0 (.cons 17 1 (.cons 18 1 (.cons 19 1 (.cons 20 1 (.cons 21 1 (.cons 22 1 (.cons 23 0 (.cons 24 1 (.cons 25 1 .nil)))))))))))))))))))))))))) mixed (by kernel_rfl) fun w2 E1 => ?_
          replace H := H.grow E1
          replace R0 := H.ext
          refine DW.fix rfl rfl rfl (fun _ EQ => RV.fieldAddr Tf25_0 rfl) ?_
          refine DW.fix rfl rfl rfl (fun _ EQ => RV.load1 Tk22 rfl (((H.grow EQ).blk 0 rfl).cells.off 0) rfl) ?_
          refine DW.sole rfl rfl rfl (OW.call Tc76 rfl (ref07_amounts_ok (a0 := a0.supply) (h_a0_supply.ext R0) hr1) ?_)
          rintro _ w3 ⟨rfl, E2⟩
          refine ⟨_, rfl, fun _ => E2, ModX.ext E2, ?_⟩
          replace H := H.grow E2
          replace R0 := H.ext
          refine DW.fix rfl rfl rfl (fun _ EQ => RV.not rfl) ?_
          refine DW.fix rfl rfl rfl (fun _ EQ => RV.move rfl) ?_
          refine DW.fixYB rfl rfl rfl rfl rfl (not_f hq2) (fun _ EQ => RV.fieldAddr Tf25_1 rfl) ?_
          refine DW.fixYB rfl rfl rfl rfl rfl (not_f hq2) (fun _ EQ => RV.load1 Tk22 rfl (((H.grow EQ).blk 0 rfl).cells.off 1) rfl) ?_
          refine DW.soleYB rfl rfl rfl rfl rfl (not_f hq2) (OW.call Tc76 rfl (ref07_amounts_ok (a0 := a0.demand) (h_a0_demand.ext R0) hr2) ?_)
          rintro _ w4 ⟨rfl, E3⟩
          refine ⟨_, rfl, fun _ => E3, ModX.ext E3, ?_⟩
          replace H := H.grow E3
          replace R0 := H.ext
          refine DW.fixYB rfl rfl rfl rfl rfl (not_f hq2) (fun _ EQ => RV.not rfl) ?_
          refine DW.fix rfl rfl rfl (fun _ EQ => RV.pickFB rfl (not_f hq2) rfl) ?_
          refine DW.fix rfl rfl rfl (fun _ EQ => RV.move rfl) ?_
          refine DW.fixYB rfl rfl rfl rfl rfl (not_f hq3) (fun _ EQ => RV.fieldAddr Tf25_0 rfl) ?_
          refine DW.fixYB rfl rfl rfl rfl rfl (not_f hq3) (fun _ EQ => RV.load1 Tk22 rfl (((H.grow EQ).blk 0 rfl).cells.off 0) rfl) ?_
          refine DW.fixYB rfl rfl rfl rfl rfl (not_f hq3) (fun _ EQ => RV.fieldAddr Tf25_1 rfl) ?_
          refine DW.fixYB rfl rfl rfl rfl rfl (not_f hq3) (fun _ EQ => RV.load1 Tk22 rfl (((H.grow EQ).blk 0 rfl).cells.off 1) rfl) ?_
          refine DW.soleYB rfl rfl rfl rfl rfl (not_f hq3) (OW.call Tc77 rfl (ref07_sum_ok (a0 := a0.supply) (h_a0_supply.ext R0) hr3) ?_)
          rintro _ w5 ⟨rfl, E4⟩
          refine ⟨_, rfl, fun _ => E4, ModX.ext E4, ?_⟩
          replace H := H.grow E4
          replace R0 := H.ext
          refine DW.soleYB rfl rfl rfl rfl rfl (not_f hq3) (OW.call Tc77 rfl (ref07_sum_ok (a0 := a0.demand) (h_a0_demand.ext R0) hr4) ?_)
          rintro _ w6 ⟨rfl, E5⟩
          refine ⟨_, rfl, fun _ => E5, ModX.ext E5, ?_⟩
          replace H := H.grow E5
          replace R0 := H.ext
          refine DW.fixYB rfl rfl rfl rfl rfl (not_f hq3) (fun _ EQ => RV.nei rfl rfl) ?_
          refine DW.fix rfl rfl rfl (fun _ EQ => RV.pickFB rfl (not_f hq3) rfl) ?_
          refine DW.fix rfl rfl rfl (fun _ EQ => RV.move rfl) ?_
          refine DW.fixYB rfl rfl rfl rfl rfl (not_f hq4) (fun _ EQ => RV.loadA [.slice A_a0_supply a0.supply.length c_a0_supply, .slice A_a0_demand a0.demand.length c_a0_demand, .slice A_a0_cost a0.cost.length c_a0_cost] Tk25 rfl ((H.grow EQ).blk 0 rfl).cells rfl rfl) ?_
          refine DW.fixYB rfl rfl rfl rfl rfl (not_f hq4) (fun _ EQ => RV.fieldAddr Tf25_2 rfl) ?_
          refine DW.fixYB rfl rfl rfl rfl rfl (not_f hq4) (fun _ EQ => RV.load1 Tk23 rfl (((H.grow EQ).blk 0 rfl).cells.off 2) rfl) ?_
          refine DW.soleYB rfl rfl rfl rfl rfl (not_f hq4) (OW.call Tc78 rfl (ref07_table_ok (a0 := a0) (a1 := a0.cost) (a2 := (99 : Int)) (h_a0_supply.ext R0) (h_a0_demand.ext R0) (h_a0_cost.ext R0) (h_a0_cost.ext R0) hr5) ?_)
          rintro _ w7 ⟨rfl, E6⟩
          refine ⟨_, rfl, fun _ => E6, ModX.ext E6, ?_⟩
          replace H := H.grow E6
          replace R0 := H.ext
          refine DW.fixYB rfl rfl rfl rfl rfl (not_f hq4) (fun _ EQ => RV.not rfl) ?_
          refine DW.fix rfl rfl rfl (fun _ EQ => RV.pickFB rfl (not_f hq4) rfl) ?_
          replace H := H.pick (L' := []) [] (by decide) rfl
          replace R0 := H.ext
          refine DW.nil (jK10 _ _ ⟨_, ?_, ⟨(!r5), F, rfl, H⟩⟩)
          exact ⟨rfl, rfl, trivial⟩
        ·
          replace F := ite_n hp4 F
          have hq4 := dec_f hp4
          refine CW.draw [] (fun _ => True) (.cons 0 1 (.cons 1 1 (.cons 2 0 (.cons 3 1 (.cons 4 1 (.cons 5 1 (.cons 6 1 (.cons 7 0 (.cons 8 1 (.cons 9 1 (.cons 10 1 (.cons 11 1 (.cons 12 1 (.cons 14 1 (.cons 15 1 (.cons 13 0 (.cons 16 0 (.cons 17 1 (.cons 18 1 (.cons 19 1 (.cons 20 1 (.cons 21 1 (.cons 22 1 (.cons 23 0 (.cons 24 1 (.cons 25 1 .nil)))))))))))))))))))))))))) mixed (by kernel_rfl) fun w8 E7 => ?_
          replace H := H.grow E7
          replace R0 := H.ext
          refine DW.fix rfl rfl rfl (fun _ EQ => RV.fieldAddr Tf25_0 rfl) ?_
          refine DW.fix rfl rfl rfl (fun _ EQ => RV.load1 Tk22 rfl (((H.grow EQ).blk 0 rfl).cells.off 0) rfl) ?_
          refine DW.sole rfl rfl rfl (OW.call Tc76 rfl (ref07_amounts_ok (a0 := a0.supply) (h_a0_supply.ext R0) hr1) ?_)
          rintro _ w9 ⟨rfl, E8⟩
          refine ⟨_, rfl, fun _ => E8, ModX.ext E8, ?_⟩
          replace H := H.grow E8
          replace R0 := H.ext
          refine DW.fix rfl rfl rfl (fun _ EQ => RV.not rfl) ?_
          refine DW.fix rfl rfl rfl (fun _ EQ => RV.move rfl) ?_
          refine DW.fixYB rfl rfl rfl rfl rfl (not_f hq2) (fun _ EQ => RV.fieldAddr Tf25_1 rfl) ?_
          refine DW.fixYB rfl rfl rfl rfl rfl (not_f hq2) (fun _ EQ => RV.load1 Tk22 rfl (((H.grow EQ).blk 0 rfl).cells.off 1) rfl) ?_
          refine DW.soleYB rfl rfl rfl rfl rfl (not_f hq2) (OW.call Tc76 rfl (ref07_amounts_ok (a0 := a0.demand) (h_a0_demand.ext R0) hr2) ?_)
          rintro _ w10 ⟨rfl, E9⟩
          refine ⟨_, rfl, fun _ => E9, ModX.ext E9, ?_⟩
          replace H := H.grow E9
          replace R0 := H.ext
          refine DW.fixYB rfl rfl rfl rfl rfl (not_f hq2) (fun _ EQ => RV.not rfl) ?_
          refine DW.fix rfl rfl rfl (fun _ EQ => RV.pickFB rfl (not_f hq2) rfl) ?_
          refine DW.fix rfl rfl rfl (fun _ EQ => RV.move rfl) ?_
          refine DW.fixYB rfl rfl rfl rfl rfl (not_f hq3) (fun _ EQ => RV.fieldAddr Tf25_0 rfl) ?_
          refine DW.fixYB rfl rfl rfl rfl rfl (not_f hq3) (fun _ EQ => RV.load1 Tk22 rfl (((H.grow EQ).blk 0 rfl).cells.off 0) rfl) ?_
          refine DW.fixYB rfl rfl rfl rfl rfl (not_f hq3) (fun _ EQ => RV.fieldAddr Tf25_1 rfl) ?_
          refine DW.fixYB rfl rfl rfl rfl rfl (not_f hq3) (fun _ EQ => RV.load1 Tk22 rfl (((H.grow EQ).blk 0 rfl).cells.off 1) rfl) ?_
          refine DW.soleYB rfl rfl rfl rfl rfl (not_f hq3) (OW.call Tc77 rfl (ref07_sum_ok (a0 := a0.supply) (h_a0_supply.ext R0) hr3) ?_)
          rintro _ w11 ⟨rfl, E10⟩
          refine ⟨_, rfl, fun _ => E10, ModX.ext E10, ?_⟩
          replace H := H.grow E10
          replace R0 := H.ext
          refine DW.soleYB rfl rfl rfl rfl rfl (not_f hq3) (OW.call Tc77 rfl (ref07_sum_ok (a0 := a0.demand) (h_a0_demand.ext R0) hr4) ?_)
          rintro _ w12 ⟨rfl, E11⟩
          refine ⟨_, rfl, fun _ => E11, ModX.ext E11, ?_⟩
          replace H := H.grow E11
          replace R0 := H.ext
          refine DW.fixYB rfl rfl rfl rfl rfl (not_f hq3) (fun _ EQ => RV.nei rfl rfl) ?_
          refine DW.fix rfl rfl rfl (fun _ EQ => RV.pickFB rfl (not_f hq3) rfl) ?_
          refine DW.fix rfl rfl rfl (fun _ EQ => RV.move rfl) ?_
          refine DW.fixNB rfl rfl rfl rfl rfl (ne_beq (v := true) (not_t hq4) rfl) ?_
          refine DW.fixNB rfl rfl rfl rfl rfl (ne_beq (v := true) (not_t hq4) rfl) ?_
          refine DW.fixNB rfl rfl rfl rfl rfl (ne_beq (v := true) (not_t hq4) rfl) ?_
          refine DW.soleNB rfl rfl rfl rfl rfl (ne_beq (v := true) (not_t hq4) rfl) ?_
          refine DW.fixNB rfl rfl rfl rfl rfl (ne_beq (v := true) (not_t hq4) rfl) ?_
          refine DW.fix rfl rfl rfl (fun _ EQ => RV.pickTB rfl (not_t hq4) rfl) ?_
          replace H := H.pick (L' := []) [] (by decide) rfl
          replace R0 := H.ext
          refine DW.nil (jK10 _ _ ⟨_, ?_, ⟨true, F, rfl, H⟩⟩)
          exact ⟨rfl, rfl, trivial⟩
      ·
        replace F := ite_n hp3 F
        have hq3 : r2 = false := raw_f hp3
        refine CW.draw [] (fun _ => True) (.cons 0 1 (.cons 1 1 (.cons 2 0 (.cons 3 1 (.cons 4 1 (.cons 5 1 (.cons 6 1 (.cons 7 0 (.cons 8 1 (.cons 9 1 (.cons 10 1 (.cons 11 1 (.cons 12 1 (.cons 14 1 (.cons 15 1 (.cons 13 0 (.cons 16 0 (.cons 17 1 (.cons 18 1 (.cons 19 1 (.cons 20 1 (.cons 21 1 (.cons 22 1 (.cons 23 0 (.cons 24 1 (.cons 25 1 .nil)))))))))))))))))))))))))) mixed (by kernel_rfl) fun w13 E12 => ?_
        replace H := H.grow E12
        replace R0 := H.ext
        refine DW.fix rfl rfl rfl (fun _ EQ => RV.fieldAddr Tf25_0 rfl) ?_
        refine DW.fix rfl rfl rfl (fun _ EQ => RV.load1 Tk22 rfl (((H.grow EQ).blk 0 rfl).cells.off 0) rfl) ?_
        refine DW.sole rfl rfl rfl (OW.call Tc76 rfl (ref07_amounts_ok (a0 := a0.supply) (h_a0_supply.ext R0) hr1) ?_)
        rintro _ w14 ⟨rfl, E13⟩
        refine ⟨_, rfl, fun _ => E13, ModX.ext E13, ?_⟩
        replace H := H.grow E13
        replace R0 := H.ext
        refine DW.fix rfl rfl rfl (fun _ EQ => RV.not rfl) ?_
        refine DW.fix rfl rfl rfl (fun _ EQ => RV.move rfl) ?_
        refine DW.fixYB rfl rfl rfl rfl rfl (not_f hq2) (fun _ EQ => RV.fieldAddr Tf25_1 rfl) ?_
        refine DW.fixYB rfl rfl rfl rfl rfl (not_f hq2) (fun _ EQ => RV.load1 Tk22 rfl (((H.grow EQ).blk 0 rfl).cells.off 1) rfl) ?_
        refine DW.soleYB rfl rfl rfl rfl rfl (not_f hq2) (OW.call Tc76 rfl (ref07_amounts_ok (a0 := a0.demand) (h_a0_demand.ext R0) hr2) ?_)
        rintro _ w15 ⟨rfl, E14⟩
        refine ⟨_, rfl, fun _ => E14, ModX.ext E14, ?_⟩
        replace H := H.grow E14
        replace R0 := H.ext
        refine DW.fixYB rfl rfl rfl rfl rfl (not_f hq2) (fun _ EQ => RV.not rfl) ?_
        refine DW.fix rfl rfl rfl (fun _ EQ => RV.pickFB rfl (not_f hq2) rfl) ?_
        refine DW.fix rfl rfl rfl (fun _ EQ => RV.move rfl) ?_
        refine DW.fixNB rfl rfl rfl rfl rfl (ne_beq (v := true) (not_t hq3) rfl) ?_
        refine DW.fixNB rfl rfl rfl rfl rfl (ne_beq (v := true) (not_t hq3) rfl) ?_
        refine DW.fixNB rfl rfl rfl rfl rfl (ne_beq (v := true) (not_t hq3) rfl) ?_
        refine DW.fixNB rfl rfl rfl rfl rfl (ne_beq (v := true) (not_t hq3) rfl) ?_
        refine DW.soleNB rfl rfl rfl rfl rfl (ne_beq (v := true) (not_t hq3) rfl) ?_
        refine DW.soleNB rfl rfl rfl rfl rfl (ne_beq (v := true) (not_t hq3) rfl) ?_
        refine DW.fixNB rfl rfl rfl rfl rfl (ne_beq (v := true) (not_t hq3) rfl) ?_
        refine DW.fix rfl rfl rfl (fun _ EQ => RV.pickTB rfl (not_t hq3) rfl) ?_
        refine DW.fix rfl rfl rfl (fun _ EQ => RV.move rfl) ?_
        refine DW.fixNB rfl rfl rfl rfl rfl (ne_beq (v := true) rfl rfl) ?_
        refine DW.fixNB rfl rfl rfl rfl rfl (ne_beq (v := true) rfl rfl) ?_
        refine DW.fixNB rfl rfl rfl rfl rfl (ne_beq (v := true) rfl rfl) ?_
        refine DW.soleNB rfl rfl rfl rfl rfl (ne_beq (v := true) rfl rfl) ?_
        refine DW.fixNB rfl rfl rfl rfl rfl (ne_beq (v := true) rfl rfl) ?_
        refine DW.fix rfl rfl rfl (fun _ EQ => RV.pickTB rfl rfl rfl) ?_
        replace H := H.pick (L' := []) [] (by decide) rfl
        replace R0 := H.ext
        refine DW.nil (jK10 _ _ ⟨_, ?_, ⟨true, F, rfl, H⟩⟩)
        exact ⟨rfl, rfl, trivial⟩
    ·
      replace F := ite_n hp2 F
      have hq2 : r1 = false := raw_f hp2
      refine CW.draw [] (fun _ => True) (.cons 0 1 (.cons 1 1 (.cons 2 0 (.cons 3 1 (.cons 4 1 (.cons 5 1 (.cons 6 1 (.cons 7 0 (.cons 8 1 (.cons 9 1 (.cons 10 1 (.cons 11 1 (.cons 12 1 (.cons 14 1 (.cons 15 1 (.cons 13 0 (.cons 16 0 (.cons 17 1 (.cons 18 1 (.cons 19 1 (.cons 20 1 (.cons 21 1 (.cons 22 1 (.cons 23 0 (.cons 24 1 (.cons 25 1 .nil)))))))))))))))))))))))))) mixed (by kernel_rfl) fun w16 E15 => ?_
      replace H := H.grow E15
      replace R0 := H.ext
      refine DW.fix rfl rfl rfl (fun _ EQ => RV.fieldAddr Tf25_0 rfl) ?_
      refine DW.fix rfl rfl rfl (fun _ EQ => RV.load1 Tk22 rfl (((H.grow EQ).blk 0 rfl).cells.off 0) rfl) ?_
      refine DW.sole rfl rfl rfl (OW.call Tc76 rfl (ref07_amounts_ok (a0 := a0.supply) (h_a0_supply.ext R0) hr1) ?_)
      rintro _ w17 ⟨rfl, E16⟩
      refine ⟨_, rfl, fun _ => E16, ModX.ext E16, ?_⟩
      replace H := H.grow E16
      replace R0 := H.ext
      refine DW.fix rfl rfl rfl (fun _ EQ => RV.not rfl) ?_
      refine DW.fix rfl rfl rfl (fun _ EQ => RV.move rfl) ?_
      refine DW.fixNB rfl rfl rfl rfl rfl (ne_beq (v := true) (not_t hq2) rfl) ?_
      refine DW.fixNB rfl rfl rfl rfl rfl (ne_beq (v := true) (not_t hq2) rfl) ?_
      refine DW.soleNB rfl rfl rfl rfl rfl (ne_beq (v := true) (not_t hq2) rfl) ?_
      refine DW.fixNB rfl rfl rfl rfl rfl (ne_beq (v := true) (not_t hq2) rfl) ?_
      refine DW.fix rfl rfl rfl (fun _ EQ => RV.pickTB rfl (not_t hq2) rfl) ?_
      refine DW.fix rfl rfl rfl (fun _ EQ => RV.move rfl) ?_
      refine DW.fixNB rfl rfl rfl rfl rfl (ne_beq (v := true) rfl rfl) ?_
      refine DW.fixNB rfl rfl rfl rfl rfl (ne_beq (v := true) rfl rfl) ?_
      refine DW.fixNB rfl rfl rfl rfl rfl (ne_beq (v := true) rfl rfl) ?_
      refine DW.fixNB rfl rfl rfl rfl rfl (ne_beq (v := true) rfl rfl) ?_
      refine DW.soleNB rfl rfl rfl rfl rfl (ne_beq (v := true) rfl rfl) ?_
      refine DW.soleNB rfl rfl rfl rfl rfl (ne_beq (v := true) rfl rfl) ?_
      refine DW.fixNB rfl rfl rfl rfl rfl (ne_beq (v := true) rfl rfl) ?_
      refine DW.fix rfl rfl rfl (fun _ EQ => RV.pickTB rfl rfl rfl) ?_
      refine DW.fix rfl rfl rfl (fun _ EQ => RV.move rfl) ?_
      refine DW.fixNB rfl rfl rfl rfl rfl (ne_beq (v := true) rfl rfl) ?_
      refine DW.fixNB rfl rfl rfl rfl rfl (ne_beq (v := true) rfl rfl) ?_
      refine DW.fixNB rfl rfl rfl rfl rfl (ne_beq (v := true) rfl rfl) ?_
      refine DW.soleNB rfl rfl rfl rfl rfl (ne_beq (v := true) rfl rfl) ?_
      refine DW.fixNB rfl rfl rfl rfl rfl (ne_beq (v := true) rfl rfl) ?_
      refine DW.fix rfl rfl rfl (fun _ EQ => RV.pickTB rfl rfl rfl) ?_
      replace H := H.pick (L' := []) [] (by decide) rfl
      replace R0 := H.ext
      refine DW.nil (jK10 _ _ ⟨_, ?_, ⟨true, F, rfl, H⟩⟩)
      exact ⟨rfl, rfl, trivial⟩
end Go.D7

set_option linter.unusedVariables false
set_option linter.unusedSimpArgs false
namespace Go.D7
open Go.Tb Go.Proofs Go.RowKit
theorem Tc17 : callable Try.prog 17 = true := by kernel_rfl
theorem Tc18 : callable Try.prog 18 = true := by kernel_rfl
end Go.D7

set_option linter.unusedVariables false
set_option linter.unusedSimpArgs false
namespace Go.D7
open Go.Tb Go.Proofs Go.RowKit
theorem Tb4 : Try.prog.underlying 4 = some .bool := by kernel_rfl
theorem Tc44 : callable Try.prog 44 = true := by kernel_rfl
set_option maxRecDepth 20000 in
set_option maxHeartbeats 1000000 in
theorem bulk_IsBest_ok {a0 : Trade} {a1 : List (List Int)} {A_a0_supply : Option Addr} {c_a0_supply : Nat} {A_a0_demand : Option Addr} {c_a0_demand : Nat} {A_a0_cost : Option Addr} {c_a0_cost : Nat} {A_a1 : Option Addr} {c_a1 : Nat} {w : World} {res : Bool × Int} (h_a0_supply : Sl w A_a0_supply c_a0_supply 1 (a0.supply.map encN)) (h_a0_demand : Sl w A_a0_demand c_a0_demand 1 (a0.demand.map encN)) (h_a0_cost : Sl2 w A_a0_cost c_a0_cost 1 encN a0.cost) (h_a1 : Sl2 w A_a1 c_a1 1 encN a1) (F : bulk_IsBest a0 a1 = some res) : Calls Try.prog 44 #[.agg #[.slice A_a0_supply a0.supply.length c_a0_supply, .slice A_a0_demand a0.demand.length c_a0_demand, .slice A_a0_cost a0.cost.length c_a0_cost], .slice A_a1 a1.length c_a1] w (Rt w (.tuple #[.bool res.1, .int .i64 res.2])) := by
  refine calls_of_cw (args := [.agg #[.slice A_a0_supply a0.supply.length c_a0_supply, .slice A_a0_demand a0.demand.length c_a0_demand, .slice A_a0_cost a0.cost.length c_a0_cost], .slice A_a1 a1.length c_a1]) Try.func44 rfl rfl rfl rfl ?_
  have H := Hp.start w
  have R0 := H.ext
  unfold bulk_IsBest at F
  refine CW.seq fun K1 hK1 => ?_
  refine CW.region ?_
  refine LW.go rfl rfl (OW.box rfl fun b1 w1 N1 => ?_)
  replace H := H.new N1 N1.blk
  replace R0 := H.ext
  refine LW.pure rfl rfl (RV.assign rfl) ?_
  refine LW.pure rfl rfl (RV.assign rfl) ?_
  refine LW.nil (hK1 _ _ ?_)
  refine CW.seq fun K2 hK2 => ?_
  refine CW.seq fun K3 hK3 => ?_
  obtain ⟨r1, hr1, F⟩ := bnd_some F
  refine CW.region ?_
  refine LW.pure rfl rfl (RV.loadA [.slice A_a0_supply a0.supply.length c_a0_supply, .slice A_a0_demand a0.demand.length c_a0_demand, .slice A_a0_cost a0.cost.length c_a0_cost] Tk25 rfl (H.blk 0 rfl).cells rfl rfl) ?_
  refine LW.pure rfl rfl (RV.move rfl) ?_
  refine LW.go rfl rfl (OW.call Tc34 rfl (bulk_CheckPlan_ok (a0 := a0) (a1 := a1) (h_a0_supply.ext R0) (h_a0_demand.ext R0) (h_a0_cost.ext R0) (h_a1.ext R0) hr1) ?_)
  rintro _ w2 ⟨rfl, E1⟩
  refine ⟨_, rfl, ?_⟩
  replace H := H.grow E1
  replace R0 := H.ext
  refine LW.pure rfl rfl (RV.assign rfl) ?_
  refine LW.nil (hK3 _ _ ?_)
  refine CW.seq fun K4 hK4 => ?_
  refine CW.region ?_
  refine LW.pure rfl rfl (RV.move rfl) ?_
  refine LW.pure rfl rfl (RV.nei rfl rfl) ?_
  refine LW.nil (hK4 _ _ ?_)
  by_cases hp1 : r1 = 0
  ·
    replace F := ite_y hp1 F
    have hq1 := dec_t hp1
    refine CW.condF rfl (not_f hq1) ?_
    refine CW.skip (hK2 _ _ ?_)
    refine CW.seq fun K5 hK5 => ?_
    obtain ⟨r2, hr2, F⟩ := bnd_some F
    refine CW.region ?_
    refine LW.pure rfl rfl (RV.loadA [.slice A_a0_supply a0.supply.length c_a0_supply, .slice A_a0_demand a0.demand.length c_a0_demand, .slice A_a0_cost a0.cost.length c_a0_cost] Tk25 rfl (H.blk 0 rfl).cells rfl rfl) ?_
    refine LW.pure rfl rfl (RV.move rfl) ?_
    refine LW.go rfl rfl (OW.call Tc79 rfl (bulk_search_ok (a0 := a0) (a1 := a1) (h_a0_supply.ext R0) (h_a0_demand.ext R0) (h_a0_cost.ext R0) (h_a1.ext R0) hr2) ?_)
    rintro _ w3 ⟨A6_0, c6_0, A6_1, c6_1, rfl, hnl6_1, E2⟩
    refine ⟨_, rfl, ?_⟩
    replace H : Hp w w3 [.own A6_0 c6_0 3 1 (List.map encN r2.1), .own A6_1 c6_1 96 1 (List.map encStep r2.2), .blk b1 25 [.slice A_a0_supply a0.supply.length c_a0_supply, .slice A_a0_demand a0.demand.length c_a0_demand, .slice A_a0_cost a0.cost.length c_a0_cost]] := H.append E2
    replace R0 := H.ext
    refine LW.pure rfl rfl (RV.move rfl) ?_
    refine LW.pure rfl rfl (RV.extract rfl rfl) ?_
    refine LW.pure rfl rfl (RV.extract rfl rfl) ?_
    refine LW.pure rfl rfl (RV.assign rfl) ?_
    refine LW.pure rfl rfl (RV.assign rfl) ?_
    refine LW.nil (hK5 _ _ ?_)
    refine CW.seq fun K6 hK6 => ?_
    refine CW.region ?_
    refine LW.pure rfl rfl (RV.move rfl) ?_
    refine LW.pure rfl rfl (RV.eqnilL (l := r2.2) Ts82 rfl rfl hnl6_1) ?_
    refine LW.pure rfl rfl (RV.assign rfl) ?_
    refine LW.pure rfl rfl (RV.assign rfl) ?_
    refine LW.nil (hK6 _ _ ?_)
    refine CW.ret ?_
    obtain rfl := Option.some.inj F
    refine ⟨_, (ResOK.two rfl rfl), ?_⟩
    refine ⟨(by first | rfl | simp), R0⟩
  ·
    replace F := ite_n hp1 F
    have hq1 := dec_f hp1
    refine CW.condT rfl (not_t hq1) ?_
    refine CW.seq fun K7 hK7 => ?_
    refine CW.region ?_
    refine LW.pure rfl rfl (RV.move rfl) ?_
    refine LW.pure rfl rfl (RV.assign rfl) ?_
    refine LW.pure rfl rfl (RV.assign rfl) ?_
    refine LW.nil (hK7 _ _ ?_)
    refine CW.ret ?_
    obtain rfl := Option.some.inj F
    refine ⟨_, (ResOK.two rfl rfl), ?_⟩
    refine ⟨(by first | rfl | simp), R0⟩
end Go.D7

set_option linter.unusedVariables false
set_option linter.unusedSimpArgs false
namespace Go.D7
open Go.Tb Go.Proofs Go.RowKit
theorem Tc50 : callable Try.prog 50 = true := by kernel_rfl
theorem Tc51 : callable Try.prog 51 = true := by kernel_rfl
set_option maxRecDepth 20000 in
set_option maxHeartbeats 1000000 in
theorem bulk_IsSquare_ok {a0 : Trade} {A_a0_supply : Option Addr} {c_a0_supply : Nat} {A_a0_demand : Option Addr} {c_a0_demand : Nat} {A_a0_cost : Option Addr} {c_a0_cost : Nat} {w : World} {res : Bool × Int} (h_a0_supply : Sl w A_a0_supply c_a0_supply 1 (a0.supply.map encN)) (h_a0_demand : Sl w A_a0_demand c_a0_demand 1 (a0.demand.map encN)) (h_a0_cost : Sl2 w A_a0_cost c_a0_cost 1 encN a0.cost) (F : bulk_IsSquare a0 = some res) : Calls Try.prog 50 #[.agg #[.slice A_a0_supply a0.supply.length c_a0_supply, .slice A_a0_demand a0.demand.length c_a0_demand, .slice A_a0_cost a0.cost.length c_a0_cost]] w (Rt w (.tuple #[.bool res.1, .int .i64 res.2])) := by
  refine calls_of_cw (args := [.agg #[.slice A_a0_supply a0.supply.length c_a0_supply, .slice A_a0_demand a0.demand.length c_a0_demand, .slice A_a0_cost a0.cost.length c_a0_cost]]) Try.func50 rfl rfl rfl rfl ?_
  have H := Hp.start w
  have R0 := H.ext
  unfold bulk_IsSquare at F
  refine CW.seq fun K1 hK1 => ?_
  refine CW.region ?_
  refine LW.go rfl rfl (OW.box rfl fun b1 w1 N1 => ?_)
  replace H := H.new N1 N1.blk
  replace R0 := H.ext
  refine LW.pure rfl rfl (RV.assign rfl) ?_
  refine LW.pure rfl rfl (RV.assign rfl) ?_
  refine LW.nil (hK1 _ _ ?_)
  refine CW.seq fun K2 hK2 => ?_
  refine CW.seq fun K3 hK3 => ?_
  obtain ⟨r1, hr1, F⟩ := bnd_some F
  refine CW.region ?_
  refine LW.pure rfl rfl (RV.loadA [.slice A_a0_supply a0.supply.length c_a0_supply, .slice A_a0_demand a0.demand.length c_a0_demand, .slice A_a0_cost a0.cost.length c_a0_cost] Tk25 rfl (H.blk 0 rfl).cells rfl rfl) ?_
  refine LW.go rfl rfl (OW.call Tc38 rfl (bulk_Validate_ok (a0 := a0) (h_a0_supply.ext R0) (h_a0_demand.ext R0) (h_a0_cost.ext R0) hr1) ?_)
  rintro _ w2 ⟨rfl, E1⟩
  refine ⟨_, rfl, ?_⟩
  replace H := H.grow E1
  replace R0 := H.ext
  refine LW.pure rfl rfl (RV.assign rfl) ?_
  refine LW.nil (hK3 _ _ ?_)
  refine CW.seq fun K4 hK4 => ?_
  refine CW.region ?_
  refine LW.pure rfl rfl (RV.move rfl) ?_
  refine LW.pure rfl rfl (RV.nei rfl rfl) ?_
  refine LW.nil (hK4 _ _ ?_)
  by_cases hp1 : r1 = 0
  ·
    replace F := ite_y hp1 F
    have hq1 := dec_t hp1
    refine CW.condF rfl (not_f hq1) ?_
    refine CW.skip (hK2 _ _ ?_)
    refine CW.seqJ (fun ρ wl1 => (bulk_IsSquare_k1 = some res ∧ ρ = [(2, .bool false), (3, .int .i64 0)] ∧ Hp w wl1 [])) ?_ ?_
    ·
      rintro _ wl1 ⟨F, rfl, H⟩
      have R0 := H.ext
      unfold bulk_IsSquare_k1 at F
      refine CW.seq fun K5 hK5 => ?_
      refine CW.region ?_
      refine LW.pure rfl rfl (RV.assign rfl) ?_
      refine LW.pure rfl rfl (RV.assign rfl) ?_
      refine LW.nil (hK5 _ _ ?_)
      refine CW.ret ?_
      obtain rfl := Option.some.inj F
      refine ⟨_, (ResOK.two rfl rfl), ?_⟩
      refine ⟨(by first | rfl | simp), R0⟩
    ·
      intro K6 hK6 jK14389
      refine CW.seq fun K7 hK7 => ?_
      refine CW.region ?_
      refine LW.pure rfl rfl (RV.fieldAddr Tf25_2 rfl) ?_
      refine LW.pure rfl rfl (RV.load1 Tk23 rfl ((H.blk 0 rfl).cells.off 2) rfl) ?_
      refine LW.pure rfl rfl (RV.len Ts23 rfl) ?_
      refine LW.pure rfl rfl (RV.move rfl) ?_
      refine LW.nil (hK7 _ _ ?_)
      refine CW.block ?_
      refine CW.loop (fun meas ρ wl2 => ∃ (t17_1 : Int), bulk_IsSquare_L4 a0 meas t17_1 = some res ∧ ρ = [(1, .pointer (some (⟨b1, 0, none⟩))), (2, .bool false), (3, .int .i64 0), (16, .int .i64 ((a0.cost.length : Int))), (17, .int .i64 t17_1)] ∧ Hp w wl2 [.blk b1 25 [.slice A_a0_supply a0.supply.length c_a0_supply, .slice A_a0_demand a0.demand.length c_a0_demand, .slice A_a0_cost a0.cost.length c_a0_cost]]) FU ⟨_, ?_, ((0 : Int)), F, rfl, H⟩ ?_
      · exact ⟨rfl, rfl, rfl, rfl, rfl, trivial⟩
      rintro mk1 _ wl2 ⟨t17_1, F, rfl, H⟩
      have R0 := H.ext
      replace F := bulk_IsSquare_L4_s F
      obtain ⟨mk1, rfl, F⟩ := F
      generalize hrec1 : bulk_IsSquare_L4 a0 mk1 = rec1 at F
      unfold bulk_IsSquare_B4 at F
      refine CW.seq fun K8 hK8 => ?_
      refine CW.region ?_
      refine LW.pure rfl rfl (RV.lss rfl rfl) ?_
      refine LW.nil (hK8 _ _ ?_)
      refine CW.seq fun K9 hK9 => ?_
      by_cases hp2 : t17_1 < ((a0.cost.length : Int))
      ·
        replace F := ite_y hp2 F
        have hq2 := dec_t hp2
        refine CW.condT rfl hq2 ?_
        refine CW.skip (hK9 _ _ ?_)
        refine CW.seqJ (fun ρ wl3 => (bulk_IsSquare_k2 t17_1 rec1 = some res ∧ ρ = [(1, .pointer (some (⟨b1, 0, none⟩))), (2, .bool false), (3, .int .i64 0), (16, .int .i64 ((a0.cost.length : Int))), (17, .int .i64 t17_1)] ∧ Hp w wl3 [.blk b1 25 [.slice A_a0_supply a0.supply.length c_a0_supply, .slice A_a0_demand a0.demand.length c_a0_demand, .slice A_a0_cost a0.cost.length c_a0_cost]])) ?_ ?_
        ·
          rintro _ wl3 ⟨F, rfl, H⟩
          have R0 := H.ext
          unfold bulk_IsSquare_k2 at F
          obtain ⟨hg1, F⟩ := gd_some F
          refine CW.region ?_
          refine LW.pure rfl rfl (RV.add rfl rfl hg1) ?_
          refine LW.pure rfl rfl (RV.move rfl) ?_
          refine LW.nil ?_
          subst hrec1
          refine ⟨mk1, Nat.lt_succ_self _, _, ?_, (t17_1 + 1), F, rfl, H⟩
          exact ⟨rfl, rfl, rfl, rfl, rfl, trivial⟩
        ·
          intro K10 hK10 jK18384
          refine CW.block ?_
          refine CW.seq fun K11 hK11 => ?_
          refine CW.region ?_
          refine LW.pure rfl rfl (RV.move rfl) ?_
          refine LW.pure rfl rfl (RV.assign rfl) ?_
          refine LW.nil (hK11 _ _ ?_)
          refine CW.seq fun K12 hK12 => ?_
          refine CW.region ?_
          refine LW.pure rfl rfl (RV.move rfl) ?_
          refine LW.pure rfl rfl (RV.move rfl) ?_
          refine LW.nil (hK12 _ _ ?_)
          refine CW.block ?_
          refine CW.loop (fun meas ρ wl4 => ∃ (t21_1 : Int), bulk_IsSquare_L3 a0 t17_1 rec1 meas t21_1 = some res ∧ ρ = [(1, .pointer (some (⟨b1, 0, none⟩))), (2, .bool false), (3, .int .i64 0), (5, .int .i64 t17_1), (16, .int .i64 ((a0.cost.length : Int))), (17, .int .i64 t17_1), (20, .int .i64 t17_1), (21, .int .i64 t21_1)] ∧ Hp w wl4 [.blk b1 25 [.slice A_a0_supply a0.supply.length c_a0_supply, .slice A_a0_demand a0.demand.length c_a0_demand, .slice A_a0_cost a0.cost.length c_a0_cost]]) FU ⟨_, ?_, ((0 : Int)), F, rfl, H⟩ ?_
          · exact ⟨rfl, rfl, rfl, rfl, rfl, rfl, rfl, rfl, trivial⟩
          rintro mk2 _ wl4 ⟨t21_1, F, rfl, H⟩
          have R0 := H.ext
          replace F := bulk_IsSquare_L3_s F
          obtain ⟨mk2, rfl, F⟩ := F
          generalize hrec2 : bulk_IsSquare_L3 a0 t17_1 rec1 mk2 = rec2 at F
          unfold bulk_IsSquare_B3 at F
          refine CW.seq fun K13 hK13 => ?_
          refine CW.region ?_
          refine LW.pure rfl rfl (RV.lss rfl rfl) ?_
          refine LW.nil (hK13 _ _ ?_)
          refine CW.seq fun K14 hK14 => ?_
          by_cases hp3 : t21_1 < t17_1
          ·
            replace F := ite_y hp3 F
            have hq3 := dec_t hp3
            refine CW.condT rfl hq3 ?_
            refine CW.skip (hK14 _ _ ?_)
            refine CW.seqJ (fun ρ wl5 => (bulk_IsSquare_k3 t21_1 rec2 = some res ∧ ρ = [(1, .pointer (some (⟨b1, 0, none⟩))), (2, .bool false), (3, .int .i64 0), (5, .int .i64 t17_1), (16, .int .i64 ((a0.cost.length : Int))), (17, .int .i64 t17_1), (20, .int .i64 t17_1), (21, .int .i64 t21_1)] ∧ Hp w wl5 [.blk b1 25 [.slice A_a0_supply a0.supply.length c_a0_supply, .slice A_a0_demand a0.demand.length c_a0_demand, .slice A_a0_cost a0.cost.length c_a0_cost]])) ?_ ?_
            ·
              rintro _ wl5 ⟨F, rfl, H⟩
              have R0 := H.ext
              unfold bulk_IsSquare_k3 at F
              obtain ⟨hg2, F⟩ := gd_some F
              refine CW.region ?_
              refine LW.pure rfl rfl (RV.add rfl rfl hg2) ?_
              refine LW.pure rfl rfl (RV.move rfl) ?_
              refine LW.nil ?_
              subst hrec2
              refine ⟨mk2, Nat.lt_succ_self _, _, ?_, (t21_1 + 1), F, rfl, H⟩
              exact ⟨rfl, rfl, rfl, rfl, rfl, rfl, rfl, rfl, trivial⟩
            ·
              intro K15 hK15 jK19050
              refine CW.block ?_
              refine CW.seq fun K16 hK16 => ?_
              refine CW.region ?_
              refine LW.pure rfl rfl (RV.move rfl) ?_
              refine LW.pure rfl rfl (RV.assign rfl) ?_
              refine LW.nil (hK16 _ _ ?_)
              refine CW.seq fun K17 hK17 => ?_
              refine CW.region ?_
              refine LW.pure rfl rfl (RV.fieldAddr Tf25_1 rfl) ?_
              refine LW.pure rfl rfl (RV.load1 Tk22 rfl ((H.blk 0 rfl).cells.off 1) rfl) ?_
              refine LW.pure rfl rfl (RV.len Ts22 rfl) ?_
              refine LW.pure rfl rfl (RV.move rfl) ?_
              refine LW.nil (hK17 _ _ ?_)
              refine CW.block ?_
              refine CW.loop (fun meas ρ wl6 => ∃ (t27_1 : Int), bulk_IsSquare_L2 a0 t17_1 t21_1 rec2 meas t27_1 = some res ∧ ρ = [(1, .pointer (some (⟨b1, 0, none⟩))), (2, .bool false), (3, .int .i64 0), (5, .int .i64 t17_1), (6, .int .i64 t21_1), (16, .int .i64 ((a0.cost.length : Int))), (17, .int .i64 t17_1), (20, .int .i64 t17_1), (21, .int .i64 t21_1), (26, .int .i64 ((a0.demand.length : Int))), (27, .int .i64 t27_1)] ∧ Hp w wl6 [.blk b1 25 [.slice A_a0_supply a0.supply.length c_a0_supply, .slice A_a0_demand a0.demand.length c_a0_demand, .slice A_a0_cost a0.cost.length c_a0_cost]]) FU ⟨_, ?_, ((0 : Int)), F, rfl, H⟩ ?_
              · exact ⟨rfl, rfl, rfl, rfl, rfl, rfl, rfl, rfl, rfl, rfl, rfl, trivial⟩
              rintro mk3 _ wl6 ⟨t27_1, F, rfl, H⟩
              have R0 := H.ext
              replace F := bulk_IsSquare_L2_s F
              obtain ⟨mk3, rfl, F⟩ := F
              generalize hrec3 : bulk_IsSquare_L2 a0 t17_1 t21_1 rec2 mk3 = rec3 at F
              unfold bulk_IsSquare_B2 at F
              refine CW.seq fun K18 hK18 => ?_
              refine CW.region ?_
              refine LW.pure rfl rfl (RV.lss rfl rfl) ?_
              refine LW.nil (hK18 _ _ ?_)
              refine CW.seq fun K19 hK19 => ?_
              by_cases hp4 : t27_1 < ((a0.demand.length : Int))
              ·
                replace F := ite_y hp4 F
                have hq4 := dec_t hp4
                refine CW.condT rfl hq4 ?_
                refine CW.skip (hK19 _ _ ?_)
                refine CW.seqJ (fun ρ wl7 => (bulk_IsSquare_k4 t27_1 rec3 = some res ∧ ρ = [(1, .pointer (some (⟨b1, 0, none⟩))), (2, .bool false), (3, .int .i64 0), (5, .int .i64 t17_1), (6, .int .i64 t21_1), (16, .int .i64 ((a0.cost.length : Int))), (17, .int .i64 t17_1), (20, .int .i64 t17_1), (21, .int .i64 t21_1), (26, .int .i64 ((a0.demand.length : Int))), (27, .int .i64 t27_1)] ∧ Hp w wl7 [.blk b1 25 [.slice A_a0_supply a0.supply.length c_a0_supply, .slice A_a0_demand a0.demand.length c_a0_demand, .slice A_a0_cost a0.cost.length c_a0_cost]])) ?_ ?_
                ·
                  rintro _ wl7 ⟨F, rfl, H⟩
                  have R0 := H.ext
                  unfold bulk_IsSquare_k4 at F
                  obtain ⟨hg3, F⟩ := gd_some F
                  refine CW.region ?_
                  refine LW.pure rfl rfl (RV.add rfl rfl hg3) ?_
                  refine LW.pure rfl rfl (RV.move rfl) ?_
                  refine LW.nil ?_
                  subst hrec3
                  refine ⟨mk3, Nat.lt_succ_self _, _, ?_, (t27_1 + 1), F, rfl, H⟩
                  exact ⟨rfl, rfl, rfl, rfl, rfl, rfl, rfl, rfl, rfl, rfl, rfl, trivial⟩
                ·
                  intro K20 hK20 jK19161
                  refine CW.block ?_
                  refine CW.seq fun K21 hK21 => ?_
                  refine CW.region ?_
                  refine LW.pure rfl rfl (RV.move rfl) ?_
                  refine LW.pure rfl rfl (RV.assign rfl) ?_
                  refine LW.nil (hK21 _ _ ?_)
                  refine CW.seq fun K22 hK22 => ?_
                  refine CW.region ?_
                  refine LW.pure rfl rfl (RV.move rfl) ?_
                  refine LW.pure rfl rfl (RV.move rfl) ?_
                  refine LW.nil (hK22 _ _ ?_)
                  refine CW.block ?_
                  refine CW.loop (fun meas ρ wl8 => ∃ (t31_1 : Int), bulk_IsSquare_L1 a0 t17_1 t21_1 t27_1 rec3 meas t31_1 = some res ∧ ρ = [(1, .pointer (some (⟨b1, 0, none⟩))), (2, .bool false), (3, .int .i64 0), (5, .int .i64 t17_1), (6, .int .i64 t21_1), (7, .int .i64 t27_1), (16, .int .i64 ((a0.cost.length : Int))), (17, .int .i64 t17_1), (20, .int .i64 t17_1), (21, .int .i64 t21_1), (26, .int .i64 ((a0.demand.length : Int))), (27, .int .i64 t27_1), (30, .int .i64 t27_1), (31, .int .i64 t31_1)] ∧ Hp w wl8 [.blk b1 25 [.slice A_a0_supply a0.supply.length c_a0_supply, .slice A_a0_demand a0.demand.length c_a0_demand, .slice A_a0_cost a0.cost.length c_a0_cost]]) FU ⟨_, ?_, ((0 : Int)), F, rfl, H⟩ ?_
                  · exact ⟨rfl, rfl, rfl, rfl, rfl, rfl, rfl, rfl, rfl, rfl, rfl, rfl, rfl, rfl, trivial⟩
                  rintro mk4 _ wl8 ⟨t31_1, F, rfl, H⟩
                  have R0 := H.ext
                  replace F := bulk_IsSquare_L1_s F
                  obtain ⟨mk4, rfl, F⟩ := F
                  generalize hrec4 : bulk_IsSquare_L1 a0 t17_1 t21_1 t27_1 rec3 mk4 = rec4 at F
                  unfold bulk_IsSquare_B1 at F
                  refine CW.seq fun K23 hK23 => ?_
                  refine CW.region ?_
                  refine LW.pure rfl rfl (RV.lss rfl rfl) ?_
                  refine LW.nil (hK23 _ _ ?_)
                  refine CW.seq fun K24 hK24 => ?_
                  by_cases hp5 : t31_1 < t27_1
                  ·
                    replace F := ite_y hp5 F
                    have hq5 := dec_t hp5
                    refine CW.condT rfl hq5 ?_
                    refine CW.skip (hK24 _ _ ?_)
                    refine CW.seq fun K25 hK25 => ?_
                    refine CW.block ?_
                    refine CW.seq fun K26 hK26 => ?_
                    refine CW.region ?_
                    refine LW.pure rfl rfl (RV.move rfl) ?_
                    refine LW.pure rfl rfl (RV.assign rfl) ?_
                    refine LW.nil (hK26 _ _ ?_)
                    refine CW.seq fun K27 hK27 => ?_
                    obtain ⟨x1, hbx1, hx1, F⟩ := ix_some F
                    obtain ⟨x2, hbx2, hx2, F⟩ := ix_some F
                    obtain ⟨x3, hbx3, hx3, F⟩ := ix_some F
                    obtain ⟨x4, hbx4, hx4, F⟩ := ix_some F
                    obtain ⟨hg4, F⟩ := gd_some F
                    obtain ⟨x5, hbx5, hx5, F⟩ := ix_some F
                    obtain ⟨x6, hbx6, hx6, F⟩ := ix_some F
                    obtain ⟨x7, hbx7, hx7, F⟩ := ix_some F
                    obtain ⟨x8, hbx8, hx8, F⟩ := ix_some F
                    obtain ⟨hg5, F⟩ := gd_some F
                    refine CW.draw [] (fun _ => True) (.cons 0 1 (.cons 1 1 (.cons 2 1 (.cons 3 1 (.cons 4 1 (.cons 5 1 (.cons 6 1 (.cons 7 1 (.cons 8 1 (.cons 9 1 (.cons 10 1 (.cons 11 1 (.cons 12 1 (.cons 13 1 (.cons 14 1 (.cons 15 1 (.cons 16 1 (.cons 17 1 (.cons 18 1 (.cons 19 1 (.cons 20 1 (.cons 21 1 (.cons 22 1 (.cons 23 1 (.cons 24 1 (.cons 25 1 (.cons 26 1 (.cons 27 1 (.cons 28 1 (.cons 29 1 (.cons 30 1 (.cons 31 1 (.cons 32 1 (.cons 33 1 (.cons 34 1 .nil))))))))))))))))))))))))))))))))))) mixed (by kernel_rfl) fun w3 E2 => ?_
                    replace H := H.grow E2
                    replace R0 := H.ext
                    refine DW.fix rfl rfl rfl (fun _ EQ => RV.fieldAddr Tf25_2 rfl) ?_
                    refine DW.fix rfl rfl rfl (fun _ EQ => RV.load1 Tk23 rfl (((H.grow EQ).blk 0 rfl).cells.off 2) rfl) ?_
                    refine DW.fix rfl rfl rfl (fun _ EQ => RV.move rfl) ?_
                    obtain ⟨A1, c1, hC1, hS1⟩ := h_a0_cost.at_ hx1
                    refine DW.fix rfl rfl rfl (fun _ EQ => RV.indexAddr Ts23 rfl rfl hbx1 (h_a0_cost.addr hbx1)) ?_
                    refine DW.fix rfl rfl rfl (fun _ EQ => RV.load1 Tk22 rfl (hC1.ext (R0.trans EQ)) rfl) ?_
                    refine DW.fix rfl rfl rfl (fun _ EQ => RV.move rfl) ?_
                    refine DW.fix rfl rfl rfl (fun _ EQ => RV.indexAddr Ts22 rfl rfl hbx2 (hS1.addr_ hx2)) ?_
                    refine DW.fix rfl rfl rfl (fun _ EQ => RV.load1 Tk3 rfl ((hS1.at_ hx2).ext (R0.trans EQ)) rfl) ?_
                    refine DW.fix rfl rfl rfl (fun _ EQ => RV.fieldAddr Tf25_2 rfl) ?_
                    refine DW.fix rfl rfl rfl (fun _ EQ => RV.load1 Tk23 rfl (((H.grow EQ).blk 0 rfl).cells.off 2) rfl) ?_
                    refine DW.fix rfl rfl rfl (fun _ EQ => RV.move rfl) ?_
                    obtain ⟨A2, c2, hC2, hS2⟩ := h_a0_cost.at_ hx3
                    refine DW.fix rfl rfl rfl (fun _ EQ => RV.indexAddr Ts23 rfl rfl hbx3 (h_a0_cost.addr hbx3)) ?_
                    refine DW.fix rfl rfl rfl (fun _ EQ => RV.load1 Tk22 rfl (hC2.ext (R0.trans EQ)) rfl) ?_
                    refine DW.fix rfl rfl rfl (fun _ EQ => RV.move rfl) ?_
                    refine DW.fix rfl rfl rfl (fun _ EQ => RV.indexAddr Ts22 rfl rfl hbx4 (hS2.addr_ hx4)) ?_
                    refine DW.fix rfl rfl rfl (fun _ EQ => RV.load1 Tk3 rfl ((hS2.at_ hx4).ext (R0.trans EQ)) rfl) ?_
                    refine DW.fix rfl rfl rfl (fun _ EQ => RV.add rfl rfl hg4) ?_
                    refine DW.fix rfl rfl rfl (fun _ EQ => RV.fieldAddr Tf25_2 rfl) ?_
                    refine DW.fix rfl rfl rfl (fun _ EQ => RV.load1 Tk23 rfl (((H.grow EQ).blk 0 rfl).cells.off 2) rfl) ?_
                    refine DW.fix rfl rfl rfl (fun _ EQ => RV.move rfl) ?_
                    obtain ⟨A3, c3, hC3, hS3⟩ := h_a0_cost.at_ hx5
                    refine DW.fix rfl rfl rfl (fun _ EQ => RV.indexAddr Ts23 rfl rfl hbx5 (h_a0_cost.addr hbx5)) ?_
                    refine DW.fix rfl rfl rfl (fun _ EQ => RV.load1 Tk22 rfl (hC3.ext (R0.trans EQ)) rfl) ?_
                    refine DW.fix rfl rfl rfl (fun _ EQ => RV.move rfl) ?_
                    refine DW.fix rfl rfl rfl (fun _ EQ => RV.indexAddr Ts22 rfl rfl hbx6 (hS3.addr_ hx6)) ?_
                    refine DW.fix rfl rfl rfl (fun _ EQ => RV.load1 Tk3 rfl ((hS3.at_ hx6).ext (R0.trans EQ)) rfl) ?_
                    refine DW.fix rfl rfl rfl (fun _ EQ => RV.fieldAddr Tf25_2 rfl) ?_
                    refine DW.fix rfl rfl rfl (fun _ EQ => RV.load1 Tk23 rfl (((H.grow EQ).blk 0 rfl).cells.off 2) rfl) ?_
                    refine DW.fix rfl rfl rfl (fun _ EQ => RV.move rfl) ?_
                    obtain ⟨A4, c4, hC4, hS4⟩ := h_a0_cost.at_ hx7
                    refine DW.fix rfl rfl rfl (fun _ EQ => RV.indexAddr Ts23 rfl rfl hbx7 (h_a0_cost.addr hbx7)) ?_
                    refine DW.fix rfl rfl rfl (fun _ EQ => RV.load1 Tk22 rfl (hC4.ext (R0.trans EQ)) rfl) ?_
                    refine DW.fix rfl rfl rfl (fun _ EQ => RV.move rfl) ?_
                    refine DW.fix rfl rfl rfl (fun _ EQ => RV.indexAddr Ts22 rfl rfl hbx8 (hS4.addr_ hx8)) ?_
                    refine DW.fix rfl rfl rfl (fun _ EQ => RV.load1 Tk3 rfl ((hS4.at_ hx8).ext (R0.trans EQ)) rfl) ?_
                    refine DW.fix rfl rfl rfl (fun _ EQ => RV.add rfl rfl hg5) ?_
                    refine DW.fix rfl rfl rfl (fun _ EQ => RV.gtr rfl rfl) ?_
                    refine DW.nil (hK27 _ _ ?_)
                    by_cases hp6 : (x6 + x8) < (x2 + x4)
                    ·
                      replace F := ite_y hp6 F
                      have hq6 := dec_t hp6
                      refine CW.condT rfl hq6 ?_
                      refine CW.seq fun K28 hK28 => ?_
                      refine CW.region ?_
                      refine LW.pure rfl rfl (RV.assign rfl) ?_
                      refine LW.pure rfl rfl (RV.assign rfl) ?_
                      refine LW.nil (hK28 _ _ ?_)
                      refine CW.ret ?_
                      obtain rfl := Option.some.inj F
                      refine ⟨_, (ResOK.two rfl rfl), ?_⟩
                      refine ⟨(by first | rfl | simp), R0⟩
                    ·
                      replace F := ite_n hp6 F
                      have hq6 := dec_f hp6
                      refine CW.condF rfl hq6 ?_
                      refine CW.skip (hK25 _ _ ?_)
                      obtain ⟨hg6, F⟩ := gd_some F
                      refine CW.region ?_
                      refine LW.pure rfl rfl (RV.add rfl rfl hg6) ?_
                      refine LW.pure rfl rfl (RV.move rfl) ?_
                      refine LW.nil ?_
                      subst hrec4
                      refine ⟨mk4, Nat.lt_succ_self _, _, ?_, (t31_1 + 1), F, rfl, H⟩
                      exact ⟨rfl, rfl, rfl, rfl, rfl, rfl, rfl, rfl, rfl, rfl, rfl, rfl, rfl, rfl, trivial⟩
                  ·
                    replace F := ite_n hp5 F
                    have hq5 := dec_f hp5
                    refine CW.condF rfl hq5 ?_
                    refine CW.exit (jK19161 _ _ ⟨_, ?_, ⟨F, rfl, H⟩⟩)
                    exact ⟨rfl, rfl, rfl, rfl, rfl, rfl, rfl, rfl, rfl, rfl, rfl, trivial⟩
              ·
                replace F := ite_n hp4 F
                have hq4 := dec_f hp4
                refine CW.condF rfl hq4 ?_
                refine CW.exit (jK19050 _ _ ⟨_, ?_, ⟨F, rfl, H⟩⟩)
                exact ⟨rfl, rfl, rfl, rfl, rfl, rfl, rfl, rfl, trivial⟩
          ·
            replace F := ite_n hp3 F
            have hq3 := dec_f hp3
            refine CW.condF rfl hq3 ?_
            refine CW.exit (jK18384 _ _ ⟨_, ?_, ⟨F, rfl, H⟩⟩)
            exact ⟨rfl, rfl, rfl, rfl, rfl, trivial⟩
      ·
        replace F := ite_n hp2 F
        have hq2 := dec_f hp2
        refine CW.condF rfl hq2 ?_
        replace H := H.pick (L' := []) [] (by decide) rfl
        replace R0 := H.ext
        refine CW.exit (jK14389 _ _ ⟨_, ?_, ⟨F, rfl, H⟩⟩)
        exact ⟨rfl, rfl, trivial⟩
  ·
    replace F := ite_n hp1 F
    have hq1 := dec_f hp1
    refine CW.condT rfl (not_t hq1) ?_
    refine CW.seq fun K29 hK29 => ?_
    refine CW.region ?_
    refine LW.pure rfl rfl (RV.move rfl) ?_
    refine LW.pure rfl rfl (RV.assign rfl) ?_
    refine LW.pure rfl rfl (RV.assign rfl) ?_
    refine LW.nil (hK29 _ _ ?_)
    refine CW.ret ?_
    obtain rfl := Option.some.inj F
    refine ⟨_, (ResOK.two rfl rfl), ?_⟩
    refine ⟨(by first | rfl | simp), R0⟩
set_option maxRecDepth 20000 in
set_option maxHeartbeats 1000000 in
theorem ref07_IsSquare_ok {a0 : Trade} {A_a0_supply : Option Addr} {c_a0_supply : Nat} {A_a0_demand : Option Addr} {c_a0_demand : Nat} {A_a0_cost : Option Addr} {c_a0_cost : Nat} {w : World} {res : Bool × Int} (h_a0_supply : Sl w A_a0_supply c_a0_supply 1 (a0.supply.map encN)) (h_a0_demand : Sl w A_a0_demand c_a0_demand 1 (a0.demand.map encN)) (h_a0_cost : Sl2 w A_a0_cost c_a0_cost 1 encN a0.cost) (F : ref07_IsSquare a0 = some res) : Calls Try.prog 51 #[.agg #[.slice A_a0_supply a0.supply.length c_a0_supply, .slice A_a0_demand a0.demand.length c_a0_demand, .slice A_a0_cost a0.cost.length c_a0_cost]] w (Rt w (.tuple #[.bool res.1, .int .i64 res.2])) := by
  refine calls_of_cw (args := [.agg #[.slice A_a0_supply a0.supply.length c_a0_supply, .slice A_a0_demand a0.demand.length c_a0_demand, .slice A_a0_cost a0.cost.length c_a0_cost]]) Try.func51 rfl rfl rfl rfl ?_
  have H := Hp.start w
  have R0 := H.ext
  unfold ref07_IsSquare at F
  refine CW.seq fun K1 hK1 => ?_
  refine CW.region ?_
  refine LW.go rfl rfl (OW.box rfl fun b1 w1 N1 => ?_)
  replace H := H.new N1 N1.blk
  replace R0 := H.ext
  refine LW.pure rfl rfl (RV.assign rfl) ?_
  refine LW.pure rfl rfl (RV.assign rfl) ?_
  refine LW.nil (hK1 _ _ ?_)
  refine CW.seq fun K2 hK2 => ?_
  obtain ⟨r1, hr1, F⟩ := bnd_some F
  refine CW.region ?_
  refine LW.pure rfl rfl (RV.loadA [.slice A_a0_supply a0.supply.length c_a0_supply, .slice A_a0_demand a0.demand.length c_a0_demand, .slice A_a0_cost a0.cost.length c_a0_cost] Tk25 rfl (H.blk 0 rfl).cells rfl rfl) ?_
  refine LW.go rfl rfl (OW.call Tc39 rfl (ref07_Validate_ok (a0 := a0) (h_a0_supply.ext R0) (h_a0_demand.ext R0) (h_a0_cost.ext R0) hr1) ?_)
  rintro _ w2 ⟨rfl, E1⟩
  refine ⟨_, rfl, ?_⟩
  replace H := H.grow E1
  replace R0 := H.ext
  refine LW.pure rfl rfl (RV.assign rfl) ?_
  refine LW.nil (hK2 _ _ ?_)
  refine CW.seq fun K3 hK3 => ?_
  refine CW.seq fun K4 hK4 => ?_
  refine CW.region ?_
  refine LW.pure rfl rfl (RV.move rfl) ?_
  refine LW.pure rfl rfl (RV.nei rfl rfl) ?_
  refine LW.nil (hK4 _ _ ?_)
  by_cases hp1 : r1 = 0
  ·
    replace F := ite_y hp1 F
    have hq1 := dec_t hp1
    refine CW.condF rfl (not_f hq1) ?_
    refine CW.skip (hK3 _ _ ?_)
    refine CW.seqJ (fun ρ wl1 => (ref07_IsSquare_k1 = some res ∧ ρ = [(2, .bool false), (3, .int .i64 0)] ∧ Hp w wl1 [])) ?_ ?_
    ·
      rintro _ wl1 ⟨F, rfl, H⟩
      have R0 := H.ext
      unfold ref07_IsSquare_k1 at F
      refine CW.seq fun K5 hK5 => ?_
      refine CW.region ?_
      refine LW.pure rfl rfl (RV.assign rfl) ?_
      refine LW.pure rfl rfl (RV.assign rfl) ?_
      refine LW.nil (hK5 _ _ ?_)
      refine CW.ret ?_
      obtain rfl := Option.some.inj F
      refine ⟨_, (ResOK.two rfl rfl), ?_⟩
      refine ⟨(by first | rfl | simp), R0⟩
    ·
      intro K6 hK6 jK11671
      refine CW.seq fun K7 hK7 => ?_
      refine CW.region ?_
      refine LW.pure rfl rfl (RV.assign rfl) ?_
      refine LW.nil (hK7 _ _ ?_)
      refine CW.block ?_
      refine CW.loop (fun meas ρ wl2 => ∃ (t5_1 : Int), ref07_IsSquare_L4 a0 meas t5_1 = some res ∧ ρ = [(1, .pointer (some (⟨b1, 0, none⟩))), (2, .bool false), (3, .int .i64 0), (5, .int .i64 t5_1)] ∧ Hp w wl2 [.blk b1 25 [.slice A_a0_supply a0.supply.length c_a0_supply, .slice A_a0_demand a0.demand.length c_a0_demand, .slice A_a0_cost a0.cost.length c_a0_cost]]) FU ⟨_, ?_, ((0 : Int)), F, rfl, H⟩ ?_
      · exact ⟨rfl, rfl, rfl, rfl, trivial⟩
      rintro mk1 _ wl2 ⟨t5_1, F, rfl, H⟩
      have R0 := H.ext
      replace F := ref07_IsSquare_L4_s F
      obtain ⟨mk1, rfl, F⟩ := F
      generalize hrec1 : ref07_IsSquare_L4 a0 mk1 = rec1 at F
      unfold ref07_IsSquare_B4 at F
      refine CW.seq fun K8 hK8 => ?_
      refine CW.seq fun K9 hK9 => ?_
      refine CW.region ?_
      refine LW.pure rfl rfl (RV.move rfl) ?_
      refine LW.pure rfl rfl (RV.fieldAddr Tf25_0 rfl) ?_
      refine LW.pure rfl rfl (RV.load1 Tk22 rfl ((H.blk 0 rfl).cells.off 0) rfl) ?_
      refine LW.pure rfl rfl (RV.len Ts22 rfl) ?_
      refine LW.pure rfl rfl (RV.lss rfl rfl) ?_
      refine LW.nil (hK9 _ _ ?_)
      by_cases hp2 : t5_1 < ((a0.supply.length : Int))
      ·
        replace F := ite_y hp2 F
        have hq2 := dec_t hp2
        refine CW.condT rfl hq2 ?_
        refine CW.skip (hK8 _ _ ?_)
        refine CW.seqJ (fun ρ wl3 => (ref07_IsSquare_k2 t5_1 rec1 = some res ∧ ρ = [(1, .pointer (some (⟨b1, 0, none⟩))), (2, .bool false), (3, .int .i64 0), (5, .int .i64 t5_1)] ∧ Hp w wl3 [.blk b1 25 [.slice A_a0_supply a0.supply.length c_a0_supply, .slice A_a0_demand a0.demand.length c_a0_demand, .slice A_a0_cost a0.cost.length c_a0_cost]])) ?_ ?_
        ·
          rintro _ wl3 ⟨F, rfl, H⟩
          have R0 := H.ext
          unfold ref07_IsSquare_k2 at F
          obtain ⟨hg1, F⟩ := gd_some F
          refine CW.region ?_
          refine LW.pure rfl rfl (RV.move rfl) ?_
          refine LW.pure rfl rfl (RV.add rfl rfl hg1) ?_
          refine LW.pure rfl rfl (RV.assign rfl) ?_
          refine LW.nil ?_
          subst hrec1
          refine ⟨mk1, Nat.lt_succ_self _, _, ?_, (t5_1 + 1), F, rfl, H⟩
          exact ⟨rfl, rfl, rfl, rfl, trivial⟩
        ·
          intro K10 hK10 jK14911
          refine CW.block ?_
          refine CW.seq fun K11 hK11 => ?_
          obtain ⟨hg2, F⟩ := gd_some F
          refine CW.region ?_
          refine LW.pure rfl rfl (RV.move rfl) ?_
          refine LW.pure rfl rfl (RV.add rfl rfl hg2) ?_
          refine LW.pure rfl rfl (RV.assign rfl) ?_
          refine LW.nil (hK11 _ _ ?_)
          refine CW.block ?_
          refine CW.loop (fun meas ρ wl4 => ∃ (t6_1 : Int), ref07_IsSquare_L3 a0 t5_1 rec1 meas t6_1 = some res ∧ ρ = [(1, .pointer (some (⟨b1, 0, none⟩))), (2, .bool false), (3, .int .i64 0), (5, .int .i64 t5_1), (6, .int .i64 t6_1)] ∧ Hp w wl4 [.blk b1 25 [.slice A_a0_supply a0.supply.length c_a0_supply, .slice A_a0_demand a0.demand.length c_a0_demand, .slice A_a0_cost a0.cost.length c_a0_cost]]) FU ⟨_, ?_, (t5_1 + 1), F, rfl, H⟩ ?_
          · exact ⟨rfl, rfl, rfl, rfl, rfl, trivial⟩
          rintro mk2 _ wl4 ⟨t6_1, F, rfl, H⟩
          have R0 := H.ext
          replace F := ref07_IsSquare_L3_s F
          obtain ⟨mk2, rfl, F⟩ := F
          generalize hrec2 : ref07_IsSquare_L3 a0 t5_1 rec1 mk2 = rec2 at F
          unfold ref07_IsSquare_B3 at F
          refine CW.seq fun K12 hK12 => ?_
          refine CW.seq fun K13 hK13 => ?_
          refine CW.region ?_
          refine LW.pure rfl rfl (RV.move rfl) ?_
          refine LW.pure rfl rfl (RV.fieldAddr Tf25_0 rfl) ?_
          refine LW.pure rfl rfl (RV.load1 Tk22 rfl ((H.blk 0 rfl).cells.off 0) rfl) ?_
          refine LW.pure rfl rfl (RV.len Ts22 rfl) ?_
          refine LW.pure rfl rfl (RV.lss rfl rfl) ?_
          refine LW.nil (hK13 _ _ ?_)
          by_cases hp3 : t6_1 < ((a0.supply.length : Int))
          ·
            replace F := ite_y hp3 F
            have hq3 := dec_t hp3
            refine CW.condT rfl hq3 ?_
            refine CW.skip (hK12 _ _ ?_)
            refine CW.seqJ (fun ρ wl5 => (ref07_IsSquare_k3 t6_1 rec2 = some res ∧ ρ = [(1, .pointer (some (⟨b1, 0, none⟩))), (2, .bool false), (3, .int .i64 0), (5, .int .i64 t5_1), (6, .int .i64 t6_1)] ∧ Hp w wl5 [.blk b1 25 [.slice A_a0_supply a0.supply.length c_a0_supply, .slice A_a0_demand a0.demand.length c_a0_demand, .slice A_a0_cost a0.cost.length c_a0_cost]])) ?_ ?_
            ·
              rintro _ wl5 ⟨F, rfl, H⟩
              have R0 := H.ext
              unfold ref07_IsSquare_k3 at F
              obtain ⟨hg3, F⟩ := gd_some F
              refine CW.region ?_
              refine LW.pure rfl rfl (RV.move rfl) ?_
              refine LW.pure rfl rfl (RV.add rfl rfl hg3) ?_
              refine LW.pure rfl rfl (RV.assign rfl) ?_
              refine LW.nil ?_
              subst hrec2
              refine ⟨mk2, Nat.lt_succ_self _, _, ?_, (t6_1 + 1), F, rfl, H⟩
              exact ⟨rfl, rfl, rfl, rfl, rfl, trivial⟩
            ·
              intro K14 hK14 jK15451
              refine CW.block ?_
              refine CW.seq fun K15 hK15 => ?_
              refine CW.region ?_
              refine LW.pure rfl rfl (RV.assign rfl) ?_
              refine LW.nil (hK15 _ _ ?_)
              refine CW.block ?_
              refine CW.loop (fun meas ρ wl6 => ∃ (t7_1 : Int), ref07_IsSquare_L2 a0 t5_1 t6_1 rec2 meas t7_1 = some res ∧ ρ = [(1, .pointer (some (⟨b1, 0, none⟩))), (2, .bool false), (3, .int .i64 0), (5, .int .i64 t5_1), (6, .int .i64 t6_1), (7, .int .i64 t7_1)] ∧ Hp w wl6 [.blk b1 25 [.slice A_a0_supply a0.supply.length c_a0_supply, .slice A_a0_demand a0.demand.length c_a0_demand, .slice A_a0_cost a0.cost.length c_a0_cost]]) FU ⟨_, ?_, ((0 : Int)), F, rfl, H⟩ ?_
              · exact ⟨rfl, rfl, rfl, rfl, rfl, rfl, trivial⟩
              rintro mk3 _ wl6 ⟨t7_1, F, rfl, H⟩
              have R0 := H.ext
              replace F := ref07_IsSquare_L2_s F
              obtain ⟨mk3, rfl, F⟩ := F
              generalize hrec3 : ref07_IsSquare_L2 a0 t5_1 t6_1 rec2 mk3 = rec3 at F
              unfold ref07_IsSquare_B2 at F
              refine CW.seq fun K16 hK16 => ?_
              refine CW.seq fun K17 hK17 => ?_
              refine CW.region ?_
              refine LW.pure rfl rfl (RV.move rfl) ?_
              refine LW.pure rfl rfl (RV.fieldAddr Tf25_1 rfl) ?_
              refine LW.pure rfl rfl (RV.load1 Tk22 rfl ((H.blk 0 rfl).cells.off 1) rfl) ?_
              refine LW.pure rfl rfl (RV.len Ts22 rfl) ?_
              refine LW.pure rfl rfl (RV.lss rfl rfl) ?_
              refine LW.nil (hK17 _ _ ?_)
              by_cases hp4 : t7_1 < ((a0.demand.length : Int))
              ·
                replace F := ite_y hp4 F
                have hq4 := dec_t hp4
                refine CW.condT rfl hq4 ?_
                refine CW.skip (hK16 _ _ ?_)
                refine CW.seqJ (fun ρ wl7 => (ref07_IsSquare_k4 t7_1 rec3 = some res ∧ ρ = [(1, .pointer (some (⟨b1, 0, none⟩))), (2, .bool false), (3, .int .i64 0), (5, .int .i64 t5_1), (6, .int .i64 t6_1), (7, .int .i64 t7_1)] ∧ Hp w wl7 [.blk b1 25 [.slice A_a0_supply a0.supply.length c_a0_supply, .slice A_a0_demand a0.demand.length c_a0_demand, .slice A_a0_cost a0.cost.length c_a0_cost]])) ?_ ?_
                ·
                  rintro _ wl7 ⟨F, rfl, H⟩
                  have R0 := H.ext
                  unfold ref07_IsSquare_k4 at F
                  obtain ⟨hg4, F⟩ := gd_some F
                  refine CW.region ?_
                  refine LW.pure rfl rfl (RV.move rfl) ?_
                  refine LW.pure rfl rfl (RV.add rfl rfl hg4) ?_
                  refine LW.pure rfl rfl (RV.assign rfl) ?_
                  refine LW.nil ?_
                  subst hrec3
                  refine ⟨mk3, Nat.lt_succ_self _, _, ?_, (t7_1 + 1), F, rfl, H⟩
                  exact ⟨rfl, rfl, rfl, rfl, rfl, rfl, trivial⟩
                ·
                  intro K18 hK18 jK15541
                  refine CW.block ?_
                  refine CW.seq fun K19 hK19 => ?_
                  obtain ⟨hg5, F⟩ := gd_some F
                  refine CW.region ?_
                  refine LW.pure rfl rfl (RV.move rfl) ?_
                  refine LW.pure rfl rfl (RV.add rfl rfl hg5) ?_
                  refine LW.pure rfl rfl (RV.assign rfl) ?_
                  refine LW.nil (hK19 _ _ ?_)
                  refine CW.block ?_
                  refine CW.loop (fun meas ρ wl8 => ∃ (t8_1 : Int), ref07_IsSquare_L1 a0 t5_1 t6_1 t7_1 rec3 meas t8_1 = some res ∧ ρ = [(1, .pointer (some (⟨b1, 0, none⟩))), (2, .bool false), (3, .int .i64 0), (5, .int .i64 t5_1), (6, .int .i64 t6_1), (7, .int .i64 t7_1), (8, .int .i64 t8_1)] ∧ Hp w wl8 [.blk b1 25 [.slice A_a0_supply a0.supply.length c_a0_supply, .slice A_a0_demand a0.demand.length c_a0_demand, .slice A_a0_cost a0.cost.length c_a0_cost]]) FU ⟨_, ?_, (t7_1 + 1), F, rfl, H⟩ ?_
                  · exact ⟨rfl, rfl, rfl, rfl, rfl, rfl, rfl, trivial⟩
                  rintro mk4 _ wl8 ⟨t8_1, F, rfl, H⟩
                  have R0 := H.ext
                  replace F := ref07_IsSquare_L1_s F
                  obtain ⟨mk4, rfl, F⟩ := F
                  generalize hrec4 : ref07_IsSquare_L1 a0 t5_1 t6_1 t7_1 rec3 mk4 = rec4 at F
                  unfold ref07_IsSquare_B1 at F
                  refine CW.seq fun K20 hK20 => ?_
                  refine CW.seq fun K21 hK21 => ?_
                  refine CW.region ?_
                  refine LW.pure rfl rfl (RV.move rfl) ?_
                  refine LW.pure rfl rfl (RV.fieldAddr Tf25_1 rfl) ?_
                  refine LW.pure rfl rfl (RV.load1 Tk22 rfl ((H.blk 0 rfl).cells.off 1) rfl) ?_
                  refine LW.pure rfl rfl (RV.len Ts22 rfl) ?_
                  refine LW.pure rfl rfl (RV.lss rfl rfl) ?_
                  refine LW.nil (hK21 _ _ ?_)
                  by_cases hp5 : t8_1 < ((a0.demand.length : Int))
                  ·
                    replace F := ite_y hp5 F
                    have hq5 := dec_t hp5
                    refine CW.condT rfl hq5 ?_
                    refine CW.skip (hK20 _ _ ?_)
                    refine CW.seq fun K22 hK22 => ?_
                    refine CW.block ?_
                    refine CW.seq fun K23 hK23 => ?_
                    obtain ⟨x1, hbx1, hx1, F⟩ := ix_some F
                    obtain ⟨x2, hbx2, hx2, F⟩ := ix_some F
                    obtain ⟨x3, hbx3, hx3, F⟩ := ix_some F
                    obtain ⟨x4, hbx4, hx4, F⟩ := ix_some F
                    obtain ⟨hg6, F⟩ := gd_some F
                    obtain ⟨x5, hbx5, hx5, F⟩ := ix_some F
                    obtain ⟨x6, hbx6, hx6, F⟩ := ix_some F
                    obtain ⟨x7, hbx7, hx7, F⟩ := ix_some F
                    obtain ⟨x8, hbx8, hx8, F⟩ := ix_some F
                    obtain ⟨hg7, F⟩ := gd_some F
                    refine CW.draw [] (fun _ => True) (.cons 0 1 (.cons 1 1 (.cons 2 1 (.cons 3 1 (.cons 4 1 (.cons 5 1 (.cons 6 1 (.cons 7 1 (.cons 8 1 (.cons 9 1 (.cons 10 1 (.cons 11 1 (.cons 12 1 (.cons 13 1 (.cons 14 1 (.cons 15 1 (.cons 16 1 (.cons 17 1 (.cons 18 1 (.cons 19 1 (.cons 20 1 (.cons 21 1 (.cons 22 1 (.cons 23 1 (.cons 24 1 (.cons 25 1 (.cons 26 1 (.cons 27 1 (.cons 28 1 (.cons 29 1 (.cons 30 1 (.cons 31 1 (.cons 32 1 (.cons 33 1 (.cons 34 1 .nil))))))))))))))))))))))))))))))))))) mixed (by kernel_rfl) fun w3 E2 => ?_
                    replace H := H.grow E2
                    replace R0 := H.ext
                    refine DW.fix rfl rfl rfl (fun _ EQ => RV.fieldAddr Tf25_2 rfl) ?_
                    refine DW.fix rfl rfl rfl (fun _ EQ => RV.load1 Tk23 rfl (((H.grow EQ).blk 0 rfl).cells.off 2) rfl) ?_
                    refine DW.fix rfl rfl rfl (fun _ EQ => RV.move rfl) ?_
                    obtain ⟨A1, c1, hC1, hS1⟩ := h_a0_cost.at_ hx1
                    refine DW.fix rfl rfl rfl (fun _ EQ => RV.indexAddr Ts23 rfl rfl hbx1 (h_a0_cost.addr hbx1)) ?_
                    refine DW.fix rfl rfl rfl (fun _ EQ => RV.load1 Tk22 rfl (hC1.ext (R0.trans EQ)) rfl) ?_
                    refine DW.fix rfl rfl rfl (fun _ EQ => RV.move rfl) ?_
                    refine DW.fix rfl rfl rfl (fun _ EQ => RV.indexAddr Ts22 rfl rfl hbx2 (hS1.addr_ hx2)) ?_
                    refine DW.fix rfl rfl rfl (fun _ EQ => RV.load1 Tk3 rfl ((hS1.at_ hx2).ext (R0.trans EQ)) rfl) ?_
                    refine DW.fix rfl rfl rfl (fun _ EQ => RV.fieldAddr Tf25_2 rfl) ?_
                    refine DW.fix rfl rfl rfl (fun _ EQ => RV.load1 Tk23 rfl (((H.grow EQ).blk 0 rfl).cells.off 2) rfl) ?_
                    refine DW.fix rfl rfl rfl (fun _ EQ => RV.move rfl) ?_
                    obtain ⟨A2, c2, hC2, hS2⟩ := h_a0_cost.at_ hx3
                    refine DW.fix rfl rfl rfl (fun _ EQ => RV.indexAddr Ts23 rfl rfl hbx3 (h_a0_cost.addr hbx3)) ?_
                    refine DW.fix rfl rfl rfl (fun _ EQ => RV.load1 Tk22 rfl (hC2.ext (R0.trans EQ)) rfl) ?_
                    refine DW.fix rfl rfl rfl (fun _ EQ => RV.move rfl) ?_
                    refine DW.fix rfl rfl rfl (fun _ EQ => RV.indexAddr Ts22 rfl rfl hbx4 (hS2.addr_ hx4)) ?_
                    refine DW.fix rfl rfl rfl (fun _ EQ => RV.load1 Tk3 rfl ((hS2.at_ hx4).ext (R0.trans EQ)) rfl) ?_
                    refine DW.fix rfl rfl rfl (fun _ EQ => RV.add rfl rfl hg6) ?_
                    refine DW.fix rfl rfl rfl (fun _ EQ => RV.fieldAddr Tf25_2 rfl) ?_
                    refine DW.fix rfl rfl rfl (fun _ EQ => RV.load1 Tk23 rfl (((H.grow EQ).blk 0 rfl).cells.off 2) rfl) ?_
                    refine DW.fix rfl rfl rfl (fun _ EQ => RV.move rfl) ?_
                    obtain ⟨A3, c3, hC3, hS3⟩ := h_a0_cost.at_ hx5
                    refine DW.fix rfl rfl rfl (fun _ EQ => RV.indexAddr Ts23 rfl rfl hbx5 (h_a0_cost.addr hbx5)) ?_
                    refine DW.fix rfl rfl rfl (fun _ EQ => RV.load1 Tk22 rfl (hC3.ext (R0.trans EQ)) rfl) ?_
                    refine DW.fix rfl rfl rfl (fun _ EQ => RV.move rfl) ?_
                    refine DW.fix rfl rfl rfl (fun _ EQ => RV.indexAddr Ts22 rfl rfl hbx6 (hS3.addr_ hx6)) ?_
                    refine DW.fix rfl rfl rfl (fun _ EQ => RV.load1 Tk3 rfl ((hS3.at_ hx6).ext (R0.trans EQ)) rfl) ?_
                    refine DW.fix rfl rfl rfl (fun _ EQ => RV.fieldAddr Tf25_2 rfl) ?_
                    refine DW.fix rfl rfl rfl (fun _ EQ => RV.load1 Tk23 rfl (((H.grow EQ).blk 0 rfl).cells.off 2) rfl) ?_
                    refine DW.fix rfl rfl rfl (fun _ EQ => RV.move rfl) ?_
                    obtain ⟨A4, c4, hC4, hS4⟩ := h_a0_cost.at_ hx7
                    refine DW.fix rfl rfl rfl (fun _ EQ => RV.indexAddr Ts23 rfl rfl hbx7 (h_a0_cost.addr hbx7)) ?_
                    refine DW.fix rfl rfl rfl (fun _ EQ => RV.load1 Tk22 rfl (hC4.ext (R0.trans EQ)) rfl) ?_
                    refine DW.fix rfl rfl rfl (fun _ EQ => RV.move rfl) ?_
                    refine DW.fix rfl rfl rfl (fun _ EQ => RV.indexAddr Ts22 rfl rfl hbx8 (hS4.addr_ hx8)) ?_
                    refine DW.fix rfl rfl rfl (fun _ EQ => RV.load1 Tk3 rfl ((hS4.at_ hx8).ext (R0.trans EQ)) rfl) ?_
                    refine DW.fix rfl rfl rfl (fun _ EQ => RV.add rfl rfl hg7) ?_
                    refine DW.fix rfl rfl rfl (fun _ EQ => RV.gtr rfl rfl) ?_
                    refine DW.nil (hK23 _ _ ?_)
                    by_cases hp6 : (x6 + x8) < (x2 + x4)
                    ·
                      replace F := ite_y hp6 F
                      have hq6 := dec_t hp6
                      refine CW.condT rfl hq6 ?_
                      refine CW.seq fun K24 hK24 => ?_
                      refine CW.region ?_
                      refine LW.pure rfl rfl (RV.assign rfl) ?_
                      refine LW.pure rfl rfl (RV.assign rfl) ?_
                      refine LW.nil (hK24 _ _ ?_)
                      refine CW.ret ?_
                      obtain rfl := Option.some.inj F
                      refine ⟨_, (ResOK.two rfl rfl), ?_⟩
                      refine ⟨(by first | rfl | simp), R0⟩
                    ·
                      replace F := ite_n hp6 F
                      have hq6 := dec_f hp6
                      refine CW.condF rfl hq6 ?_
                      refine CW.skip (hK22 _ _ ?_)
                      obtain ⟨hg8, F⟩ := gd_some F
                      refine CW.region ?_
                      refine LW.pure rfl rfl (RV.move rfl) ?_
                      refine LW.pure rfl rfl (RV.add rfl rfl hg8) ?_
                      refine LW.pure rfl rfl (RV.assign rfl) ?_
                      refine LW.nil ?_
                      subst hrec4
                      refine ⟨mk4, Nat.lt_succ_self _, _, ?_, (t8_1 + 1), F, rfl, H⟩
                      exact ⟨rfl, rfl, rfl, rfl, rfl, rfl, rfl, trivial⟩
                  ·
                    replace F := ite_n hp5 F
                    have hq5 := dec_f hp5
                    refine CW.condF rfl hq5 ?_
                    refine CW.exit (jK15541 _ _ ⟨_, ?_, ⟨F, rfl, H⟩⟩)
                    exact ⟨rfl, rfl, rfl, rfl, rfl, rfl, trivial⟩
              ·
                replace F := ite_n hp4 F
                have hq4 := dec_f hp4
                refine CW.condF rfl hq4 ?_
                refine CW.exit (jK15451 _ _ ⟨_, ?_, ⟨F, rfl, H⟩⟩)
                exact ⟨rfl, rfl, rfl, rfl, rfl, trivial⟩
          ·
            replace F := ite_n hp3 F
            have hq3 := dec_f hp3
            refine CW.condF rfl hq3 ?_
            refine CW.exit (jK14911 _ _ ⟨_, ?_, ⟨F, rfl, H⟩⟩)
            exact ⟨rfl, rfl, rfl, rfl, trivial⟩
      ·
        replace F := ite_n hp2 F
        have hq2 := dec_f hp2
        refine CW.condF rfl hq2 ?_
        replace H := H.pick (L' := []) [] (by decide) rfl
        replace R0 := H.ext
        refine CW.exit (jK11671 _ _ ⟨_, ?_, ⟨F, rfl, H⟩⟩)
        exact ⟨rfl, rfl, trivial⟩
  ·
    replace F := ite_n hp1 F
    have hq1 := dec_f hp1
    refine CW.condT rfl (not_t hq1) ?_
    refine CW.seq fun K25 hK25 => ?_
    refine CW.region ?_
    refine LW.pure rfl rfl (RV.move rfl) ?_
    refine LW.pure rfl rfl (RV.assign rfl) ?_
    refine LW.pure rfl rfl (RV.assign rfl) ?_
    refine LW.nil (hK25 _ _ ?_)
    refine CW.ret ?_
    obtain rfl := Option.some.inj F
    refine ⟨_, (ResOK.two rfl rfl), ?_⟩
    refine ⟨(by first | rfl | simp), R0⟩
set_option maxRecDepth 20000 in
set_option maxHeartbeats 1000000 in
theorem law07_BulkSquares_ok {a0 : Trade} {A_a0_supply : Option Addr} {c_a0_supply : Nat} {A_a0_demand : Option Addr} {c_a0_demand : Nat} {A_a0_cost : Option Addr} {c_a0_cost : Nat} {w : World} {res : Bool} (h_a0_supply : Sl w A_a0_supply c_a0_supply 1 (a0.supply.map encN)) (h_a0_demand : Sl w A_a0_demand c_a0_demand 1 (a0.demand.map encN)) (h_a0_cost : Sl2 w A_a0_cost c_a0_cost 1 encN a0.cost) (F : law07_BulkSquares a0 = some res) : Calls Try.prog 14 #[.agg #[.slice A_a0_supply a0.supply.length c_a0_supply, .slice A_a0_demand a0.demand.length c_a0_demand, .slice A_a0_cost a0.cost.length c_a0_cost]] w (Rt w (.bool res)) := by
  refine calls_of_cw (args := [.agg #[.slice A_a0_supply a0.supply.length c_a0_supply, .slice A_a0_demand a0.demand.length c_a0_demand, .slice A_a0_cost a0.cost.length c_a0_cost]]) Try.func14 rfl rfl rfl rfl ?_
  have H := Hp.start w
  have R0 := H.ext
  unfold law07_BulkSquares at F
  refine CW.seq fun K1 hK1 => ?_
  refine CW.region ?_
  refine LW.go rfl rfl (OW.box rfl fun b1 w1 N1 => ?_)
  replace H := H.new N1 N1.blk
  replace R0 := H.ext
  refine LW.pure rfl rfl (RV.assign rfl) ?_
  refine LW.nil (hK1 _ _ ?_)
  refine CW.seq fun K2 hK2 => ?_
  refine CW.seq fun K3 hK3 => ?_
  obtain ⟨r6, hr6, F⟩ := bnd_some F
  refine CW.region ?_
  refine LW.pure rfl rfl (RV.loadA [.slice A_a0_supply a0.supply.length c_a0_supply, .slice A_a0_demand a0.demand.length c_a0_demand, .slice A_a0_cost a0.cost.length c_a0_cost] Tk25 rfl (H.blk 0 rfl).cells rfl rfl) ?_
  refine LW.go rfl rfl (OW.call Tc17 rfl (law07_Long_ok (a0 := a0) (a1 := ([] : List (List (List Int)))) (h_a0_supply.ext R0) (h_a0_demand.ext R0) (h_a0_cost.ext R0) (Sl3.nil_) hr6) ?_)
  rintro _ w2 ⟨rfl, E1⟩
  refine ⟨_, rfl, ?_⟩
  replace H := H.grow E1
  replace R0 := H.ext
  refine LW.nil (hK3 _ _ ?_)
  by_cases hp1 : r6 = true
  ·
    replace F := ite_y hp1 F
    have hq1 : r6 = true := hp1
    refine CW.condT rfl hq1 ?_
    refine CW.seq fun K4 hK4 => ?_
    obtain ⟨r7, hr7, F⟩ := bnd_some F
    refine CW.region ?_
    refine LW.go rfl rfl (OW.call Tc18 rfl (law07_sane_ok hr7) ?_)
    rintro _ w3 ⟨rfl, E2⟩
    refine ⟨_, rfl, ?_⟩
    replace H := H.grow E2
    replace R0 := H.ext
    refine LW.pure rfl rfl (RV.assign rfl) ?_
    refine LW.nil (hK4 _ _ ?_)
    refine CW.ret ?_
    obtain rfl := Option.some.inj F
    refine ⟨_, (ResOK.one rfl), ?_⟩
    refine ⟨(by first | rfl | simp), R0⟩
  ·
    replace F := ite_n hp1 F
    have hq1 : r6 = false := raw_f hp1
    refine CW.condF rfl hq1 ?_
    refine CW.skip (hK2 _ _ ?_)
    refine CW.seq fun K5 hK5 => ?_
    obtain ⟨r1, hr1, F⟩ := bnd_some F
    refine CW.region ?_
    refine LW.pure rfl rfl (RV.loadA [.slice A_a0_supply a0.supply.length c_a0_supply, .slice A_a0_demand a0.demand.length c_a0_demand, .slice A_a0_cost a0.cost.length c_a0_cost] Tk25 rfl (H.blk 0 rfl).cells rfl rfl) ?_
    refine LW.go rfl rfl (OW.call Tc50 rfl (bulk_IsSquare_ok (a0 := a0) (h_a0_supply.ext R0) (h_a0_demand.ext R0) (h_a0_cost.ext R0) hr1) ?_)
    rintro _ w4 ⟨rfl, E3⟩
    refine ⟨_, rfl, ?_⟩
    replace H := H.grow E3
    replace R0 := H.ext
    refine LW.pure rfl rfl (RV.move rfl) ?_
    refine LW.pure rfl rfl (RV.extract rfl rfl) ?_
    refine LW.pure rfl rfl (RV.extract rfl rfl) ?_
    refine LW.pure rfl rfl (RV.assign rfl) ?_
    refine LW.pure rfl rfl (RV.assign rfl) ?_
    refine LW.nil (hK5 _ _ ?_)
    refine CW.seq fun K6 hK6 => ?_
    obtain ⟨r8, hr8, F⟩ := bnd_some F
    refine CW.region ?_
    refine LW.pure rfl rfl (RV.loadA [.slice A_a0_supply a0.supply.length c_a0_supply, .slice A_a0_demand a0.demand.length c_a0_demand, .slice A_a0_cost a0.cost.length c_a0_cost] Tk25 rfl (H.blk 0 rfl).cells rfl rfl) ?_
    refine LW.go rfl rfl (OW.call Tc51 rfl (ref07_IsSquare_ok (a0 := a0) (h_a0_supply.ext R0) (h_a0_demand.ext R0) (h_a0_cost.ext R0) hr8) ?_)
    rintro _ w5 ⟨rfl, E4⟩
    refine ⟨_, rfl, ?_⟩
    replace H := H.grow E4
    replace R0 := H.ext
    refine LW.pure rfl rfl (RV.move rfl) ?_
    refine LW.pure rfl rfl (RV.extract rfl rfl) ?_
    refine LW.pure rfl rfl (RV.extract rfl rfl) ?_
    refine LW.pure rfl rfl (RV.assign rfl) ?_
    refine LW.pure rfl rfl (RV.assign rfl) ?_
    refine LW.nil (hK6 _ _ ?_)
    refine CW.seq fun K7 hK7 => ?_
    refine CW.seqJ (fun ρ wl1 => (∃ (t31_1 : Bool), law07_BulkSquares_k1 a0 r1 t31_1 = some res ∧ ρ = [(1, .pointer (some (⟨b1, 0, none⟩))), (2, .bool false), (3, .bool r1.1), (31, .bool t31_1)] ∧ Hp w wl1 [.blk b1 25 [.slice A_a0_supply a0.supply.length c_a0_supply, .slice A_a0_demand a0.demand.length c_a0_demand, .slice A_a0_cost a0.cost.length c_a0_cost]])) ?_ ?_
    ·
      rintro _ wl1 ⟨t31_1, F, rfl, H⟩
      have R0 := H.ext
      unfold law07_BulkSquares_k1 at F
      by_cases hp2 : t31_1 = true
      ·
        replace F := ite_y hp2 F
        have hq2 : t31_1 = true := hp2
        refine CW.condT rfl hq2 ?_
        refine CW.seq fun K8 hK8 => ?_
        refine CW.region ?_
        refine LW.pure rfl rfl (RV.assign rfl) ?_
        refine LW.nil (hK8 _ _ ?_)
        refine CW.ret ?_
        obtain rfl := Option.some.inj F
        refine ⟨_, (ResOK.one rfl), ?_⟩
        refine ⟨(by first | rfl | simp), R0⟩
      ·
        replace F := ite_n hp2 F
        have hq2 : t31_1 = false := raw_f hp2
        refine CW.condF rfl hq2 ?_
        refine CW.skip (hK7 _ _ ?_)
        refine CW.seq fun K9 hK9 => ?_
        refine CW.seq fun K10 hK10 => ?_
        refine CW.region ?_
        refine LW.pure rfl rfl (RV.move rfl) ?_
        refine LW.pure rfl rfl (RV.not rfl) ?_
        refine LW.nil (hK10 _ _ ?_)
        by_cases hp3 : r1.1 = true
        ·
          replace F := ite_y hp3 F
          have hq3 : r1.1 = true := hp3
          refine CW.condF rfl (not_f hq3) ?_
          refine CW.skip (hK9 _ _ ?_)
          refine CW.seq fun K11 hK11 => ?_
          obtain ⟨r2, hr2, F⟩ := bnd_some F
          refine CW.region ?_
          refine LW.pure rfl rfl (RV.loadA [.slice A_a0_supply a0.supply.length c_a0_supply, .slice A_a0_demand a0.demand.length c_a0_demand, .slice A_a0_cost a0.cost.length c_a0_cost] Tk25 rfl (H.blk 0 rfl).cells rfl rfl) ?_
          refine LW.go rfl rfl (OW.call Tc31 rfl (bulk_Corner_ok (a0 := a0) (h_a0_supply.ext R0) (h_a0_demand.ext R0) (h_a0_cost.ext R0) hr2) ?_)
          rintro _ w6 ⟨A18_0, c18_0, hs18_0, rfl, E5⟩
          refine ⟨_, rfl, ?_⟩
          replace H : Hp w w6 [.tab A18_0 c18_0 22 hs18_0 3 1 (encM encN r2.1), .blk b1 25 [.slice A_a0_supply a0.supply.length c_a0_supply, .slice A_a0_demand a0.demand.length c_a0_demand, .slice A_a0_cost a0.cost.length c_a0_cost]] := H.append E5
          replace R0 := H.ext
          refine LW.pure rfl rfl (RV.move rfl) ?_
          refine LW.pure rfl rfl (RV.extract rfl rfl) ?_
          refine LW.pure rfl rfl (RV.extract rfl rfl) ?_
          refine LW.pure rfl rfl (RV.assign rfl) ?_
          refine LW.pure rfl rfl (RV.assign rfl) ?_
          refine LW.nil (hK11 _ _ ?_)
          refine CW.seq fun K12 hK12 => ?_
          obtain ⟨r3, hr3, F⟩ := bnd_some F
          refine CW.region ?_
          refine LW.pure rfl rfl (RV.loadA [.slice A_a0_supply a0.supply.length c_a0_supply, .slice A_a0_demand a0.demand.length c_a0_demand, .slice A_a0_cost a0.cost.length c_a0_cost] Tk25 rfl (H.blk 1 rfl).cells rfl rfl) ?_
          refine LW.pure rfl rfl (RV.move rfl) ?_
          refine LW.go rfl rfl (OW.call Tc44 rfl (bulk_IsBest_ok (a0 := a0) (a1 := r2.1) (h_a0_supply.ext R0) (h_a0_demand.ext R0) (h_a0_cost.ext R0) (H.tab 0 rfl).sl2 hr3) ?_)
          rintro _ w7 ⟨rfl, E6⟩
          refine ⟨_, rfl, ?_⟩
          replace H := H.grow E6
          replace R0 := H.ext
          refine LW.pure rfl rfl (RV.move rfl) ?_
          refine LW.pure rfl rfl (RV.extract rfl rfl) ?_
          refine LW.pure rfl rfl (RV.extract rfl rfl) ?_
          refine LW.pure rfl rfl (RV.assign rfl) ?_
          refine LW.pure rfl rfl (RV.assign rfl) ?_
          refine LW.nil (hK12 _ _ ?_)
          refine CW.seq fun K13 hK13 => ?_
          by_cases hp4 : r2.2 = 0
          ·
            replace F := ite_y hp4 F
            have hq4 := dec_t hp4
            by_cases hp5 : r3.2 = 0
            ·
              replace F := ite_y hp5 F
              have hq5 := dec_t hp5
              by_cases hp6 : r3.1 = true
              ·
                replace F := ite_y hp6 F
                have hq6 : r3.1 = true := hp6
                obtain ⟨r4, hr4, F⟩ := bnd_some F
                refine CW.region ?_
                refine LW.pure rfl rfl (RV.move rfl) ?_
                refine LW.pure rfl rfl (RV.eqi rfl rfl) ?_
                refine LW.pure rfl rfl (RV.move rfl) ?_
                refine LW.pureYB rfl rfl rfl rfl hq4 (RV.move rfl) ?_
                refine LW.pureYB rfl rfl rfl rfl hq4 (RV.eqi rfl rfl) ?_
                refine LW.pure rfl rfl (RV.pickTB rfl hq4 rfl) ?_
                refine LW.pure rfl rfl (RV.move rfl) ?_
                refine LW.pureYB rfl rfl rfl rfl hq5 (RV.move rfl) ?_
                refine LW.pure rfl rfl (RV.pickTB rfl hq5 rfl) ?_
                refine LW.pure rfl rfl (RV.move rfl) ?_
                refine LW.yesB rfl rfl rfl rfl hq6 (OW.call Tc18 rfl (law07_sane_ok hr4) ?_)
                rintro _ w8 ⟨rfl, E7⟩
                refine ⟨_, rfl, ?_⟩
                replace H := H.grow E7
                replace R0 := H.ext
                refine LW.pure rfl rfl (RV.pickTB rfl hq6 rfl) ?_
                refine LW.pure rfl rfl (RV.assign rfl) ?_
                refine LW.nil (hK13 _ _ ?_)
                refine CW.ret ?_
                obtain rfl := Option.some.inj F
                refine ⟨_, (ResOK.one rfl), ?_⟩
                refine ⟨(by first | rfl | simp), R0⟩
              ·
                replace F := ite_n hp6 F
                have hq6 : r3.1 = false := raw_f hp6
                refine CW.region ?_
                refine LW.pure rfl rfl (RV.move rfl) ?_
                refine LW.pure rfl rfl (RV.eqi rfl rfl) ?_
                refine LW.pure rfl rfl (RV.move rfl) ?_
                refine LW.pureYB rfl rfl rfl rfl hq4 (RV.move rfl) ?_
                refine LW.pureYB rfl rfl rfl rfl hq4 (RV.eqi rfl rfl) ?_
                refine LW.pure rfl rfl (RV.pickTB rfl hq4 rfl) ?_
                refine LW.pure rfl rfl (RV.move rfl) ?_
                refine LW.pureYB rfl rfl rfl rfl hq5 (RV.move rfl) ?_
                refine LW.pure rfl rfl (RV.pickTB rfl hq5 rfl) ?_
                refine LW.pure rfl rfl (RV.move rfl) ?_
                refine LW.noB rfl rfl rfl rfl (ne_beq (v := false) hq6 rfl) ?_
                refine LW.pure rfl rfl (RV.pickFB rfl hq6 rfl) ?_
                refine LW.pure rfl rfl (RV.assign rfl) ?_
                refine LW.nil (hK13 _ _ ?_)
                refine CW.ret ?_
                obtain rfl := Option.some.inj F
                refine ⟨_, (ResOK.one rfl), ?_⟩
                refine ⟨(by first | rfl | simp), R0⟩
            ·
              replace F := ite_n hp5 F
              have hq5 := dec_f hp5
              refine CW.region ?_
              refine LW.pure rfl rfl (RV.move rfl) ?_
              refine LW.pure rfl rfl (RV.eqi rfl rfl) ?_
              refine LW.pure rfl rfl (RV.move rfl) ?_
              refine LW.pureYB rfl rfl rfl rfl hq4 (RV.move rfl) ?_
              refine LW.pureYB rfl rfl rfl rfl hq4 (RV.eqi rfl rfl) ?_
              refine LW.pure rfl rfl (RV.pickTB rfl hq4 rfl) ?_
              refine LW.pure rfl rfl (RV.move rfl) ?_
              refine LW.noB rfl rfl rfl rfl (ne_beq (v := false) hq5 rfl) ?_
              refine LW.pure rfl rfl (RV.pickFB rfl hq5 rfl) ?_
              refine LW.pure rfl rfl (RV.move rfl) ?_
              refine LW.noB rfl rfl rfl rfl (ne_beq (v := false) rfl rfl) ?_
              refine LW.pure rfl rfl (RV.pickFB rfl rfl rfl) ?_
              refine LW.pure rfl rfl (RV.assign rfl) ?_
              refine LW.nil (hK13 _ _ ?_)
              refine CW.ret ?_
              obtain rfl := Option.some.inj F
              refine ⟨_, (ResOK.one rfl), ?_⟩
              refine ⟨(by first | rfl | simp), R0⟩
          ·
            replace F := ite_n hp4 F
            have hq4 := dec_f hp4
            refine CW.region ?_
            refine LW.pure rfl rfl (RV.move rfl) ?_
            refine LW.pure rfl rfl (RV.eqi rfl rfl) ?_
            refine LW.pure rfl rfl (RV.move rfl) ?_
            refine LW.noB rfl rfl rfl rfl (ne_beq (v := false) hq4 rfl) ?_
            refine LW.noB rfl rfl rfl rfl (ne_beq (v := false) hq4 rfl) ?_
            refine LW.pure rfl rfl (RV.pickFB rfl hq4 rfl) ?_
            refine LW.pure rfl rfl (RV.move rfl) ?_
            refine LW.noB rfl rfl rfl rfl (ne_beq (v := false) rfl rfl) ?_
            refine LW.pure rfl rfl (RV.pickFB rfl rfl rfl) ?_
            refine LW.pure rfl rfl (RV.move rfl) ?_
            refine LW.noB rfl rfl rfl rfl (ne_beq (v := false) rfl rfl) ?_
            refine LW.pure rfl rfl (RV.pickFB rfl rfl rfl) ?_
            refine LW.pure rfl rfl (RV.assign rfl) ?_
            refine LW.nil (hK13 _ _ ?_)
            refine CW.ret ?_
            obtain rfl := Option.some.inj F
            refine ⟨_, (ResOK.one rfl), ?_⟩
            refine ⟨(by first | rfl | simp), R0⟩
        ·
          replace F := ite_n hp3 F
          have hq3 : r1.1 = false := raw_f hp3
          refine CW.condT rfl (not_t hq3) ?_
          refine CW.seq fun K14 hK14 => ?_
          obtain ⟨r5, hr5, F⟩ := bnd_some F
          refine CW.region ?_
          refine LW.go rfl rfl (OW.call Tc18 rfl (law07_sane_ok hr5) ?_)
          rintro _ w9 ⟨rfl, E8⟩
          refine ⟨_, rfl, ?_⟩
          replace H := H.grow E8
          replace R0 := H.ext
          refine LW.pure rfl rfl (RV.assign rfl) ?_
          refine LW.nil (hK14 _ _ ?_)
          refine CW.ret ?_
          obtain rfl := Option.some.inj F
          refine ⟨_, (ResOK.one rfl), ?_⟩
          refine ⟨(by first | rfl | simp), R0⟩
    ·
      intro K15 hK15 jK30
      by_cases hp7 : (r1.1 == r8.1) = true
      ·
        replace F := ite_y hp7 F
        have hq7 : (r1.1 == r8.1) = true := hp7
        refine CW.region ?_
        refine LW.pure rfl rfl (RV.move rfl) ?_
        refine LW.pure rfl rfl (RV.move rfl) ?_
        refine LW.pure rfl rfl (RV.neb Tb4 rfl rfl) ?_
        refine LW.pure rfl rfl (RV.move rfl) ?_
        refine LW.pureYB rfl rfl rfl rfl (not_f hq7) (RV.move rfl) ?_
        refine LW.pureYB rfl rfl rfl rfl (not_f hq7) (RV.move rfl) ?_
        refine LW.pureYB rfl rfl rfl rfl (not_f hq7) (RV.nei rfl rfl) ?_
        refine LW.pure rfl rfl (RV.pickFB rfl (not_f hq7) rfl) ?_
        refine LW.nil (jK30 _ _ ⟨_, ?_, ⟨(!(decide (r1.2 = r8.2))), F, rfl, H⟩⟩)
        exact ⟨rfl, rfl, rfl, rfl, trivial⟩
      ·
        replace F := ite_n hp7 F
        have hq7 : (r1.1 == r8.1) = false := raw_f hp7
        refine CW.region ?_
        refine LW.pure rfl rfl (RV.move rfl) ?_
        refine LW.pure rfl rfl (RV.move rfl) ?_
        refine LW.pure rfl rfl (RV.neb Tb4 rfl rfl) ?_
        refine LW.pure rfl rfl (RV.move rfl) ?_
        refine LW.noB rfl rfl rfl rfl (ne_beq (v := true) (not_t hq7) rfl) ?_
        refine LW.noB rfl rfl rfl rfl (ne_beq (v := true) (not_t hq7) rfl) ?_
        refine LW.noB rfl rfl rfl rfl (ne_beq (v := true) (not_t hq7) rfl) ?_
        refine LW.pure rfl rfl (RV.pickTB rfl (not_t hq7) rfl) ?_
        refine LW.nil (jK30 _ _ ⟨_, ?_, ⟨true, F, rfl, H⟩⟩)
        exact ⟨rfl, rfl, rfl, rfl, trivial⟩
end Go.D7

namespace Go.Tb
/-- A loop over 0 .. N - 1 with a state, that is left at the first i for which p does not hold. -/
theorem scan_loop {S R : Type} (N : Nat) (p : Nat → Bool) (g : Nat → S) (L : Nat → S → Int → Option R) (yes : Option R) (no : Nat → Option R)
    (step : ∀ n i : Nat, i < N → L (n + 1) (g i) (i : Int) = if p i = true then L n (g (i + 1)) ((i + 1 : Nat) : Int) else no i)
    (stop : ∀ n : Nat, L (n + 1) (g N) (N : Int) = yes) : ∀ (d n i : Nat), N = i + d → d < n → L n (g i) (i : Int) = match (List.range' i d).find? (fun j => !p j) with | none => yes | some j => no j
  | 0, n + 1, i, hd, hn => by
    have hi : i = N := by omega
    subst hi
    rw [stop n]; rfl
  | d + 1, n + 1, i, hd, hn => by
    rw [step n i (by omega), List.range'_succ, List.find?_cons]
    cases hp : p i
    · simp
    · simp only [if_true, Bool.not_true]
      exact scan_loop N p g L yes no step stop d n (i + 1) (by omega) (by omega)
theorem find_all {p : Nat → Bool} {i d : Nat} : (List.range' i d).find? (fun j => !p j) = none ↔ ∀ j, i ≤ j → j < i + d → p j = true := by
  rw [List.find?_eq_none]
  constructor
  · intro h j h1 h2
    have := h j (by rw [List.mem_range'_1]; omega)
    simpa using this
  · intro h x hx
    rw [List.mem_range'_1] at hx
    simp [h x hx.1 hx.2]
/-- A loop over 0 .. N - 1 with a state and no way out. -/
theorem for_loop {S R : Type} (N : Nat) (g : Nat → S) (L : Nat → S → Int → Option R) (yes : Option R)
    (step : ∀ n i : Nat, i < N → L (n + 1) (g i) (i : Int) = L n (g (i + 1)) ((i + 1 : Nat) : Int))
    (stop : ∀ n : Nat, L (n + 1) (g N) (N : Int) = yes) : ∀ (d n i : Nat), N = i + d → d < n → L n (g i) (i : Int) = yes
  | 0, n + 1, i, hd, hn => by
    have hi : i = N := by omega
    subst hi
    exact stop n
  | d + 1, n + 1, i, hd, hn => by
    rw [step n i (by omega)]
    exact for_loop N g L yes step stop d n (i + 1) (by omega) (by omega)
theorem for_loop0 {S R : Type} (N : Nat) (g : Nat → S) (L : Nat → S → Int → Option R) (yes : Option R)
    (step : ∀ n i : Nat, i < N → L (n + 1) (g i) (i : Int) = L n (g (i + 1)) ((i + 1 : Nat) : Int))
    (stop : ∀ n : Nat, L (n + 1) (g N) (N : Int) = yes) (hN : N ≤ 9223372036854775807) : L FU (g 0) 0 = yes :=
  for_loop N g L yes step stop N FU 0 (by omega) (by have := FU_pos; omega)
theorem scan_loop0 {S R : Type} (N : Nat) (p : Nat → Bool) (g : Nat → S) (L : Nat → S → Int → Option R) (yes no : Option R)
    (step : ∀ n i : Nat, i < N → L (n + 1) (g i) (i : Int) = if p i = true then L n (g (i + 1)) ((i + 1 : Nat) : Int) else no)
    (stop : ∀ n : Nat, L (n + 1) (g N) (N : Int) = yes) (hN : N ≤ 9223372036854775807) : L FU (g 0) 0 = if (∀ j, j < N → p j = true) then yes else no := by
  have h := scan_loop N p g L yes (fun _ => no) step stop N FU 0 (by omega) (by have := FU_pos; omega)
  refine Eq.trans h ?_
  cases hf : (List.range' 0 N).find? (fun j => !p j) with
  | none => rw [if_pos (fun j hj => find_all.1 hf j (by omega) (by omega))]
  | some j =>
    have h1 := List.find?_some hf
    have h2 := List.mem_of_find?_eq_some hf
    rw [List.mem_range'_1] at h2
    rw [if_neg]
    intro hall
    have := hall j (by omega)
    simp [this] at h1
/-- The same over the elements of a list. -/
theorem list_loop0 {α R : Type} (l : List α) (p : α → Bool) (L : Nat → Int → Option R) (yes no : Option R)
    (step : ∀ (n i : Nat) (x : α), l[i]? = some x → L (n + 1) (i : Int) = if p x = true then L n ((i + 1 : Nat) : Int) else no)
    (stop : ∀ n : Nat, L (n + 1) (l.length : Int) = yes) (hl : l.length ≤ 9223372036854775807) : L FU 0 = if l.all p = true then yes else no := by
  have h := scan_loop0 l.length (fun i => (l[i]?.map p).getD true) (fun _ => ()) (fun n _ i => L n i) yes no (fun n i hi => by
    have hx : l[i]? = some l[i] := by simp [hi]
    rw [step n i _ hx]; simp [hx]) stop hl
  refine Eq.trans h ?_
  by_cases ha : l.all p = true
  · rw [if_pos ha, if_pos]
    intro j hj
    have := List.all_eq_true.1 ha l[j] (List.getElem_mem hj)
    simp [hj, this]
  · rw [if_neg ha, if_neg]
    intro hc
    refine ha (List.all_eq_true.2 fun x hx => ?_)
    obtain ⟨j, hj⟩ := List.getElem?_of_mem hx
    have := hc j (lt_of_at hj)
    simpa [hj] using this
end Go.Tb

set_option linter.unusedVariables false
set_option linter.unusedSimpArgs false
namespace Go.D7
open Go.Tb
theorem ix0 {α β : Type} {l : List α} {k : α → Option β} {x : α} (h : l[0]? = some x) : ix l 0 k = k x := ix_nat (i := 0) h
theorem for0 {S R : Type} (N : Nat) (g : Nat → S) (L : Nat → S → Int → Option R) (yes : Option R) {s0 : S} (h0 : g 0 = s0)
    (step : ∀ n i : Nat, i < N → L (n + 1) (g i) (i : Int) = L n (g (i + 1)) ((i + 1 : Nat) : Int))
    (stop : ∀ n : Nat, L (n + 1) (g N) (N : Int) = yes) (hN : N ≤ 9223372036854775807) : L FU s0 0 = yes := by
  rw [← h0]; exact for_loop0 N g L yes step stop hN
theorem scan_inv {S R : Type} (N : Nat) (p : Nat → Bool) (g : Nat → S) (L : Nat → S → Int → Option R) (yes no : Option R)
    (step : ∀ n i : Nat, i < N → (∀ j, j < i → p j = true) → L (n + 1) (g i) (i : Int) = if p i = true then L n (g (i + 1)) ((i + 1 : Nat) : Int) else no)
    (stop : ∀ n : Nat, (∀ j, j < N → p j = true) → L (n + 1) (g N) (N : Int) = yes) : ∀ (d n i : Nat), N = i + d → d < n → (∀ j, j < i → p j = true) → L n (g i) (i : Int) = if (∀ j, j < N → p j = true) then yes else no
  | 0, n + 1, i, hd, hn, hi => by
    have e : i = N := by omega
    subst e
    rw [stop n hi, if_pos hi]
  | d + 1, n + 1, i, hd, hn, hi => by
    rw [step n i (by omega) hi]
    by_cases hp : p i = true
    · rw [if_pos hp]
      exact scan_inv N p g L yes no step stop d n (i + 1) (by omega) (by omega) (fun j hj => by
        by_cases h : j = i
        · subst h; exact hp
        · exact hi j (by omega))
    · rw [if_neg hp, if_neg (fun h => hp (h i (by omega)))]
theorem scan_inv0 {S R : Type} (N : Nat) (p : Nat → Bool) (g : Nat → S) (L : Nat → S → Int → Option R) (yes no : Option R) {s0 : S} (h0 : g 0 = s0)
    (step : ∀ n i : Nat, i < N → (∀ j, j < i → p j = true) → L (n + 1) (g i) (i : Int) = if p i = true then L n (g (i + 1)) ((i + 1 : Nat) : Int) else no)
    (stop : ∀ n : Nat, (∀ j, j < N → p j = true) → L (n + 1) (g N) (N : Int) = yes) (hN : N ≤ 9223372036854775807) : L FU s0 0 = if (∀ j, j < N → p j = true) then yes else no := by
  rw [← h0]
  exact scan_inv N p g L yes no step stop N FU 0 (by omega) (by have := FU_pos; omega) (fun j hj => by omega)
def gi (l : List Int) (i : Nat) : Int := l.getD i 0
theorem gi_at {l : List Int} {i : Nat} (h : i < l.length) : l[i]? = some (gi l i) := by simp [gi, List.getD, h]
theorem gi_of {l : List Int} {i : Nat} {x : Int} (h : l[i]? = some x) : gi l i = x := by simp [gi, List.getD, h]
def gr (l : List (List Int)) (i : Nat) : List Int := l.getD i []
theorem gr_at {l : List (List Int)} {i : Nat} (h : i < l.length) : l[i]? = some (gr l i) := by simp [gr, List.getD, h]
theorem gr_of {l : List (List Int)} {i : Nat} {x : List Int} (h : l[i]? = some x) : gr l i = x := by simp [gr, List.getD, h]
def within (n lo hi : Int) : Bool := decide (lo ≤ n) && decide (n ≤ hi)
theorem within_iff {n lo hi : Int} : within n lo hi = true ↔ lo ≤ n ∧ n ≤ hi := by unfold within; simp
theorem bwithin_eq (n lo hi : Int) : bulk_within n lo hi = some (within n lo hi) := by
  unfold bulk_within within
  by_cases h : lo ≤ n <;> simp [h]
theorem rwithin_eq (n lo hi : Int) : ref07_within n lo hi = some (within n lo hi) := by
  unfold ref07_within within
  by_cases h : lo ≤ n <;> simp [h]
theorem sane_eq : law07_sane = some true := by decide +kernel
def tot : List Int → Int
  | [] => 0
  | x :: r => x + tot r
theorem tot_append : ∀ a b : List Int, tot (a ++ b) = tot a + tot b
  | [], b => by simp [tot]
  | x :: a, b => by simp only [List.cons_append, tot, tot_append a b]; omega
theorem tot_take {l : List Int} {i : Nat} (h : i < l.length) : tot (l.take (i + 1)) = tot (l.take i) + gi l i := by
  rw [List.take_add_one, gi_at h, tot_append]
  simp [tot]
theorem tot_bnd {M : Int} (hM : 0 ≤ M) : ∀ l : List Int, (∀ x ∈ l, 0 ≤ x ∧ x ≤ M) → 0 ≤ tot l ∧ tot l ≤ M * (l.length : Int)
  | [], _ => by simp [tot]
  | x :: r, h => by
    have ih := tot_bnd hM r (fun y hy => h y (List.mem_cons_of_mem _ hy))
    have hx := h x (List.mem_cons_self ..)
    have e : ((List.length (x :: r) : Nat) : Int) = (r.length : Int) + 1 := by simp
    rw [e, Int.mul_add]
    simp only [tot]
    omega
theorem total_eq {M : Int} (hM : 0 ≤ M ∧ M ≤ 1000) {l : List Int} (hl : l.length ≤ 1000) (h : ∀ x ∈ l, 0 ≤ x ∧ x ≤ M) : bulk_total l = some (tot l) := by
  unfold bulk_total
  refine Eq.trans (for0 l.length (fun i => tot (l.take i)) (fun k s i => bulk_total_L1 l k s i) (some (tot l)) rfl (fun k i hi => ?_) (fun k => ?_) (by omega)) rfl
  · have hb := tot_bnd hM.1 (l.take i) (fun x hx => h x (List.mem_of_mem_take hx))
    have hx := h _ (List.mem_of_getElem? (gi_at hi))
    have hlt : ((l.take i).length : Int) ≤ 1000 := by rw [List.length_take]; omega
    have h2 : M * ((l.take i).length : Int) ≤ 1000 * 1000 := Int.le_trans (Int.mul_le_mul_of_nonneg_right hM.2 (Int.natCast_nonneg _)) (Int.mul_le_mul_of_nonneg_left hlt (by decide))
    show bulk_total_B1 l (bulk_total_L1 l k) _ _ = _
    unfold bulk_total_B1
    rw [if_pos (by omega), ix_nat (gi_at hi), gd_pos (by omega), gd_pos (by omega), tot_take hi]; rfl
  · show bulk_total_B1 l (bulk_total_L1 l k) _ _ = _
    unfold bulk_total_B1
    rw [if_neg (by omega), List.take_length]; rfl
theorem rsum_eq {M : Int} (hM : 0 ≤ M ∧ M ≤ 1000) {l : List Int} (hl : l.length ≤ 1000) (h : ∀ x ∈ l, 0 ≤ x ∧ x ≤ M) : ref07_sum l = some (tot l) := by
  unfold ref07_sum
  refine Eq.trans (for0 l.length (fun i => tot (l.take i)) (fun k s i => ref07_sum_L1 l k s i) (some (tot l)) rfl (fun k i hi => ?_) (fun k => ?_) (by omega)) rfl
  · have hb := tot_bnd hM.1 (l.take i) (fun x hx => h x (List.mem_of_mem_take hx))
    have hx := h _ (List.mem_of_getElem? (gi_at hi))
    have hlt : ((l.take i).length : Int) ≤ 1000 := by rw [List.length_take]; omega
    have h2 : M * ((l.take i).length : Int) ≤ 1000 * 1000 := Int.le_trans (Int.mul_le_mul_of_nonneg_right hM.2 (Int.natCast_nonneg _)) (Int.mul_le_mul_of_nonneg_left hlt (by decide))
    show ref07_sum_B1 l (ref07_sum_L1 l k) _ _ = _
    unfold ref07_sum_B1
    rw [if_pos (by omega), ix_nat (gi_at hi), gd_pos (by omega), gd_pos (by omega), tot_take hi]; rfl
  · show ref07_sum_B1 l (ref07_sum_L1 l k) _ _ = _
    unfold ref07_sum_B1
    rw [if_neg (by omega), List.take_length]; rfl
theorem indexF_eq {l : List Int} {f : Int → Option Bool} {p : Int → Bool} (hf : ∀ x, f x = some (p x)) (hl : l.length ≤ 1000) : ∀ (suf pre : List Int) (k : Nat), l = pre ++ suf → suf.length < k → ∃ i : Int, slices_IndexFunc_int_L1 l f k (pre.length : Int) = some i ∧ (0 ≤ i ↔ suf.any p = true)
  | [], pre, k + 1, h, hk => by
    refine ⟨-1, ?_, by simp⟩
    show slices_IndexFunc_int_B1 l f (slices_IndexFunc_int_L1 l f k) _ = _
    unfold slices_IndexFunc_int_B1
    rw [if_neg (by rw [h]; simp)]; rfl
  | y :: r, pre, k + 1, h, hk => by
    have hy : l[pre.length]? = some y := by rw [h, List.getElem?_append_right (Nat.le_refl _)]; simp
    have := lt_of_at hy
    obtain ⟨i, h1, h2⟩ := indexF_eq hf hl r (pre ++ [y]) k (by rw [h]; simp) (by simp at hk; omega)
    have e : slices_IndexFunc_int_L1 l f (k + 1) (pre.length : Int) = slices_IndexFunc_int_B1 l f (slices_IndexFunc_int_L1 l f k) (pre.length : Int) := rfl
    rw [e]
    unfold slices_IndexFunc_int_B1
    rw [if_pos (by omega), ix_nat hy, bnd_eq (hf y)]
    by_cases hp : p y = true
    · rw [if_pos hp]
      exact ⟨_, rfl, by simp [hp]⟩
    · rw [if_neg hp, gd_pos (by omega)]
      rw [show (((pre ++ [y]).length : Nat) : Int) = (pre.length : Int) + 1 by simp] at h1
      exact ⟨i, h1, by rw [h2]; simp [hp]⟩
theorem containsF_eq {l : List Int} {f : Int → Option Bool} {p : Int → Bool} (hf : ∀ x, f x = some (p x)) (hl : l.length ≤ 1000) : slices_ContainsFunc_int l f = some (l.any p) := by
  obtain ⟨i, h1, h2⟩ := indexF_eq hf hl l [] FU rfl (by have := FU_pos; omega)
  unfold slices_ContainsFunc_int slices_IndexFunc_int
  have h1' : slices_IndexFunc_int_L1 l f FU 0 = some i := h1
  rw [bnd_eq h1']
  congr 1
  by_cases h : l.any p = true
  · rw [decide_eq_true (h2.2 h), h]
  · rw [decide_eq_false (fun hc => h (h2.1 hc))]; simpa using h
theorem any_not {α : Type} (l : List α) (p : α → Bool) : (!(l.any (fun x => !p x))) = l.all p := by
  induction l with
  | nil => rfl
  | cons x r ih => simp only [List.any_cons, List.all_cons, Bool.not_or, Bool.not_not, ih]
def amtB (l : List Int) : Bool := (decide (1 ≤ l.length) && decide (l.length ≤ 4)) && l.all (fun x => within x 0 30)
def rowB (n : Nat) (most : Int) (row : List Int) : Bool := decide (row.length = n) && row.all (fun x => within x 0 most)
def tabB (t : Trade) (l : List (List Int)) (most : Int) : Bool := decide (l.length = t.supply.length) && l.all (rowB t.demand.length most)
def okT (t : Trade) : Bool := amtB t.supply && amtB t.demand && decide (tot t.supply = tot t.demand) && tabB t t.cost 99
def validate (t : Trade) : Int := if okT t = true then 0 else 1
theorem amounts_eq {l : List Int} (hl : l.length ≤ 1000) : bulk_amounts l = some (amtB l) := by
  unfold bulk_amounts amtB
  rw [bnd_eq (bwithin_eq _ _ _)]
  have e : within (l.length : Int) 1 4 = (decide (1 ≤ l.length) && decide (l.length ≤ 4)) := by
    rw [Bool.eq_iff_iff, within_iff]; simp; omega
  rw [e]
  cases (decide (1 ≤ l.length) && decide (l.length ≤ 4))
  · rfl
  · rw [if_pos rfl, bnd_eq (containsF_eq (p := fun x => !within x 0 30) (fun x => by unfold bulk_amounts_1; rw [bnd_eq (bwithin_eq _ _ _)]) hl), any_not]; rfl
theorem ramounts_eq {l : List Int} (hl : l.length ≤ 1000) : ref07_amounts l = some (amtB l) := by
  unfold ref07_amounts amtB
  have e : within (l.length : Int) 1 4 = (decide (1 ≤ l.length) && decide (l.length ≤ 4)) := by
    rw [Bool.eq_iff_iff, within_iff]; simp; omega
  rw [list_loop0 l (fun x => within x 0 30) (ref07_amounts_L1 l) (some (decide (1 ≤ l.length) && decide (l.length ≤ 4))) (some false) (fun k i x hx => ?_) (fun k => ?_) (by omega)]
  · cases l.all (fun x => within x 0 30) <;> simp
  · have := lt_of_at hx
    show ref07_amounts_B1 l (ref07_amounts_L1 l k) _ = _
    unfold ref07_amounts_B1
    rw [if_pos (by omega), ix_nat hx, bnd_eq (rwithin_eq _ _ _)]
    by_cases h : within x 0 30 = true
    · rw [if_pos h, gd_pos (by omega), if_pos h]; rfl
    · rw [if_neg h, if_neg h]
  · show ref07_amounts_B1 l (ref07_amounts_L1 l k) _ = _
    unfold ref07_amounts_B1 ref07_amounts_k1
    rw [if_neg (by omega), bnd_eq (rwithin_eq _ _ _), e]
def Tsmall (t : Trade) : Prop := t.supply.length ≤ 50 ∧ t.demand.length ≤ 50 ∧ t.cost.length ≤ 50 ∧ ∀ r ∈ t.cost, r.length ≤ 50
def Lsmall (l : List (List Int)) : Prop := l.length ≤ 50 ∧ ∀ r ∈ l, r.length ≤ 50
theorem table_eq {t : Trade} (ht : t.supply.length ≤ 1000 ∧ t.demand.length ≤ 1000) {l : List (List Int)} (hl : Lsmall l) (most : Int) : bulk_table t l most = some (tabB t l most) := by
  unfold bulk_table tabB
  have hl1 := hl.1
  by_cases h : l.length = t.supply.length
  · rw [if_pos (by omega), decide_eq_true h, Bool.true_and, list_loop0 l (rowB t.demand.length most) (bulk_table_L1 t l most) (some true) (some false) (fun k i x hx => ?_) (fun k => ?_) (by omega)]
    · cases l.all (rowB t.demand.length most) <;> rfl
    · have := lt_of_at hx
      have hx50 := hl.2 x (List.mem_of_getElem? hx)
      show bulk_table_B1 t l most (bulk_table_L1 t l most k) _ = _
      unfold bulk_table_B1 bulk_table_k2 rowB
      rw [if_pos (by omega), ix_nat hx]
      by_cases hr : x.length = t.demand.length
      · rw [if_pos (by omega), bnd_eq (containsF_eq (p := fun y => !within y 0 most) (fun y => by unfold bulk_table_1; rw [bnd_eq (bwithin_eq _ _ _)]) (by omega)), decide_eq_true hr, Bool.true_and, ← any_not]
        cases x.any (fun y => !within y 0 most)
        · rw [if_neg (by simp), gd_pos (by omega), if_pos (by rfl)]; rfl
        · rw [if_pos rfl, if_neg (by simp)]
      · rw [if_neg (by omega), if_pos rfl, decide_eq_false hr, if_neg (by simp)]
    · show bulk_table_B1 t l most (bulk_table_L1 t l most k) _ = _
      unfold bulk_table_B1
      rw [if_neg (by omega)]; rfl
  · rw [if_neg (by omega), decide_eq_false h]; rfl
theorem rtable_eq {t : Trade} (ht : t.supply.length ≤ 1000 ∧ t.demand.length ≤ 1000) {l : List (List Int)} (hl : Lsmall l) (most : Int) : ref07_table t l most = some (tabB t l most) := by
  unfold ref07_table tabB
  have hl1 := hl.1
  by_cases h : l.length = t.supply.length
  · rw [if_pos (by omega), decide_eq_true h, Bool.true_and, list_loop0 l (rowB t.demand.length most) (ref07_table_L2 t l most) (some true) (some false) (fun k i x hx => ?_) (fun k => ?_) (by omega)]
    · cases l.all (rowB t.demand.length most) <;> rfl
    · have := lt_of_at hx
      have hx50 := hl.2 x (List.mem_of_getElem? hx)
      show ref07_table_B2 t l most (ref07_table_L2 t l most k) _ = _
      unfold ref07_table_B2 rowB
      rw [if_pos (by omega), ix_nat hx]
      by_cases hr : x.length = t.demand.length
      · rw [if_pos (by omega), decide_eq_true hr, Bool.true_and, list_loop0 x (fun y => within y 0 most) (ref07_table_L1 l most (i : Int) (ref07_table_L2 t l most k)) (ref07_table_L2 t l most k ((i + 1 : Nat) : Int)) (some false) (fun q j y hy => ?_) (fun q => ?_) (by omega)]
        · have := lt_of_at hy
          show ref07_table_B1 l most (i : Int) (ref07_table_L2 t l most k) (ref07_table_L1 l most (i : Int) (ref07_table_L2 t l most k) q) _ = _
          unfold ref07_table_B1
          rw [ix_nat hx, if_pos (by omega), ix_nat hx, ix_nat hy, bnd_eq (rwithin_eq _ _ _)]
          by_cases hw : within y 0 most = true
          · rw [if_pos hw, gd_pos (by omega), if_pos hw]; rfl
          · rw [if_neg hw, if_neg hw]
        · show ref07_table_B1 l most (i : Int) (ref07_table_L2 t l most k) (ref07_table_L1 l most (i : Int) (ref07_table_L2 t l most k) q) _ = _
          unfold ref07_table_B1 ref07_table_k2
          rw [ix_nat hx, if_neg (by omega), gd_pos (by omega)]; rfl
      · rw [if_neg (by omega), decide_eq_false hr, if_neg (by simp)]
    · show ref07_table_B2 t l most (ref07_table_L2 t l most k) _ = _
      unfold ref07_table_B2
      rw [if_neg (by omega)]; rfl
  · rw [if_neg (by omega), decide_eq_false h]; rfl
theorem amt_mem {l : List Int} (h : amtB l = true) : 1 ≤ l.length ∧ l.length ≤ 4 ∧ ∀ x ∈ l, 0 ≤ x ∧ x ≤ 30 := by
  unfold amtB at h
  simp only [Bool.and_eq_true, decide_eq_true_eq, List.all_eq_true, within_iff] at h
  exact ⟨h.1.1, h.1.2, h.2⟩
theorem Validate_eq {t : Trade} (ht : Tsmall t) : bulk_Validate t = some (validate t) := by
  obtain ⟨h1, h2, h3, h4⟩ := ht
  unfold bulk_Validate validate okT bulk_Validate_k1
  rw [bnd_eq (amounts_eq (by omega))]
  cases ha : amtB t.supply
  · rw [if_neg (by simp), if_pos rfl]; rfl
  · rw [if_pos rfl, bnd_eq (amounts_eq (by omega))]
    cases hb : amtB t.demand
    · rw [if_neg (by simp), if_pos rfl]; rfl
    · have m1 := amt_mem ha
      have m2 := amt_mem hb
      rw [if_pos rfl, bnd_eq (total_eq (M := 30) (by decide) (by omega) m1.2.2), bnd_eq (total_eq (M := 30) (by decide) (by omega) m2.2.2)]
      by_cases he : tot t.supply = tot t.demand
      · rw [if_pos he, bnd_eq (table_eq ⟨by omega, by omega⟩ ⟨h3, h4⟩ _), decide_eq_true he]
        cases tabB t t.cost 99 <;> rfl
      · rw [if_neg he, if_pos rfl, decide_eq_false he]; rfl
theorem rValidate_eq {t : Trade} (ht : Tsmall t) : ref07_Validate t = some (validate t) := by
  obtain ⟨h1, h2, h3, h4⟩ := ht
  unfold ref07_Validate validate okT ref07_Validate_k1
  rw [bnd_eq (ramounts_eq (by omega))]
  cases ha : amtB t.supply
  · rw [if_neg (by simp), if_pos rfl]; rfl
  · rw [if_pos rfl, bnd_eq (ramounts_eq (by omega))]
    cases hb : amtB t.demand
    · rw [if_neg (by simp), if_pos rfl]; rfl
    · have m1 := amt_mem ha
      have m2 := amt_mem hb
      rw [if_pos rfl, bnd_eq (rsum_eq (M := 30) (by decide) (by omega) m1.2.2), bnd_eq (rsum_eq (M := 30) (by decide) (by omega) m2.2.2)]
      by_cases he : tot t.supply = tot t.demand
      · rw [if_pos he, bnd_eq (rtable_eq ⟨by omega, by omega⟩ ⟨h3, h4⟩ _), decide_eq_true he]
        cases tabB t t.cost 99 <;> rfl
      · rw [if_neg he, if_pos rfl, decide_eq_false he]; rfl
end Go.D7

set_option linter.unusedVariables false
set_option linter.unusedSimpArgs false
namespace Go.D7
open Go.Tb
def sumN : Nat → (Nat → Int) → Int
  | 0, _ => 0
  | n + 1, f => sumN n f + f n
theorem sumN_congr {f g : Nat → Int} : ∀ n, (∀ i, i < n → f i = g i) → sumN n f = sumN n g
  | 0, _ => rfl
  | n + 1, h => by simp only [sumN, sumN_congr n (fun i hi => h i (by omega)), h n (by omega)]
theorem sumN_bnd {M : Int} {f : Nat → Int} : ∀ n, (∀ i, i < n → 0 ≤ f i ∧ f i ≤ M) → 0 ≤ sumN n f ∧ sumN n f ≤ M * (n : Int)
  | 0, _ => by simp [sumN]
  | n + 1, h => by
    have ih := sumN_bnd n (fun i hi => h i (by omega))
    have hn := h n (by omega)
    rw [show ((n + 1 : Nat) : Int) = (n : Int) + 1 by omega, Int.mul_add]
    simp only [sumN]; omega
theorem sumN_add (f g : Nat → Int) : ∀ n, sumN n (fun i => f i + g i) = sumN n f + sumN n g
  | 0 => rfl
  | n + 1 => by simp only [sumN, sumN_add f g n]; omega
theorem sumN_mul (c : Int) (f : Nat → Int) : ∀ n, sumN n (fun i => c * f i) = c * sumN n f
  | 0 => by simp [sumN]
  | n + 1 => by simp only [sumN, sumN_mul c f n, Int.mul_add]
theorem sumN_zero : ∀ n, sumN n (fun _ => 0) = 0
  | 0 => rfl
  | n + 1 => by simp only [sumN, sumN_zero n]; rfl
theorem sumN_swap (f : Nat → Nat → Int) (m : Nat) : ∀ n, sumN n (fun i => sumN m (fun j => f i j)) = sumN m (fun j => sumN n (fun i => f i j))
  | 0 => by simp only [sumN]; rw [sumN_zero]
  | n + 1 => by simp only [sumN, sumN_swap f m n, sumN_add]
theorem sumN_le {f g : Nat → Int} : ∀ n, (∀ i, i < n → f i ≤ g i) → sumN n f ≤ sumN n g
  | 0, _ => Int.le_refl _
  | n + 1, h => by
    have ih := sumN_le n (fun i hi => h i (by omega))
    have hn := h n (by omega)
    simp only [sumN]; omega
theorem tot_sumN (l : List Int) : tot l = sumN l.length (gi l) := by
  have key : ∀ i, i ≤ l.length → tot (l.take i) = sumN i (gi l) := by
    intro i
    induction i with
    | zero => intro _; rfl
    | succ i ih => intro h; rw [tot_take (by omega), ih (by omega)]; rfl
  have := key l.length (Nat.le_refl _)
  rwa [List.take_length] at this
def tb (m : Nat) (f : Nat → Int) : List Int := (List.range m).map f
theorem tb_len (m : Nat) (f : Nat → Int) : (tb m f).length = m := by unfold tb; simp
theorem tb_at {m : Nat} {f : Nat → Int} {k : Nat} (h : k < m) : (tb m f)[k]? = some (f k) := by unfold tb; simp [h]
theorem tb_gi {m : Nat} {f : Nat → Int} {k : Nat} (h : k < m) : gi (tb m f) k = f k := gi_of (tb_at h)
theorem tb_congr {m : Nat} {f g : Nat → Int} (h : ∀ k, k < m → f k = g k) : tb m f = tb m g := by
  unfold tb
  apply List.map_congr_left
  intro k hk
  exact h k (List.mem_range.1 hk)
theorem tb_set {m : Nat} {f : Nat → Int} {k : Nat} (v : Int) : (tb m f).set k v = tb m (fun j => if j = k then v else f j) := by
  apply List.ext_getElem?
  intro j
  rw [List.getElem?_set]
  unfold tb
  by_cases hj : j < m
  · by_cases hk : k = j
    · subst hk; simp [hj]
    · rw [if_neg hk]
      simp only [List.getElem?_map, List.getElem?_range hj, Option.map_some]
      rw [if_neg (fun e => hk e.symm)]
  · have h1 : (List.range m)[j]? = none := by rw [List.getElem?_eq_none]; simpa using hj
    simp only [List.getElem?_map, h1, Option.map_none]
    by_cases hk : k = j
    · subst hk; simp [hj]
    · rw [if_neg hk]
theorem tb_self (l : List Int) : tb l.length (gi l) = l := by
  apply List.ext_getElem?
  intro j
  by_cases hj : j < l.length
  · rw [tb_at hj, gi_at hj]
  · rw [List.getElem?_eq_none (by rw [tb_len]; omega), List.getElem?_eq_none (by omega)]
theorem rep_tb (m : Nat) : List.replicate m (0 : Int) = tb m (fun _ => 0) := by
  unfold tb
  induction m with
  | zero => rfl
  | succ m ih => rw [List.replicate_succ', ih, List.range_succ, List.map_append]; rfl
def cell (l : List (List Int)) (i j : Nat) : Int := gi (gr l i) j
def col (l : List (List Int)) (i j : Nat) : Int := sumN i (fun q => cell l q j)
def rowsB (t : Trade) (l : List (List Int)) (i : Nat) : Bool := decide (tot (gr l i) = gi t.supply i)
def checkPlan (t : Trade) (l : List (List Int)) : Int :=
  if okT t = true then (if tabB t l 120 = true then (if (∀ i, i < l.length → rowsB t l i = true) then (if tb t.demand.length (col l l.length) = t.demand then 0 else 6) else 6) else 1) else 1
theorem tab_spec {t : Trade} {l : List (List Int)} {most : Int} (h : tabB t l most = true) : l.length = t.supply.length ∧ ∀ i, i < l.length → (gr l i).length = t.demand.length ∧ (∀ x ∈ gr l i, 0 ≤ x ∧ x ≤ most) ∧ ∀ j, j < t.demand.length → 0 ≤ cell l i j ∧ cell l i j ≤ most := by
  unfold tabB at h
  simp only [Bool.and_eq_true, decide_eq_true_eq, List.all_eq_true] at h
  refine ⟨h.1, fun i hi => ?_⟩
  have hm := h.2 (gr l i) (List.mem_of_getElem? (gr_at hi))
  unfold rowB at hm
  simp only [Bool.and_eq_true, decide_eq_true_eq, List.all_eq_true, within_iff] at hm
  exact ⟨hm.1, hm.2, fun j hj => hm.2 _ (List.mem_of_getElem? (gi_at (by omega)))⟩
theorem okT_spec {t : Trade} (h : okT t = true) : (1 ≤ t.supply.length ∧ t.supply.length ≤ 4 ∧ ∀ x ∈ t.supply, 0 ≤ x ∧ x ≤ 30) ∧ (1 ≤ t.demand.length ∧ t.demand.length ≤ 4 ∧ ∀ x ∈ t.demand, 0 ≤ x ∧ x ≤ 30) ∧ tot t.supply = tot t.demand ∧ tabB t t.cost 99 = true := by
  unfold okT at h
  simp only [Bool.and_eq_true, decide_eq_true_eq] at h
  exact ⟨amt_mem h.1.1.1, amt_mem h.1.1.2, h.1.2, h.2⟩
theorem equal_eq : ∀ {a b : List Int}, a.length ≤ 1000 → slices_Equal_int a b = some (decide (a = b)) := fun {a b} hl => by
  unfold slices_Equal_int
  by_cases h : a.length = b.length
  · rw [if_pos (by omega)]
    refine Eq.trans (scan_inv0 a.length (fun i => decide (gi a i = gi b i)) (fun _ => ()) (fun k _ i => slices_Equal_int_L1 a b k i) (some true) (some false) (s0 := ()) rfl (fun k i hi _ => ?_) (fun k _ => ?_) (by omega)) ?_
    · show slices_Equal_int_B1 a b (slices_Equal_int_L1 a b k) _ = _
      unfold slices_Equal_int_B1
      rw [if_pos (by omega), ix_nat (gi_at hi), ix_nat (gi_at (by omega))]
      by_cases he : gi a i = gi b i
      · rw [if_pos he, gd_pos (by omega), if_pos (by simpa using he)]; rfl
      · rw [if_neg he, if_neg (by simpa using he)]
    · show slices_Equal_int_B1 a b (slices_Equal_int_L1 a b k) _ = _
      unfold slices_Equal_int_B1
      rw [if_neg (by omega)]; rfl
    · by_cases he : a = b
      · subst he; rw [if_pos (by simp), decide_eq_true rfl]
      · rw [decide_eq_false he, if_neg]
        intro hc
        apply he
        rw [← tb_self a, ← tb_self b, h]
        exact tb_congr fun k hk => by simpa using hc k (by omega)
  · rw [if_neg (by omega), decide_eq_false (fun e => h (by rw [e]))]
section
variable {t : Trade} {l : List (List Int)}
theorem col_bnd (h : tabB t l 120 = true) {i j : Nat} (hi : i ≤ l.length) (hj : j < t.demand.length) : 0 ≤ col l i j ∧ col l i j ≤ 120 * (i : Int) :=
  sumN_bnd i (fun q hq => ((tab_spec h).2 q (by omega)).2.2 j hj)
theorem add_loop (hl : l.length ≤ 50) (ht : t.demand.length ≤ 50) (h : tabB t l 120 = true) {i : Nat} (hi : i < l.length) (rec1 : Int → List Int → Option Int) :
    bulk_CheckPlan_L1 (i : Int) rec1 (gr l i) FU 0 (tb t.demand.length (col l i)) = bulk_CheckPlan_k2 (i : Int) rec1 (tb t.demand.length (col l (i + 1))) := by
  obtain ⟨h1, h2⟩ := tab_spec h
  have hr := h2 i hi
  refine for0 t.demand.length (fun k => tb t.demand.length (fun j => if j < k then col l (i + 1) j else col l i j)) (fun k s q => bulk_CheckPlan_L1 (i : Int) rec1 (gr l i) k q s) _ (tb_congr fun k hk => by simp) (fun k q hq => ?_) (fun k => ?_) (by omega)
  · have hb := col_bnd h (i := i) (by omega) hq
    have hc := hr.2.2 q hq
    show bulk_CheckPlan_B1 (i : Int) rec1 (gr l i) (bulk_CheckPlan_L1 (i : Int) rec1 (gr l i) k) _ _ = _
    unfold bulk_CheckPlan_B1
    have hx : (gr l i)[q]? = some (cell l i q) := gi_at (by omega)
    have hy : (tb t.demand.length (fun j => if j < q then col l (i + 1) j else col l i j))[q]? = some (col l i q) := by rw [tb_at hq]; simp
    rw [if_pos (by omega), ix_nat hx, ix_nat hy, gd_pos (by omega), ix_nat hy, gd_pos (by omega), show Int.toNat (q : Int) = q from rfl, tb_set]
    refine congrArg (bulk_CheckPlan_L1 (i : Int) rec1 (gr l i) k _) (tb_congr fun j hj => ?_)
    by_cases e : j = q
    · subst e; rw [if_pos rfl, if_pos (by omega)]; rfl
    · rw [if_neg e]
      by_cases e2 : j < q
      · rw [if_pos e2, if_pos (by omega)]
      · rw [if_neg e2, if_neg (by omega)]
  · show bulk_CheckPlan_B1 (i : Int) rec1 (gr l i) (bulk_CheckPlan_L1 (i : Int) rec1 (gr l i) k) _ _ = _
    unfold bulk_CheckPlan_B1
    rw [if_neg (by omega)]
    congr 1
    exact tb_congr fun j hj => by rw [if_pos hj]
theorem radd_loop (hl : l.length ≤ 50) (ht : t.demand.length ≤ 50) (h : tabB t l 120 = true) {i : Nat} (hi : i < l.length) (rec1 : Int → List Int → Option Int) :
    ref07_CheckPlan_L2 l (i : Int) rec1 FU 0 (tb t.demand.length (col l i)) = ref07_CheckPlan_k3 (i : Int) rec1 (tb t.demand.length (col l (i + 1))) := by
  obtain ⟨h1, h2⟩ := tab_spec h
  have hr := h2 i hi
  refine for0 t.demand.length (fun k => tb t.demand.length (fun j => if j < k then col l (i + 1) j else col l i j)) (fun k s q => ref07_CheckPlan_L2 l (i : Int) rec1 k q s) _ (tb_congr fun k hk => by simp) (fun k q hq => ?_) (fun k => ?_) (by omega)
  · have hb := col_bnd h (i := i) (by omega) hq
    have hc := hr.2.2 q hq
    show ref07_CheckPlan_B2 l (i : Int) rec1 (ref07_CheckPlan_L2 l (i : Int) rec1 k) _ _ = _
    unfold ref07_CheckPlan_B2
    have hx : (gr l i)[q]? = some (cell l i q) := gi_at (by omega)
    have hy : (tb t.demand.length (fun j => if j < q then col l (i + 1) j else col l i j))[q]? = some (col l i q) := by rw [tb_at hq]; simp
    rw [if_pos (by rw [tb_len]; omega), ix_nat hy, ix_nat (gr_at hi), ix_nat hx, gd_pos (by omega), ix_nat hy, gd_pos (by omega), show Int.toNat (q : Int) = q from rfl, tb_set]
    refine congrArg (ref07_CheckPlan_L2 l (i : Int) rec1 k _) (tb_congr fun j hj => ?_)
    by_cases e : j = q
    · subst e; rw [if_pos rfl, if_pos (by omega)]; rfl
    · rw [if_neg e]
      by_cases e2 : j < q
      · rw [if_pos e2, if_pos (by omega)]
      · rw [if_neg e2, if_neg (by omega)]
  · show ref07_CheckPlan_B2 l (i : Int) rec1 (ref07_CheckPlan_L2 l (i : Int) rec1 k) _ _ = _
    unfold ref07_CheckPlan_B2
    rw [if_neg (by rw [tb_len]; omega)]
    congr 1
    exact tb_congr fun j hj => by rw [if_pos hj]
theorem CheckPlan_eq (ht : Tsmall t) (hl : Lsmall l) : bulk_CheckPlan t l = some (checkPlan t l) := by
  unfold bulk_CheckPlan checkPlan
  rw [bnd_eq (Validate_eq ht)]
  unfold validate
  have hl1 := hl.1
  have hd1 := ht.2.1
  by_cases hv : okT t = true
  · rw [if_pos hv, if_pos rfl, bnd_eq (table_eq ⟨by have := ht.1; omega, by omega⟩ hl _), if_pos hv]
    by_cases hT : tabB t l 120 = true
    · obtain ⟨h1, h2⟩ := tab_spec hT
      rw [if_pos hT, if_pos hT, gd_pos (by omega)]
      refine Eq.trans (scan_inv0 l.length (rowsB t l) (fun i => tb t.demand.length (col l i)) (fun k s i => bulk_CheckPlan_L2 t l k i s) (bulk_CheckPlan_k1 t (tb t.demand.length (col l l.length))) (some 6) (by rw [show Int.toNat (t.demand.length : Int) = t.demand.length from rfl, rep_tb]; rfl) (fun k i hi _ => ?_) (fun k _ => ?_) (by omega)) ?_
      · have hr := h2 i hi
        show bulk_CheckPlan_B2 t l (bulk_CheckPlan_L2 t l k) _ _ = _
        unfold bulk_CheckPlan_B2 rowsB
        rw [if_pos (by omega), ix_nat (gr_at hi), bnd_eq (total_eq (M := 120) (by decide) (by omega) hr.2.1), ix_nat (gi_at (by omega))]
        by_cases he : tot (gr l i) = gi t.supply i
        · rw [if_pos he, add_loop hl1 hd1 hT hi, if_pos (by simpa using he)]
          unfold bulk_CheckPlan_k2
          rw [gd_pos (by omega)]; rfl
        · rw [if_neg he, if_neg (by simpa using he)]
      · show bulk_CheckPlan_B2 t l (bulk_CheckPlan_L2 t l k) _ _ = _
        unfold bulk_CheckPlan_B2
        rw [if_neg (by omega)]
      · by_cases hc : ∀ i, i < l.length → rowsB t l i = true
        · rw [if_pos hc, if_pos hc]
          unfold bulk_CheckPlan_k1
          rw [bnd_eq (equal_eq (by rw [tb_len]; omega))]
          by_cases he : tb t.demand.length (col l l.length) = t.demand
          · rw [decide_eq_true he, if_pos rfl, if_pos he]
          · rw [decide_eq_false he, if_neg (by simp), if_neg he]
        · rw [if_neg hc, if_neg hc]
    · rw [if_neg hT, if_neg hT]
  · rw [if_neg hv, if_neg (by decide), if_neg hv]
theorem rCheckPlan_eq (ht : Tsmall t) (hl : Lsmall l) : ref07_CheckPlan t l = some (checkPlan t l) := by
  unfold ref07_CheckPlan checkPlan
  rw [bnd_eq (rValidate_eq ht)]
  unfold validate
  have hl1 := hl.1
  have hd1 := ht.2.1
  by_cases hv : okT t = true
  · rw [if_pos hv, if_pos rfl, bnd_eq (rtable_eq ⟨by have := ht.1; omega, by omega⟩ hl _), if_pos hv]
    by_cases hT : tabB t l 120 = true
    · obtain ⟨h1, h2⟩ := tab_spec hT
      rw [if_pos hT, if_pos hT, gd_pos (by omega)]
      refine Eq.trans (scan_inv0 l.length (rowsB t l) (fun i => tb t.demand.length (col l i)) (fun k s i => ref07_CheckPlan_L3 t l k i s) (ref07_CheckPlan_k2 t (tb t.demand.length (col l l.length))) (some 6) (by rw [show Int.toNat (t.demand.length : Int) = t.demand.length from rfl, rep_tb]; rfl) (fun k i hi _ => ?_) (fun k _ => ?_) (by omega)) ?_
      · have hr := h2 i hi
        show ref07_CheckPlan_B3 t l (ref07_CheckPlan_L3 t l k) _ _ = _
        unfold ref07_CheckPlan_B3 rowsB
        rw [if_pos (by omega), ix_nat (gr_at hi), bnd_eq (rsum_eq (M := 120) (by decide) (by omega) hr.2.1), ix_nat (gi_at (by omega))]
        by_cases he : tot (gr l i) = gi t.supply i
        · rw [if_pos he, radd_loop hl1 hd1 hT hi, if_pos (by simpa using he)]
          unfold ref07_CheckPlan_k3
          rw [gd_pos (by omega)]; rfl
        · rw [if_neg he, if_neg (by simpa using he)]
      · show ref07_CheckPlan_B3 t l (ref07_CheckPlan_L3 t l k) _ _ = _
        unfold ref07_CheckPlan_B3
        rw [if_neg (by omega)]
      · by_cases hc : ∀ i, i < l.length → rowsB t l i = true
        · rw [if_pos hc, if_pos hc]
          unfold ref07_CheckPlan_k2
          refine Eq.trans (scan_inv0 t.demand.length (fun j => decide (col l l.length j = gi t.demand j)) (fun _ => ()) (fun k _ i => ref07_CheckPlan_L1 t (tb t.demand.length (col l l.length)) k i) (some 0) (some 6) (s0 := ()) rfl (fun k j hj _ => ?_) (fun k _ => ?_) (by omega)) ?_
          · show ref07_CheckPlan_B1 t (tb t.demand.length (col l l.length)) (ref07_CheckPlan_L1 t (tb t.demand.length (col l l.length)) k) _ = _
            unfold ref07_CheckPlan_B1
            rw [if_pos (by rw [tb_len]; omega), ix_nat (tb_at hj), ix_nat (gi_at hj)]
            by_cases he : col l l.length j = gi t.demand j
            · rw [if_pos he, gd_pos (by omega), if_pos (by simpa using he)]; rfl
            · rw [if_neg he, if_neg (by simpa using he)]
          · show ref07_CheckPlan_B1 t (tb t.demand.length (col l l.length)) (ref07_CheckPlan_L1 t (tb t.demand.length (col l l.length)) k) _ = _
            unfold ref07_CheckPlan_B1
            rw [if_neg (by rw [tb_len]; omega)]; rfl
          · have e : (∀ j, j < t.demand.length → decide (col l l.length j = gi t.demand j) = true) ↔ tb t.demand.length (col l l.length) = t.demand := by
              constructor
              · intro h
                conv => rhs; rw [← tb_self t.demand]
                exact tb_congr fun k hk => by simpa using h k hk
              · intro h j hj
                have := tb_gi (f := col l l.length) hj
                rw [h] at this
                simpa using this.symm
            by_cases he : tb t.demand.length (col l l.length) = t.demand
            · rw [if_pos (e.2 he), if_pos he]
            · rw [if_neg (fun h => he (e.1 h)), if_neg he]
        · rw [if_neg hc, if_neg hc]
    · rw [if_neg hT, if_neg hT]
  · rw [if_neg hv, if_neg (by decide), if_neg hv]
def rowCost (t : Trade) (l : List (List Int)) (i j : Nat) : Int := sumN j (fun q => cell l i q * cell t.cost i q)
def costN (t : Trade) (l : List (List Int)) (i : Nat) : Int := sumN i (fun q => rowCost t l q t.demand.length)
theorem mul_bnd {x y X Y : Int} (hx : 0 ≤ x ∧ x ≤ X) (hy : 0 ≤ y ∧ y ≤ Y) : 0 ≤ x * y ∧ x * y ≤ X * Y :=
  ⟨Int.mul_nonneg hx.1 hy.1, Int.le_trans (Int.mul_le_mul_of_nonneg_right hx.2 hy.1) (Int.mul_le_mul_of_nonneg_left hy.2 (by omega))⟩
theorem cell_cost (hv : okT t = true) (h : tabB t l 120 = true) {i j : Nat} (hi : i < l.length) (hj : j < t.demand.length) : 0 ≤ cell l i j * cell t.cost i j ∧ cell l i j * cell t.cost i j ≤ 11880 := by
  have h1 := tab_spec h
  have h2 := tab_spec (okT_spec hv).2.2.2
  exact mul_bnd (X := 120) (Y := 99) ((h1.2 i hi).2.2 j hj) ((h2.2 i (by omega)).2.2 j hj)
theorem rowCost_bnd (hv : okT t = true) (h : tabB t l 120 = true) {i j : Nat} (hi : i < l.length) (hj : j ≤ t.demand.length) : 0 ≤ rowCost t l i j ∧ rowCost t l i j ≤ 11880 * (j : Int) :=
  sumN_bnd j (fun q hq => cell_cost hv h hi (by omega))
theorem costN_bnd (hv : okT t = true) (h : tabB t l 120 = true) {i : Nat} (hi : i ≤ l.length) : 0 ≤ costN t l i ∧ costN t l i ≤ 47520 * (i : Int) := by
  have hd := (okT_spec hv).2.1.2.1
  exact sumN_bnd i (fun q hq => by have := rowCost_bnd hv h (i := q) (by omega) (Nat.le_refl _); omega)
theorem cost_in (hv : okT t = true) (h : tabB t l 120 = true) {i : Nat} (hi : i < l.length) (rec1 : Int → Int → Option Int) : bulk_cost_L1 t (i : Int) rec1 (gr l i) FU (costN t l i) 0 = bulk_cost_k2 (i : Int) rec1 (costN t l (i + 1)) := by
  obtain ⟨h1, h2⟩ := tab_spec h
  obtain ⟨c1, c2⟩ := tab_spec (okT_spec hv).2.2.2
  have hd := (okT_spec hv).2.1.2.1
  have hs := (okT_spec hv).1.2.1
  have hr := h2 i hi
  have hc := c2 i (by omega)
  have hb := costN_bnd hv h (i := i) (by omega)
  refine for0 t.demand.length (fun j => costN t l i + rowCost t l i j) (fun k s q => bulk_cost_L1 t (i : Int) rec1 (gr l i) k s q) _ (by simp [rowCost, sumN]) (fun k q hq => ?_) (fun k => ?_) (by omega)
  · have hx : (gr l i)[q]? = some (cell l i q) := gi_at (by omega)
    have hy : (gr t.cost i)[q]? = some (cell t.cost i q) := gi_at (by omega)
    have b1 := rowCost_bnd hv h hi (j := q) (by omega)
    have b2 := cell_cost hv h hi hq
    show bulk_cost_B1 t (i : Int) rec1 (gr l i) (bulk_cost_L1 t (i : Int) rec1 (gr l i) k) _ _ = _
    unfold bulk_cost_B1
    rw [if_pos (by omega), ix_nat hx, ix_nat (gr_at (by omega)), ix_nat hy, gd_pos (by omega), gd_pos (by omega), gd_pos (by omega), Int.add_assoc]; rfl
  · show bulk_cost_B1 t (i : Int) rec1 (gr l i) (bulk_cost_L1 t (i : Int) rec1 (gr l i) k) _ _ = _
    unfold bulk_cost_B1
    rw [if_neg (by omega)]; rfl
theorem cost_eq (hv : okT t = true) (h : tabB t l 120 = true) : bulk_cost t l = some (costN t l l.length) := by
  obtain ⟨h1, h2⟩ := tab_spec h
  have hs := (okT_spec hv).1.2.1
  unfold bulk_cost
  refine for0 l.length (costN t l) (fun k s i => bulk_cost_L2 t l k s i) _ rfl (fun k i hi => ?_) (fun k => ?_) (by omega)
  · show bulk_cost_B2 t l (bulk_cost_L2 t l k) _ _ = _
    unfold bulk_cost_B2
    rw [if_pos (by omega), ix_nat (gr_at hi), cost_in hv h hi]
    unfold bulk_cost_k2
    rw [gd_pos (by omega)]; rfl
  · show bulk_cost_B2 t l (bulk_cost_L2 t l k) _ _ = _
    unfold bulk_cost_B2
    rw [if_neg (by omega)]; rfl
theorem rcost_in (hv : okT t = true) (h : tabB t l 120 = true) {i : Nat} (hi : i < l.length) (rec1 : Int → Int → Option Int) : ref07_cost_L1 t l (i : Int) rec1 FU (costN t l i) 0 = ref07_cost_k2 (i : Int) rec1 (costN t l (i + 1)) := by
  obtain ⟨h1, h2⟩ := tab_spec h
  obtain ⟨c1, c2⟩ := tab_spec (okT_spec hv).2.2.2
  have hd := (okT_spec hv).2.1.2.1
  have hs := (okT_spec hv).1.2.1
  have hr := h2 i hi
  have hc := c2 i (by omega)
  have hb := costN_bnd hv h (i := i) (by omega)
  refine for0 t.demand.length (fun j => costN t l i + rowCost t l i j) (fun k s q => ref07_cost_L1 t l (i : Int) rec1 k s q) _ (by simp [rowCost, sumN]) (fun k q hq => ?_) (fun k => ?_) (by omega)
  · have hx : (gr l i)[q]? = some (cell l i q) := gi_at (by omega)
    have hy : (gr t.cost i)[q]? = some (cell t.cost i q) := gi_at (by omega)
    have b1 := rowCost_bnd hv h hi (j := q) (by omega)
    have b2 := cell_cost hv h hi hq
    show ref07_cost_B1 t l (i : Int) rec1 (ref07_cost_L1 t l (i : Int) rec1 k) _ _ = _
    unfold ref07_cost_B1
    rw [ix_nat (gr_at hi), if_pos (by omega), ix_nat (gr_at hi), ix_nat hx, ix_nat (gr_at (by omega)), ix_nat hy, gd_pos (by omega), gd_pos (by omega), gd_pos (by omega), Int.add_assoc]; rfl
  · show ref07_cost_B1 t l (i : Int) rec1 (ref07_cost_L1 t l (i : Int) rec1 k) _ _ = _
    unfold ref07_cost_B1
    rw [ix_nat (gr_at hi), if_neg (by omega)]; rfl
theorem rcost_eq (hv : okT t = true) (h : tabB t l 120 = true) : ref07_cost t l = some (costN t l l.length) := by
  obtain ⟨h1, h2⟩ := tab_spec h
  have hs := (okT_spec hv).1.2.1
  unfold ref07_cost
  refine for0 l.length (costN t l) (fun k s i => ref07_cost_L2 t l k s i) _ rfl (fun k i hi => ?_) (fun k => ?_) (by omega)
  · show ref07_cost_B2 t l (ref07_cost_L2 t l k) _ _ = _
    unfold ref07_cost_B2
    rw [if_pos (by omega), rcost_in hv h hi]
    unfold ref07_cost_k2
    rw [gd_pos (by omega)]; rfl
  · show ref07_cost_B2 t l (ref07_cost_L2 t l k) _ _ = _
    unfold ref07_cost_B2
    rw [if_neg (by omega)]; rfl
theorem check0 (h : checkPlan t l = 0) : okT t = true ∧ tabB t l 120 = true ∧ (∀ i, i < l.length → tot (gr l i) = gi t.supply i) ∧ ∀ j, j < t.demand.length → col l l.length j = gi t.demand j := by
  unfold checkPlan at h
  split at h
  · rename_i hv
    split at h
    · rename_i hT
      split at h
      · rename_i hr
        split at h
        · rename_i hc
          refine ⟨hv, hT, fun i hi => by simpa [rowsB] using hr i hi, fun j hj => ?_⟩
          have := tb_gi (f := col l l.length) hj
          rw [hc] at this
          exact this.symm
        · cases h
      · cases h
    · cases h
  · cases h
end
instance (l : List (List Int)) : Decidable (Lsmall l) := by unfold Lsmall; infer_instance
theorem tabLong_eq {l : List (List Int)} (hl : l.length ≤ 9223372036854775807) : law07_table l = some (!(l.all (fun r => decide (r.length ≤ 50)) && decide (l.length ≤ 50))) := by
  unfold law07_table
  rw [list_loop0 l (fun r => decide (r.length ≤ 50)) (law07_table_L1 l) (some (decide (50 < l.length))) (some true) (fun k i x hx => ?_) (fun k => ?_) hl]
  · cases l.all (fun r => decide (r.length ≤ 50))
    · rfl
    · rw [if_pos rfl, Bool.true_and]
      congr 1
      rw [Bool.eq_iff_iff]; simp
  · have := lt_of_at hx
    show law07_table_B1 l (law07_table_L1 l k) _ = _
    unfold law07_table_B1
    rw [if_pos (by omega), ix_nat hx]
    by_cases h : x.length ≤ 50
    · rw [if_neg (by omega), gd_pos (by omega), if_pos (by simpa using h)]; rfl
    · rw [if_pos (by omega), if_neg (by simpa using h)]
  · show law07_table_B1 l (law07_table_L1 l k) _ = _
    unfold law07_table_B1 law07_table_k1
    rw [if_neg (by omega)]
    congr 1
    exact decide_eq_decide.2 (by omega)
theorem small_iff {l : List (List Int)} : (!(l.all (fun r => decide (r.length ≤ 50)) && decide (l.length ≤ 50))) = false ↔ Lsmall l := by
  unfold Lsmall
  simp only [Bool.not_eq_false', Bool.and_eq_true, List.all_eq_true, decide_eq_true_eq]
  exact ⟨fun h => ⟨h.2, h.1⟩, fun h => ⟨h.2, h.1⟩⟩
/-- Long says true, or all is small. -/
theorem Long0 {t : Trade} (h3 : t.cost.length ≤ 9223372036854775807) : (law07_Long t [] = some true) ∨ (law07_Long t [] = some false ∧ Tsmall t) := by
  have e : law07_Long t [] = law07_Long_k1 t := by
    unfold law07_Long
    rw [list_loop0 ([] : List (List (List Int))) (fun _ => true) (law07_Long_L1 t []) (law07_Long_k1 t) (some true) (fun k i x hx => by cases hx) (fun k => ?_) (by simp)]
    · rfl
    · show law07_Long_B1 t [] (law07_Long_L1 t [] k) _ = _
      unfold law07_Long_B1
      rw [if_neg (by simp)]
  rw [e]
  unfold law07_Long_k1
  by_cases a : (50 : Int) < (t.supply.length : Int)
  · rw [if_pos a]; exact .inl rfl
  · rw [if_neg a]
    by_cases b : (50 : Int) < (t.demand.length : Int)
    · rw [if_pos b]; exact .inl rfl
    · rw [if_neg b, bnd_eq (tabLong_eq h3)]
      cases hq : (!(t.cost.all (fun r => decide (r.length ≤ 50)) && decide (t.cost.length ≤ 50)))
      · have := small_iff.1 hq
        exact .inr ⟨rfl, by omega, by omega, this.1, this.2⟩
      · exact .inl rfl
end Go.D7

set_option linter.unusedVariables false
set_option linter.unusedSimpArgs false
namespace Go.D7
open Go.Tb
def tg {α : Type} (m : Nat) (f : Nat → α) : List α := (List.range m).map f
section
variable {α : Type}
theorem tg_len (m : Nat) (f : Nat → α) : (tg m f).length = m := by unfold tg; simp
theorem tg_at {m : Nat} {f : Nat → α} {k : Nat} (h : k < m) : (tg m f)[k]? = some (f k) := by unfold tg; simp [h]
theorem tg_congr {m : Nat} {f g : Nat → α} (h : ∀ k, k < m → f k = g k) : tg m f = tg m g := by
  unfold tg
  apply List.map_congr_left
  intro k hk
  exact h k (List.mem_range.1 hk)
theorem tg_set {m : Nat} {f : Nat → α} {k : Nat} (v : α) : (tg m f).set k v = tg m (fun j => if j = k then v else f j) := by
  apply List.ext_getElem?
  intro j
  rw [List.getElem?_set]
  unfold tg
  by_cases hj : j < m
  · by_cases hk : k = j
    · subst hk; simp [hj]
    · rw [if_neg hk]
      simp only [List.getElem?_map, List.getElem?_range hj, Option.map_some]
      rw [if_neg (fun e => hk e.symm)]
  · have h1 : (List.range m)[j]? = none := by rw [List.getElem?_eq_none]; simpa using hj
    simp only [List.getElem?_map, h1, Option.map_none]
    by_cases hk : k = j
    · subst hk; simp [hj]
    · rw [if_neg hk]
theorem tg_push (m : Nat) (f : Nat → α) : tg m f ++ [f m] = tg (m + 1) f := by
  unfold tg; rw [List.range_succ, List.map_append]; rfl
theorem rep_tg (m : Nat) (x : α) : List.replicate m x = tg m (fun _ => x) := by
  unfold tg
  induction m with
  | zero => rfl
  | succ m ih => rw [List.replicate_succ', ih, List.range_succ, List.map_append]; rfl
end
/-- A table by a function. -/
def tbl (n m : Nat) (f : Nat → Nat → Int) : List (List Int) := tg n (fun i => tb m (f i))
theorem tbl_len (n m : Nat) (f : Nat → Nat → Int) : (tbl n m f).length = n := tg_len _ _
theorem tbl_at {n m : Nat} {f : Nat → Nat → Int} {i : Nat} (h : i < n) : (tbl n m f)[i]? = some (tb m (f i)) := tg_at h
theorem tbl_gr {n m : Nat} {f : Nat → Nat → Int} {i : Nat} (h : i < n) : gr (tbl n m f) i = tb m (f i) := gr_of (tbl_at h)
theorem tbl_cell {n m : Nat} {f : Nat → Nat → Int} {i j : Nat} (h : i < n) (hj : j < m) : cell (tbl n m f) i j = f i j := by
  unfold cell; rw [tbl_gr h, tb_gi hj]
theorem tbl_congr {n m : Nat} {f g : Nat → Nat → Int} (h : ∀ i j, i < n → j < m → f i j = g i j) : tbl n m f = tbl n m g :=
  tg_congr fun i hi => tb_congr fun j hj => h i j hi hj
theorem tbl_set {n m : Nat} {f : Nat → Nat → Int} {i j : Nat} (h : i < n) (v : Int) : (tbl n m f).set i ((tb m (f i)).set j v) = tbl n m (fun p q => if p = i ∧ q = j then v else f p q) := by
  unfold tbl
  rw [tg_set, tb_set]
  refine tg_congr fun p hp => ?_
  by_cases e : p = i
  · subst e
    rw [if_pos rfl]
    refine tb_congr fun q hq => ?_
    show (if q = j then v else f p q) = (if p = p ∧ q = j then v else f p q)
    by_cases e2 : q = j
    · rw [if_pos e2, if_pos ⟨rfl, e2⟩]
    · rw [if_neg e2, if_neg (fun h => e2 h.2)]
  · rw [if_neg e]
    refine tb_congr fun q hq => ?_
    show f p q = (if p = i ∧ q = j then v else f p q)
    rw [if_neg (fun h => e h.1)]
theorem tbl_small {n m : Nat} (hn : n ≤ 50) (hm : m ≤ 50) (f : Nat → Nat → Int) : Lsmall (tbl n m f) := by
  refine ⟨by rw [tbl_len]; exact hn, fun r hr => ?_⟩
  unfold tbl tg at hr
  obtain ⟨i, _, rfl⟩ := List.mem_map.1 hr
  rw [tb_len]; exact hm
/-- A plan as a function. -/
structure PlanF (t : Trade) (f : Nat → Nat → Int) : Prop where
  nn : ∀ i j, 0 ≤ f i j
  row : ∀ i, i < t.supply.length → sumN t.demand.length (f i) = gi t.supply i
  col : ∀ j, j < t.demand.length → sumN t.supply.length (fun i => f i j) = gi t.demand j
def tab (t : Trade) (f : Nat → Nat → Int) : List (List Int) := tbl t.supply.length t.demand.length f
theorem sumN_mem {f : Nat → Int} : ∀ {n k : Nat}, (∀ i, i < n → 0 ≤ f i) → k < n → f k ≤ sumN n f
  | n + 1, k, h, hk => by
    simp only [sumN]
    have h0 := (sumN_bnd (M := 0) 0 (f := f) (by simp)).1
    by_cases e : k = n
    · subst e
      have : 0 ≤ sumN k f := by
        have := sumN_le (f := fun _ => 0) (g := f) k (fun i hi => h i (by omega))
        rw [sumN_zero] at this; exact this
      omega
    · have := sumN_mem (n := n) (fun i hi => h i (by omega)) (show k < n by omega)
      have := h n (by omega)
      omega
theorem sumN_nn {f : Nat → Int} {n : Nat} (h : ∀ i, i < n → 0 ≤ f i) : 0 ≤ sumN n f := by
  have := sumN_le (f := fun _ => 0) (g := f) n h
  rw [sumN_zero] at this; exact this
theorem supply_bnd {t : Trade} (h : okT t = true) {i : Nat} (hi : i < t.supply.length) : 0 ≤ gi t.supply i ∧ gi t.supply i ≤ 30 := (okT_spec h).1.2.2 _ (List.mem_of_getElem? (gi_at hi))
theorem demand_bnd {t : Trade} (h : okT t = true) {i : Nat} (hi : i < t.demand.length) : 0 ≤ gi t.demand i ∧ gi t.demand i ≤ 30 := (okT_spec h).2.1.2.2 _ (List.mem_of_getElem? (gi_at hi))
theorem plan_le {t : Trade} (h : okT t = true) {f : Nat → Nat → Int} (hp : PlanF t f) {i j : Nat} (hi : i < t.supply.length) (hj : j < t.demand.length) : f i j ≤ 30 := by
  have h1 := sumN_mem (f := f i) (fun q _ => hp.nn i q) hj
  rw [hp.row i hi] at h1
  have := supply_bnd h hi
  omega
theorem plan_check {t : Trade} (h : okT t = true) {f : Nat → Nat → Int} (hp : PlanF t f) : checkPlan t (tab t f) = 0 := by
  have hT : tabB t (tab t f) 120 = true := by
    unfold tabB
    rw [Bool.and_eq_true]
    refine ⟨decide_eq_true (tbl_len _ _ _), List.all_eq_true.2 fun r hr => ?_⟩
    unfold tab tbl tg at hr
    obtain ⟨i, hi, rfl⟩ := List.mem_map.1 hr
    rw [List.mem_range] at hi
    unfold rowB
    rw [tb_len, decide_eq_true rfl, Bool.true_and]
    refine List.all_eq_true.2 fun x hx => ?_
    unfold tb at hx
    obtain ⟨j, hj, rfl⟩ := List.mem_map.1 hx
    rw [List.mem_range] at hj
    have := plan_le h hp hi hj
    have := hp.nn i j
    rw [within_iff]; omega
  unfold checkPlan
  rw [if_pos h, if_pos hT, if_pos, if_pos]
  · conv => rhs; rw [← tb_self t.demand]
    refine tb_congr fun j hj => ?_
    unfold col
    have e : (tab t f).length = t.supply.length := tbl_len _ _ _
    rw [e, ← hp.col j hj]
    exact sumN_congr _ fun i hi => tbl_cell hi hj
  · intro i hi
    have e : (tab t f).length = t.supply.length := tbl_len _ _ _
    unfold rowsB
    rw [decide_eq_true_eq]
    unfold tab
    rw [tbl_gr (by omega), tot_sumN, tb_len, ← hp.row i (by omega)]
    exact sumN_congr _ fun j hj => tb_gi hj
structure Cor (t : Trade) (i j : Nat) (f : Nat → Nat → Int) (a b : Nat → Int) : Prop where
  nn : ∀ p q, 0 ≤ f p q
  fresh : ∀ p q, (i < p ∨ (p = i ∧ j ≤ q)) → f p q = 0
  an : ∀ p, 0 ≤ a p
  bn : ∀ q, 0 ≤ b q
  a0 : ∀ p, p < i → a p = 0
  b0 : ∀ q, q < j → b q = 0
  row : ∀ p, p < t.supply.length → sumN t.demand.length (f p) + a p = gi t.supply p
  col : ∀ q, q < t.demand.length → sumN t.supply.length (fun p => f p q) + b q = gi t.demand q
  ai : ∀ p, p < t.supply.length → a p ≤ 30
  bi : ∀ q, q < t.demand.length → b q ≤ 30
theorem sumN_upd {g : Nat → Int} {k : Nat} {v : Int} : ∀ n, sumN n (fun q => if q = k then v else g q) = sumN n g + (if k < n then v - g k else 0)
  | 0 => by simp [sumN]
  | n + 1 => by
    simp only [sumN, sumN_upd n]
    by_cases e : n = k
    · subst e; rw [if_neg (by omega), if_pos rfl, if_pos (by omega)]; omega
    · rw [if_neg e]
      by_cases h : k < n
      · rw [if_pos h, if_pos (by omega)]; omega
      · rw [if_neg h, if_neg (by omega)]; omega
theorem sumN_zero_of {f : Nat → Int} {n : Nat} (h : ∀ i, i < n → 0 ≤ f i) (h0 : sumN n f = 0) : ∀ i, i < n → f i = 0 := fun i hi => by
  have := sumN_mem h hi
  have := h i hi
  omega
theorem cor_done {t : Trade} (ht : okT t = true) {i j : Nat} {f : Nat → Nat → Int} {a b : Nat → Int} (h : Cor t i j f a b) (hij : t.supply.length ≤ i ∨ t.demand.length ≤ j) : PlanF t f := by
  have e1 := (okT_spec ht).2.2.1
  rw [tot_sumN, tot_sumN] at e1
  have s1 : sumN t.supply.length (fun p => sumN t.demand.length (f p)) + sumN t.supply.length a = sumN t.supply.length (gi t.supply) := by
    rw [← sumN_add]; exact sumN_congr _ fun p hp => h.row p hp
  have s2 : sumN t.demand.length (fun q => sumN t.supply.length (fun p => f p q)) + sumN t.demand.length b = sumN t.demand.length (gi t.demand) := by
    rw [← sumN_add]; exact sumN_congr _ fun p hp => h.col p hp
  have s3 : sumN t.supply.length (fun p => sumN t.demand.length (f p)) = sumN t.demand.length (fun q => sumN t.supply.length (fun p => f p q)) := sumN_swap f t.demand.length t.supply.length
  have hab : sumN t.supply.length a = 0 ∧ sumN t.demand.length b = 0 := by
    rcases hij with hi | hj
    · have : sumN t.supply.length a = 0 := by
        rw [sumN_congr (g := fun _ => 0) _ (fun p hp => h.a0 p (by omega)), sumN_zero]
      omega
    · have : sumN t.demand.length b = 0 := by
        rw [sumN_congr (g := fun _ => 0) _ (fun p hp => h.b0 p (by omega)), sumN_zero]
      omega
  refine ⟨h.nn, fun p hp => ?_, fun q hq => ?_⟩
  · have := sumN_zero_of (fun p _ => h.an p) hab.1 p hp
    have := h.row p hp
    omega
  · have := sumN_zero_of (fun p _ => h.bn p) hab.2 q hq
    have := h.col q hq
    omega
theorem cor_step {t : Trade} {i j : Nat} {f : Nat → Nat → Int} {a b : Nat → Int} (h : Cor t i j f a b) (hi : i < t.supply.length) (hj : j < t.demand.length) :
    let n := min (a i) (b j)
    (a i - n = 0 → Cor t (i + 1) j (fun p q => if p = i ∧ q = j then n else f p q) (fun p => if p = i then a i - n else a p) (fun q => if q = j then b j - n else b q)) ∧
    (a i - n ≠ 0 → Cor t i (j + 1) (fun p q => if p = i ∧ q = j then n else f p q) (fun p => if p = i then a i - n else a p) (fun q => if q = j then b j - n else b q)) := by
  intro n
  have hn : n ≤ a i ∧ n ≤ b j ∧ (n = a i ∨ n = b j) ∧ 0 ≤ n := by
    have := h.an i; have := h.bn j
    show min (a i) (b j) ≤ a i ∧ min (a i) (b j) ≤ b j ∧ (min (a i) (b j) = a i ∨ min (a i) (b j) = b j) ∧ 0 ≤ min (a i) (b j)
    omega
  have h0 := h.fresh i j (.inr ⟨rfl, Nat.le_refl _⟩)
  have nn' : ∀ p q, 0 ≤ (if p = i ∧ q = j then n else f p q) := fun p q => by
    split
    · exact hn.2.2.2
    · exact h.nn p q
  have an' : ∀ p, 0 ≤ (if p = i then a i - n else a p) := fun p => by
    split
    · omega
    · exact h.an p
  have bn' : ∀ q, 0 ≤ (if q = j then b j - n else b q) := fun q => by
    split
    · omega
    · exact h.bn q
  have row' : ∀ p, p < t.supply.length → sumN t.demand.length (fun q => if p = i ∧ q = j then n else f p q) + (if p = i then a i - n else a p) = gi t.supply p := fun p hp => by
    by_cases e : p = i
    · subst e
      have := sumN_upd (g := f p) (k := j) (v := n) t.demand.length
      rw [if_pos hj, h0] at this
      rw [if_pos rfl, ← h.row p hp]
      have e2 : sumN t.demand.length (fun q => if p = p ∧ q = j then n else f p q) = sumN t.demand.length (fun q => if q = j then n else f p q) := sumN_congr _ fun q _ => by simp
      rw [e2, this]; omega
    · rw [if_neg e, ← h.row p hp]
      congr 1
      exact sumN_congr _ fun q _ => by rw [if_neg (fun hc => e hc.1)]
  have col' : ∀ q, q < t.demand.length → sumN t.supply.length (fun p => if p = i ∧ q = j then n else f p q) + (if q = j then b j - n else b q) = gi t.demand q := fun q hq => by
    by_cases e : q = j
    · subst e
      have := sumN_upd (g := fun p => f p q) (k := i) (v := n) t.supply.length
      rw [if_pos hi, h0] at this
      rw [if_pos rfl, ← h.col q hq]
      have e2 : sumN t.supply.length (fun p => if p = i ∧ q = q then n else f p q) = sumN t.supply.length (fun p => if p = i then n else f p q) := sumN_congr _ fun p _ => by simp
      rw [e2, this]; omega
    · rw [if_neg e, ← h.col q hq]
      congr 1
      exact sumN_congr _ fun p _ => by rw [if_neg (fun hc => e hc.2)]
  have ai' : ∀ p, p < t.supply.length → (if p = i then a i - n else a p) ≤ 30 := fun p hp => by
    have := h.ai p hp; have := h.ai i hi
    split <;> omega
  have bi' : ∀ q, q < t.demand.length → (if q = j then b j - n else b q) ≤ 30 := fun q hq => by
    have := h.bi q hq; have := h.bi j hj
    split <;> omega
  constructor
  · intro hz
    refine ⟨nn', fun p q hpq => ?_, an', bn', fun p hp => ?_, fun q hq => ?_, row', col', ai', bi'⟩
    · rw [if_neg (by omega)]; exact h.fresh p q (by omega)
    · by_cases e : p = i
      · rw [if_pos e]; exact hz
      · rw [if_neg e]; exact h.a0 p (by omega)
    · rw [if_neg (by omega)]; exact h.b0 q hq
  · intro hz
    refine ⟨nn', fun p q hpq => ?_, an', bn', fun p hp => ?_, fun q hq => ?_, row', col', ai', bi'⟩
    · rw [if_neg (by omega)]; exact h.fresh p q (by omega)
    · rw [if_neg (by omega)]; exact h.a0 p hp
    · by_cases e : q = j
      · rw [if_pos e]; omega
      · rw [if_neg e]; exact h.b0 q (by omega)
theorem corner_loop {t : Trade} (ht : okT t = true) : ∀ (d i j k : Nat) (f : Nat → Nat → Int) (a b : Nat → Int), Cor t i j f a b → i ≤ t.supply.length → j ≤ t.demand.length → (t.supply.length - i) + (t.demand.length - j) ≤ d → d < k →
    ∃ g, PlanF t g ∧ bulk_corner_L1 k (i : Int) (j : Int) (tab t f) (tb t.supply.length a) (tb t.demand.length b) = some (tab t g) ∧ ref07_Corner_L1 k (i : Int) (j : Int) (tab t f) (tb t.supply.length a) (tb t.demand.length b) = some (tab t g, 0) := by
  have hs := (okT_spec ht).1.2.1
  have hd := (okT_spec ht).2.1.2.1
  intro d
  induction d with
  | zero =>
    intro i j k f a b h hi hj hdd hk
    obtain ⟨k, rfl⟩ : ∃ k', k = k' + 1 := ⟨k - 1, by omega⟩
    refine ⟨f, cor_done ht h (.inl (by omega)), ?_, ?_⟩
    · show bulk_corner_B1 (bulk_corner_L1 k) _ _ _ _ _ = _
      unfold bulk_corner_B1 bulk_corner_k2
      rw [if_neg (by rw [tb_len]; omega), if_neg (by simp)]; rfl
    · show ref07_Corner_B1 (ref07_Corner_L1 k) _ _ _ _ _ = _
      unfold ref07_Corner_B1 ref07_Corner_k2
      rw [if_neg (by rw [tb_len]; omega), if_neg (by simp)]; rfl
  | succ d ih =>
    intro i j k f a b h hi hj hdd hk
    obtain ⟨k, rfl⟩ : ∃ k', k = k' + 1 := ⟨k - 1, by omega⟩
    by_cases hi' : i < t.supply.length
    · by_cases hj' : j < t.demand.length
      · have hst := cor_step h hi' hj'
        have hai := h.ai i hi'
        have hbj := h.bi j hj'
        have han := h.an i
        have hbn := h.bn j
        have h0 := h.fresh i j (.inr ⟨rfl, Nat.le_refl _⟩)
        have x1 : (tb t.supply.length a)[i]? = some (a i) := tb_at hi'
        have x2 : (tb t.demand.length b)[j]? = some (b j) := tb_at hj'
        have x3 : (tab t f)[i]? = some (tb t.demand.length (f i)) := tbl_at hi'
        have x4 : (tb t.demand.length (f i))[j]? = some (f i j) := tb_at hj'
        have e1 : (tb t.supply.length a).set i (a i - min (a i) (b j)) = tb t.supply.length (fun p => if p = i then a i - min (a i) (b j) else a p) := tb_set _
        have e2 : (tb t.demand.length b).set j (b j - min (a i) (b j)) = tb t.demand.length (fun q => if q = j then b j - min (a i) (b j) else b q) := tb_set _
        have e3 : (tab t f).set i ((tb t.demand.length (f i)).set j (min (a i) (b j))) = tab t (fun p q => if p = i ∧ q = j then min (a i) (b j) else f p q) := tbl_set hi' _
        have x5 : (tb t.supply.length (fun p => if p = i then a i - min (a i) (b j) else a p))[i]? = some (a i - min (a i) (b j)) := by rw [tb_at hi', if_pos rfl]
        have nat1 : Int.toNat (i : Int) = i := rfl
        have nat2 : Int.toNat (j : Int) = j := rfl
        have P : bulk_corner_L1 (k + 1) (i : Int) (j : Int) (tab t f) (tb t.supply.length a) (tb t.demand.length b) =
            if a i - min (a i) (b j) = 0 then bulk_corner_L1 k ((i + 1 : Nat) : Int) (j : Int) (tab t (fun p q => if p = i ∧ q = j then min (a i) (b j) else f p q)) (tb t.supply.length (fun p => if p = i then a i - min (a i) (b j) else a p)) (tb t.demand.length (fun q => if q = j then b j - min (a i) (b j) else b q))
            else bulk_corner_L1 k (i : Int) ((j + 1 : Nat) : Int) (tab t (fun p q => if p = i ∧ q = j then min (a i) (b j) else f p q)) (tb t.supply.length (fun p => if p = i then a i - min (a i) (b j) else a p)) (tb t.demand.length (fun q => if q = j then b j - min (a i) (b j) else b q)) := by
          show bulk_corner_B1 (bulk_corner_L1 k) _ _ _ _ _ = _
          unfold bulk_corner_B1 bulk_corner_k2
          rw [if_pos (by rw [tb_len]; omega), if_pos (by rw [tb_len]; simp; omega), ix_nat x1, ix_nat x2, ix_nat x3, ix_nat x4, ix_nat x1, gd_pos (by omega), ix_nat x1, ix_nat x2, gd_pos (by omega), ix_nat x2, nat1, nat2, e1, e2, e3, ix_nat x5]
          by_cases hz : a i - min (a i) (b j) = 0
          · rw [if_pos hz, if_pos hz, gd_pos (by omega)]; rfl
          · rw [if_neg hz, if_neg hz, gd_pos (by omega)]; rfl
        have Q : ref07_Corner_L1 (k + 1) (i : Int) (j : Int) (tab t f) (tb t.supply.length a) (tb t.demand.length b) =
            if a i - min (a i) (b j) = 0 then ref07_Corner_L1 k ((i + 1 : Nat) : Int) (j : Int) (tab t (fun p q => if p = i ∧ q = j then min (a i) (b j) else f p q)) (tb t.supply.length (fun p => if p = i then a i - min (a i) (b j) else a p)) (tb t.demand.length (fun q => if q = j then b j - min (a i) (b j) else b q))
            else ref07_Corner_L1 k (i : Int) ((j + 1 : Nat) : Int) (tab t (fun p q => if p = i ∧ q = j then min (a i) (b j) else f p q)) (tb t.supply.length (fun p => if p = i then a i - min (a i) (b j) else a p)) (tb t.demand.length (fun q => if q = j then b j - min (a i) (b j) else b q)) := by
          show ref07_Corner_B1 (ref07_Corner_L1 k) _ _ _ _ _ = _
          unfold ref07_Corner_B1 ref07_Corner_k2
          rw [if_pos (by rw [tb_len]; omega), if_pos (by rw [tb_len]; simp; omega), ix_nat x1, ix_nat x2, ix_nat x3, ix_nat x4, gd_pos (by omega), ix_nat x4, ix_nat x1, gd_pos (by omega), ix_nat x1, ix_nat x2, gd_pos (by omega), ix_nat x2, nat1, nat2, h0, Int.zero_add, e1, e2, e3, ix_nat x5]
          by_cases hz : a i - min (a i) (b j) = 0
          · rw [if_pos hz, if_pos hz, gd_pos (by omega)]; rfl
          · rw [if_neg hz, if_neg hz, gd_pos (by omega)]; rfl
        rw [P, Q]
        by_cases hz : a i - min (a i) (b j) = 0
        · rw [if_pos hz, if_pos hz]
          exact ih (i + 1) j k _ _ _ (hst.1 hz) (by omega) hj (by omega) (by omega)
        · rw [if_neg hz, if_neg hz]
          exact ih i (j + 1) k _ _ _ (hst.2 hz) hi (by omega) (by omega) (by omega)
      · refine ⟨f, cor_done ht h (.inr (by omega)), ?_, ?_⟩
        · show bulk_corner_B1 (bulk_corner_L1 k) _ _ _ _ _ = _
          unfold bulk_corner_B1 bulk_corner_k2
          rw [if_pos (by rw [tb_len]; omega), if_neg (by rw [tb_len]; simp; omega)]; rfl
        · show ref07_Corner_B1 (ref07_Corner_L1 k) _ _ _ _ _ = _
          unfold ref07_Corner_B1 ref07_Corner_k2
          rw [if_pos (by rw [tb_len]; omega), if_neg (by rw [tb_len]; simp; omega)]; rfl
    · refine ⟨f, cor_done ht h (.inl (by omega)), ?_, ?_⟩
      · show bulk_corner_B1 (bulk_corner_L1 k) _ _ _ _ _ = _
        unfold bulk_corner_B1 bulk_corner_k2
        rw [if_neg (by rw [tb_len]; omega), if_neg (by simp)]; rfl
      · show ref07_Corner_B1 (ref07_Corner_L1 k) _ _ _ _ _ = _
        unfold ref07_Corner_B1 ref07_Corner_k2
        rw [if_neg (by rw [tb_len]; omega), if_neg (by simp)]; rfl
theorem empty_eq {t : Trade} (h1 : t.supply.length ≤ 50) (h2 : t.demand.length ≤ 50) : bulk_empty t = some (tab t (fun _ _ => 0)) := by
  unfold bulk_empty
  rw [gd_pos (by omega), show Int.toNat (t.supply.length : Int) = t.supply.length from rfl, rep_tg]
  refine for0 t.supply.length (fun i => tg t.supply.length (fun p => if p < i then tb t.demand.length (fun _ => 0) else [])) (fun k s i => bulk_empty_L1 t k i s) _ (tg_congr fun p hp => by simp) (fun k i hi => ?_) (fun k => ?_) (by omega)
  · show bulk_empty_B1 t (bulk_empty_L1 t k) _ _ = _
    unfold bulk_empty_B1
    have hx : (tg t.supply.length (fun p => if p < i then tb t.demand.length (fun _ => 0) else []))[i]? = some [] := by rw [tg_at hi]; simp
    rw [if_pos (by simp; omega), gd_pos (by omega), ix_nat hx, gd_pos (by omega), show Int.toNat (i : Int) = i from rfl, show Int.toNat (t.demand.length : Int) = t.demand.length from rfl, tg_set, rep_tb]
    refine congrArg (bulk_empty_L1 t k _) (tg_congr fun p hp => ?_)
    by_cases e : p = i
    · rw [if_pos e, if_pos (by omega)]
    · rw [if_neg e]
      by_cases e2 : p < i
      · rw [if_pos e2, if_pos (by omega)]
      · rw [if_neg e2, if_neg (by omega)]
  · show bulk_empty_B1 t (bulk_empty_L1 t k) _ _ = _
    unfold bulk_empty_B1 bulk_empty_k1
    rw [if_neg (by simp)]
    congr 1
    exact tg_congr fun p hp => by rw [if_pos hp]
theorem rempty_eq {t : Trade} (h1 : t.supply.length ≤ 50) (h2 : t.demand.length ≤ 50) : ref07_empty t = some (tab t (fun _ _ => 0)) := by
  unfold ref07_empty
  refine for0 t.supply.length (fun i => tg i (fun p => tb t.demand.length (fun _ => 0))) (fun k s i => ref07_empty_L1 t k i s) _ rfl (fun k i hi => ?_) (fun k => ?_) (by omega)
  · show ref07_empty_B1 t (ref07_empty_L1 t k) _ _ = _
    unfold ref07_empty_B1
    rw [if_pos (by omega), gd_pos (by omega), gd_pos (by rw [tg_len]; omega), gd_pos (by omega), show Int.toNat (t.demand.length : Int) = t.demand.length from rfl, rep_tb, ← tg_push]; rfl
  · show ref07_empty_B1 t (ref07_empty_L1 t k) _ _ = _
    unfold ref07_empty_B1
    rw [if_neg (by omega)]; rfl
theorem clone_eq {l : List Int} (h : l.length ≤ 1000) : slices_Clone_int l = some l := by
  unfold slices_Clone_int
  rw [gd_pos (by simp; omega)]; rfl
theorem cor_start {t : Trade} (ht : okT t = true) : Cor t 0 0 (fun _ _ => 0) (fun p => if p < t.supply.length then gi t.supply p else 0) (fun q => if q < t.demand.length then gi t.demand q else 0) :=
  { nn := fun _ _ => Int.le_refl _, fresh := fun _ _ _ => rfl
    an := fun p => by
      split
      · rename_i h; exact (supply_bnd ht h).1
      · exact Int.le_refl _
    bn := fun p => by
      split
      · rename_i h; exact (demand_bnd ht h).1
      · exact Int.le_refl _
    a0 := fun p hp => by omega
    b0 := fun p hp => by omega
    row := fun p hp => by rw [sumN_zero, if_pos hp]; omega
    col := fun p hp => by rw [sumN_zero, if_pos hp]; omega
    ai := fun p hp => by rw [if_pos hp]; exact (supply_bnd ht hp).2
    bi := fun p hp => by rw [if_pos hp]; exact (demand_bnd ht hp).2 }
/-- Both corners are one right plan. -/
theorem corner_eq {t : Trade} (ht : okT t = true) : ∃ g, PlanF t g ∧ bulk_corner t = some (tab t g) ∧ ref07_Corner_k3 (tab t (fun _ _ => 0)) t.supply t.demand = some (tab t g, 0) := by
  have hs := (okT_spec ht).1.2.1
  have hd := (okT_spec ht).2.1.2.1
  obtain ⟨g, g1, g2, g3⟩ := corner_loop ht 8 0 0 FU _ _ _ (cor_start ht) (by omega) (by omega) (by omega) (by have := FU_pos; omega)
  have e1 : tb t.supply.length (fun p => if p < t.supply.length then gi t.supply p else 0) = t.supply := by
    conv => rhs; rw [← tb_self t.supply]
    exact tb_congr fun k hk => by rw [if_pos hk]
  have e2 : tb t.demand.length (fun p => if p < t.demand.length then gi t.demand p else 0) = t.demand := by
    conv => rhs; rw [← tb_self t.demand]
    exact tb_congr fun k hk => by rw [if_pos hk]
  rw [e1, e2] at g2 g3
  refine ⟨g, g1, ?_, g3⟩
  unfold bulk_corner
  rw [bnd_eq (empty_eq (by omega) (by omega)), bnd_eq (clone_eq (by omega)), bnd_eq (clone_eq (by omega))]
  exact g2
theorem tab_small {t : Trade} (h1 : t.supply.length ≤ 50) (h2 : t.demand.length ≤ 50) (f : Nat → Nat → Int) : Lsmall (tab t f) := tbl_small h1 h2 f
end Go.D7
