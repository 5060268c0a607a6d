/- Lemmas and walks that the proof of this claim uses: D7m19, D7m20, Tb22, D7p1, D7p2, D7p3. -/
import Derived.Test.YtmmefcihahcchaaBulkTolls3
set_option linter.unusedVariables false
set_option linter.unusedSimpArgs false
namespace Go.D7
open Go.Tb Go.Proofs Go.RowKit
theorem Tc65 : callable Try.prog 65 = true := by kernel_rfl
set_option maxRecDepth 20000 in
set_option maxHeartbeats 1000000 in
theorem bulk_copied_ok {a0 : Trade} {A_a0_supply : Option Addr} {c_a0_supply : Nat} {A_a0_demand : Option Addr} {c_a0_demand : Nat} {A_a0_cost : Option Addr} {c_a0_cost : Nat} {w : World} {res : Trade} (h_a0_supply : Sl w A_a0_supply c_a0_supply 1 (a0.supply.map encN)) (h_a0_demand : Sl w A_a0_demand c_a0_demand 1 (a0.demand.map encN)) (h_a0_cost : Sl2 w A_a0_cost c_a0_cost 1 encN a0.cost) (F : bulk_copied a0 = some res) : Calls Try.prog 65 #[.agg #[.slice A_a0_supply a0.supply.length c_a0_supply, .slice A_a0_demand a0.demand.length c_a0_demand, .slice A_a0_cost a0.cost.length c_a0_cost]] w (fun e w' => ∃ (A0_supply : Option Addr) (c0_supply : Nat) (A0_demand : Option Addr) (c0_demand : Nat) (A0_cost : Option Addr) (c0_cost : Nat) (hs0_cost : List (Option Addr × Nat)), e = .returned (.agg #[.slice A0_supply res.supply.length c0_supply, .slice A0_demand res.demand.length c0_demand, .slice A0_cost res.cost.length c0_cost]) ∧ Hp w w' [.own A0_supply c0_supply 3 1 (List.map encN res.supply), .own A0_demand c0_demand 3 1 (List.map encN res.demand), .tab A0_cost c0_cost 22 hs0_cost 3 1 (encM encN res.cost)]) := by
  refine calls_of_cw (args := [.agg #[.slice A_a0_supply a0.supply.length c_a0_supply, .slice A_a0_demand a0.demand.length c_a0_demand, .slice A_a0_cost a0.cost.length c_a0_cost]]) Try.func65 rfl rfl rfl rfl ?_
  have H := Hp.start w
  have R0 := H.ext
  unfold bulk_copied at F
  refine CW.seq fun K1 hK1 => ?_
  refine CW.region ?_
  refine LW.go rfl rfl (OW.box rfl fun b1 w1 N1 => ?_)
  replace H := H.new N1 N1.blk
  replace R0 := H.ext
  refine LW.go rfl rfl (OW.alloc Tz25 fun b2 w2 N2 => ?_)
  replace H := H.new N2 N2.blk
  replace R0 := H.ext
  refine LW.nil (hK1 _ _ ?_)
  refine CW.seq fun K2 hK2 => ?_
  obtain ⟨r1, hr1, F⟩ := bnd_some F
  obtain ⟨r2, hr2, F⟩ := bnd_some F
  obtain ⟨r3, hr3, F⟩ := bnd_some F
  refine CW.draw [10] (fun _ => True) (.cons 0 1 (.cons 1 1 (.cons 3 1 (.cons 4 1 (.cons 6 1 (.cons 7 1 (.cons 2 0 (.cons 5 0 (.cons 8 0 (.cons 9 1 (.cons 10 0 .nil))))))))))) mixed (by kernel_rfl) fun w3 E1 => ?_
  replace H := H.grow E1
  replace R0 := H.ext
  refine DW.fix rfl rfl rfl (fun _ EQ => RV.fieldAddr Tf25_0 rfl) ?_
  refine DW.fix rfl rfl rfl (fun _ EQ => RV.load1 Tk22 rfl (((H.grow EQ).blk 1 rfl).cells.off 0) rfl) ?_
  refine DW.fix rfl rfl rfl (fun _ EQ => RV.fieldAddr Tf25_1 rfl) ?_
  refine DW.fix rfl rfl rfl (fun _ EQ => RV.load1 Tk22 rfl (((H.grow EQ).blk 1 rfl).cells.off 1) rfl) ?_
  refine DW.fix rfl rfl rfl (fun _ EQ => RV.fieldAddr Tf25_2 rfl) ?_
  refine DW.fix rfl rfl rfl (fun _ EQ => RV.load1 Tk23 rfl (((H.grow EQ).blk 1 rfl).cells.off 2) rfl) ?_
  refine DW.sole rfl rfl rfl (OW.call Tc83 rfl (slices_Clone_int_ok (a0 := a0.supply) (h_a0_supply.ext R0) hr1) ?_)
  rintro _ w4 ⟨A7_0, c7_0, rfl, E2⟩
  refine ⟨_, rfl, fun _ => E2.ext, ModX.ext E2.ext, ?_⟩
  replace H : Hp w w4 [.own A7_0 c7_0 3 1 (List.map encN r1), .blk b2 25 [.slice none 0 0, .slice none 0 0, .slice none 0 0], .blk b1 25 [.slice A_a0_supply a0.supply.length c_a0_supply, .slice A_a0_demand a0.demand.length c_a0_demand, .slice A_a0_cost a0.cost.length c_a0_cost]] := H.append E2
  replace R0 := H.ext
  refine DW.sole rfl rfl rfl (OW.call Tc83 rfl (slices_Clone_int_ok (a0 := a0.demand) (h_a0_demand.ext R0) hr2) ?_)
  rintro _ w5 ⟨A8_0, c8_0, rfl, E3⟩
  refine ⟨_, rfl, fun _ => E3.ext, ModX.ext E3.ext, ?_⟩
  replace H : Hp w w5 [.own A8_0 c8_0 3 1 (List.map encN r2), .own A7_0 c7_0 3 1 (List.map encN r1), .blk b2 25 [.slice none 0 0, .slice none 0 0, .slice none 0 0], .blk b1 25 [.slice A_a0_supply a0.supply.length c_a0_supply, .slice A_a0_demand a0.demand.length c_a0_demand, .slice A_a0_cost a0.cost.length c_a0_cost]] := H.append E3
  replace R0 := H.ext
  refine DW.sole rfl rfl rfl (OW.call Tc88 rfl (bulk_clone_ok (a0 := a0.cost) (h_a0_cost.ext R0) hr3) ?_)
  rintro _ w6 ⟨A9_0, c9_0, hs9_0, rfl, E4⟩
  refine ⟨_, rfl, fun _ => E4.ext, ModX.ext E4.ext, ?_⟩
  replace H : Hp w w6 [.tab A9_0 c9_0 22 hs9_0 3 1 (encM encN r3), .own A8_0 c8_0 3 1 (List.map encN r2), .own A7_0 c7_0 3 1 (List.map encN r1), .blk b2 25 [.slice none 0 0, .slice none 0 0, .slice none 0 0], .blk b1 25 [.slice A_a0_supply a0.supply.length c_a0_supply, .slice A_a0_demand a0.demand.length c_a0_demand, .slice A_a0_cost a0.cost.length c_a0_cost]] := H.append E4
  replace R0 := H.ext
  refine DW.fix rfl rfl rfl (fun _ EQ => RV.build (vs := [.slice A7_0 r1.length c7_0, .slice A8_0 r2.length c8_0, .slice A9_0 r3.length c9_0]) (cs := [.slice A7_0 r1.length c7_0, .slice A8_0 r2.length c8_0, .slice A9_0 r3.length c9_0]) rfl (fun _ => by kernel_rfl)) ?_
  refine DW.sole rfl rfl rfl (OW.store Tk25 rfl rfl (H.blk 3 rfl) (off := 0) (vs := [.slice A7_0 r1.length c7_0, .slice A8_0 r2.length c8_0, .slice A9_0 r3.length c9_0]) rfl rfl rfl rfl rfl fun w7 S1 => ?_)
  refine ⟨fun h => absurd h (by decide), S1.modx trivial, ?_⟩
  replace H : Hp w w7 [.tab A9_0 c9_0 22 hs9_0 3 1 (encM encN r3), .own A8_0 c8_0 3 1 (List.map encN r2), .own A7_0 c7_0 3 1 (List.map encN r1), .blk b2 25 [.slice A7_0 r1.length c7_0, .slice A8_0 r2.length c8_0, .slice A9_0 r3.length c9_0], .blk b1 25 [.slice A_a0_supply a0.supply.length c_a0_supply, .slice A_a0_demand a0.demand.length c_a0_demand, .slice A_a0_cost a0.cost.length c_a0_cost]] := H.stored 3 rfl S1
  replace R0 := H.ext
  refine DW.nil (hK2 _ _ ?_)
  refine CW.ret ?_
  obtain rfl := Option.some.inj F
  refine ⟨_, (ResOK.cell1 ⟨_, rfl, run_loadVar_agg Tk25 (H.blk 3 rfl).cells (us := [.slice A7_0 r1.length c7_0, .slice A8_0 r2.length c8_0, .slice A9_0 r3.length c9_0]) rfl rfl⟩), ?_⟩
  replace H := H.pick (L' := [.own A7_0 c7_0 3 1 (List.map encN r1), .own A8_0 c8_0 3 1 (List.map encN r2), .tab A9_0 c9_0 22 hs9_0 3 1 (encM encN r3)]) [2, 1, 0] (by decide) rfl
  replace R0 := H.ext
  exact ⟨A7_0, c7_0, A8_0, c8_0, A9_0, c9_0, hs9_0, (by first | rfl | (simp; done) | (simp; omega)), H⟩
set_option maxRecDepth 20000 in
set_option maxHeartbeats 1000000 in
theorem bulk_Toll_ok {a0 : Trade} {a1 : Int} {a2 : Int} {A_a0_supply : Option Addr} {c_a0_supply : Nat} {A_a0_demand : Option Addr} {c_a0_demand : Nat} {A_a0_cost : Option Addr} {c_a0_cost : Nat} {w : World} {res : Trade × Int} (h_a0_supply : Sl w A_a0_supply c_a0_supply 1 (a0.supply.map encN)) (h_a0_demand : Sl w A_a0_demand c_a0_demand 1 (a0.demand.map encN)) (h_a0_cost : Sl2 w A_a0_cost c_a0_cost 1 encN a0.cost) (F : bulk_Toll a0 a1 a2 = some res) : Calls Try.prog 28 #[.agg #[.slice A_a0_supply a0.supply.length c_a0_supply, .slice A_a0_demand a0.demand.length c_a0_demand, .slice A_a0_cost a0.cost.length c_a0_cost], .int .i64 a1, .int .i64 a2] w (fun e w' => ∃ (A0_supply : Option Addr) (c0_supply : Nat) (A0_demand : Option Addr) (c0_demand : Nat) (A0_cost : Option Addr) (c0_cost : Nat) (hs0_cost : List (Option Addr × Nat)), e = .returned (.tuple #[.agg #[.slice A0_supply res.1.supply.length c0_supply, .slice A0_demand res.1.demand.length c0_demand, .slice A0_cost res.1.cost.length c0_cost], .int .i64 res.2]) ∧ Hp w w' [.own A0_supply c0_supply 3 1 (List.map encN res.1.supply), .own A0_demand c0_demand 3 1 (List.map encN res.1.demand), .tab A0_cost c0_cost 22 hs0_cost 3 1 (encM encN res.1.cost)]) := by
  refine calls_of_cw (args := [.agg #[.slice A_a0_supply a0.supply.length c_a0_supply, .slice A_a0_demand a0.demand.length c_a0_demand, .slice A_a0_cost a0.cost.length c_a0_cost], .int .i64 a1, .int .i64 a2]) Try.func28 rfl rfl rfl rfl ?_
  have H := Hp.start w
  have R0 := H.ext
  unfold bulk_Toll at F
  refine CW.seq fun K1 hK1 => ?_
  refine CW.region ?_
  refine LW.go rfl rfl (OW.box rfl fun b1 w1 N1 => ?_)
  replace H := H.new N1 N1.blk
  replace R0 := H.ext
  refine LW.go rfl rfl (OW.alloc Tz25 fun b2 w2 N2 => ?_)
  replace H := H.new N2 N2.blk
  replace R0 := H.ext
  refine LW.pure rfl rfl (RV.assign rfl) ?_
  refine LW.nil (hK1 _ _ ?_)
  refine CW.seq fun K2 hK2 => ?_
  refine CW.seq fun K3 hK3 => ?_
  obtain ⟨r3, hr3, F⟩ := bnd_some F
  refine CW.region ?_
  refine LW.pure rfl rfl (RV.loadA [.slice A_a0_supply a0.supply.length c_a0_supply, .slice A_a0_demand a0.demand.length c_a0_demand, .slice A_a0_cost a0.cost.length c_a0_cost] Tk25 rfl (H.blk 1 rfl).cells rfl rfl) ?_
  refine LW.go rfl rfl (OW.call Tc38 rfl (bulk_Validate_ok (a0 := a0) (h_a0_supply.ext R0) (h_a0_demand.ext R0) (h_a0_cost.ext R0) hr3) ?_)
  rintro _ w3 ⟨rfl, E1⟩
  refine ⟨_, rfl, ?_⟩
  replace H := H.grow E1
  replace R0 := H.ext
  refine LW.pure rfl rfl (RV.assign rfl) ?_
  refine LW.nil (hK3 _ _ ?_)
  refine CW.seq fun K4 hK4 => ?_
  refine CW.region ?_
  refine LW.pure rfl rfl (RV.move rfl) ?_
  refine LW.pure rfl rfl (RV.nei rfl rfl) ?_
  refine LW.nil (hK4 _ _ ?_)
  by_cases hp1 : r3 = 0
  ·
    replace F := ite_y hp1 F
    have hq1 := dec_t hp1
    refine CW.condF rfl (not_f hq1) ?_
    refine CW.skip (hK2 _ _ ?_)
    refine CW.seq fun K5 hK5 => ?_
    refine CW.seq fun K6 hK6 => ?_
    obtain ⟨hg1, F⟩ := gd_some F
    obtain ⟨r4, hr4, F⟩ := bnd_some F
    refine CW.region ?_
    refine LW.pure rfl rfl (RV.move rfl) ?_
    refine LW.pure rfl rfl (RV.fieldAddr Tf25_0 rfl) ?_
    refine LW.pure rfl rfl (RV.load1 Tk22 rfl ((H.blk 1 rfl).cells.off 0) rfl) ?_
    refine LW.pure rfl rfl (RV.len Ts22 rfl) ?_
    refine LW.pure rfl rfl (RV.sub rfl rfl hg1) ?_
    refine LW.go rfl rfl (OW.call Tc64 rfl (bulk_within_ok (a0 := a1) (a1 := (0 : Int)) (a2 := ((a0.supply.length : Int)) - 1) hr4) ?_)
    rintro _ w4 ⟨rfl, E2⟩
    refine ⟨_, rfl, ?_⟩
    replace H := H.grow E2
    replace R0 := H.ext
    refine LW.pure rfl rfl (RV.not rfl) ?_
    refine LW.nil (hK6 _ _ ?_)
    by_cases hp2 : r4 = true
    ·
      replace F := ite_y hp2 F
      have hq2 : r4 = true := hp2
      refine CW.condF rfl (not_f hq2) ?_
      refine CW.skip (hK5 _ _ ?_)
      refine CW.seq fun K7 hK7 => ?_
      refine CW.seq fun K8 hK8 => ?_
      obtain ⟨r5, hr5, F⟩ := bnd_some F
      refine CW.region ?_
      refine LW.pure rfl rfl (RV.move rfl) ?_
      refine LW.go rfl rfl (OW.call Tc64 rfl (bulk_within_ok (a0 := a2) (a1 := (-99 : Int)) (a2 := (99 : Int)) hr5) ?_)
      rintro _ w5 ⟨rfl, E3⟩
      refine ⟨_, rfl, ?_⟩
      replace H := H.grow E3
      replace R0 := H.ext
      refine LW.pure rfl rfl (RV.not rfl) ?_
      refine LW.nil (hK8 _ _ ?_)
      by_cases hp3 : r5 = true
      ·
        replace F := ite_y hp3 F
        have hq3 : r5 = true := hp3
        refine CW.condF rfl (not_f hq3) ?_
        refine CW.skip (hK7 _ _ ?_)
        refine CW.seq fun K9 hK9 => ?_
        obtain ⟨r1, hr1, F⟩ := bnd_some F
        refine CW.region ?_
        refine LW.pure rfl rfl (RV.loadA [.slice A_a0_supply a0.supply.length c_a0_supply, .slice A_a0_demand a0.demand.length c_a0_demand, .slice A_a0_cost a0.cost.length c_a0_cost] Tk25 rfl (H.blk 1 rfl).cells rfl rfl) ?_
        refine LW.go rfl rfl (OW.call Tc65 rfl (bulk_copied_ok (a0 := a0) (h_a0_supply.ext R0) (h_a0_demand.ext R0) (h_a0_cost.ext R0) hr1) ?_)
        rintro _ w6 ⟨A13_0_supply, c13_0_supply, A13_0_demand, c13_0_demand, A13_0_cost, c13_0_cost, hs13_0_cost, rfl, E4⟩
        refine ⟨_, rfl, ?_⟩
        replace H : Hp w w6 [.own A13_0_supply c13_0_supply 3 1 (List.map encN r1.supply), .own A13_0_demand c13_0_demand 3 1 (List.map encN r1.demand), .tab A13_0_cost c13_0_cost 22 hs13_0_cost 3 1 (encM encN r1.cost), .blk b2 25 [.slice none 0 0, .slice none 0 0, .slice none 0 0], .blk b1 25 [.slice A_a0_supply a0.supply.length c_a0_supply, .slice A_a0_demand a0.demand.length c_a0_demand, .slice A_a0_cost a0.cost.length c_a0_cost]] := H.append E4
        replace R0 := H.ext
        refine LW.go rfl rfl (OW.alloc Tz25 fun b3 w7 N3 => ?_)
        replace H := H.new N3 N3.blk
        replace R0 := H.ext
        refine LW.go rfl rfl (OW.store Tk25 rfl rfl (H.blk 0 rfl) (off := 0) (vs := [.slice A13_0_supply r1.supply.length c13_0_supply, .slice A13_0_demand r1.demand.length c13_0_demand, .slice A13_0_cost r1.cost.length c13_0_cost]) rfl rfl rfl rfl rfl fun w8 S1 => ?_)
        replace H : Hp w w8 [.blk b3 25 [.slice A13_0_supply r1.supply.length c13_0_supply, .slice A13_0_demand r1.demand.length c13_0_demand, .slice A13_0_cost r1.cost.length c13_0_cost], .own A13_0_supply c13_0_supply 3 1 (List.map encN r1.supply), .own A13_0_demand c13_0_demand 3 1 (List.map encN r1.demand), .tab A13_0_cost c13_0_cost 22 hs13_0_cost 3 1 (encM encN r1.cost), .blk b2 25 [.slice none 0 0, .slice none 0 0, .slice none 0 0], .blk b1 25 [.slice A_a0_supply a0.supply.length c_a0_supply, .slice A_a0_demand a0.demand.length c_a0_demand, .slice A_a0_cost a0.cost.length c_a0_cost]] := H.stored 0 rfl S1
        replace R0 := H.ext
        refine LW.nil (hK9 _ _ ?_)
        refine CW.seqJ (fun ρ wl1 => (∃ (m1 : List (List Int)), bulk_Toll_k1 r1 m1 = some res ∧ ρ = [(6, .pointer (some (⟨b2, 0, none⟩))), (7, .int .i64 0), (9, .pointer (some (⟨b3, 0, none⟩)))] ∧ Hp w wl1 [.own A13_0_supply c13_0_supply 3 1 (List.map encN r1.supply), .own A13_0_demand c13_0_demand 3 1 (List.map encN r1.demand), .tab A13_0_cost c13_0_cost 22 hs13_0_cost 3 1 (encM encN m1), .blk b2 25 [.slice none 0 0, .slice none 0 0, .slice none 0 0], .blk b3 25 [.slice A13_0_supply r1.supply.length c13_0_supply, .slice A13_0_demand r1.demand.length c13_0_demand, .slice A13_0_cost m1.length c13_0_cost]])) ?_ ?_
        ·
          rintro _ wl1 ⟨m1, F, rfl, H⟩
          have R0 := H.ext
          unfold bulk_Toll_k1 at F
          refine CW.seq fun K10 hK10 => ?_
          refine CW.seq fun K11 hK11 => ?_
          obtain ⟨r2, hr2, F⟩ := bnd_some F
          refine CW.region ?_
          refine LW.pure rfl rfl (RV.loadA [.slice A13_0_supply r1.supply.length c13_0_supply, .slice A13_0_demand r1.demand.length c13_0_demand, .slice A13_0_cost m1.length c13_0_cost] Tk25 rfl (H.blk 4 rfl).cells rfl rfl) ?_
          refine LW.go rfl rfl (OW.call Tc38 rfl (bulk_Validate_ok (a0 := (⟨r1.supply, r1.demand, m1⟩ : Trade)) (H.own 0 rfl).sl (H.own 1 rfl).sl (H.tab 2 rfl).sl2 hr2) ?_)
          rintro _ w9 ⟨rfl, E5⟩
          refine ⟨_, rfl, ?_⟩
          replace H := H.grow E5
          replace R0 := H.ext
          refine LW.pure rfl rfl (RV.nei rfl rfl) ?_
          refine LW.nil (hK11 _ _ ?_)
          by_cases hp4 : r2 = 0
          ·
            replace F := ite_y hp4 F
            have hq4 := dec_t hp4
            refine CW.condF rfl (not_f hq4) ?_
            refine CW.skip (hK10 _ _ ?_)
            refine CW.seq fun K12 hK12 => ?_
            refine CW.region ?_
            refine LW.pure rfl rfl (RV.loadA [.slice A13_0_supply r1.supply.length c13_0_supply, .slice A13_0_demand r1.demand.length c13_0_demand, .slice A13_0_cost m1.length c13_0_cost] Tk25 rfl (H.blk 4 rfl).cells rfl rfl) ?_
            refine LW.go rfl rfl (OW.store Tk25 rfl rfl (H.blk 3 rfl) (off := 0) (vs := [.slice A13_0_supply r1.supply.length c13_0_supply, .slice A13_0_demand r1.demand.length c13_0_demand, .slice A13_0_cost m1.length c13_0_cost]) rfl rfl rfl rfl rfl fun w10 S2 => ?_)
            replace H : Hp w w10 [.own A13_0_supply c13_0_supply 3 1 (List.map encN r1.supply), .own A13_0_demand c13_0_demand 3 1 (List.map encN r1.demand), .tab A13_0_cost c13_0_cost 22 hs13_0_cost 3 1 (encM encN m1), .blk b2 25 [.slice A13_0_supply r1.supply.length c13_0_supply, .slice A13_0_demand r1.demand.length c13_0_demand, .slice A13_0_cost m1.length c13_0_cost], .blk b3 25 [.slice A13_0_supply r1.supply.length c13_0_supply, .slice A13_0_demand r1.demand.length c13_0_demand, .slice A13_0_cost m1.length c13_0_cost]] := H.stored 3 rfl S2
            replace R0 := H.ext
            refine LW.pure rfl rfl (RV.assign rfl) ?_
            refine LW.nil (hK12 _ _ ?_)
            refine CW.ret ?_
            obtain rfl := Option.some.inj F
            refine ⟨_, (ResOK.two ⟨_, rfl, run_loadVar_agg Tk25 (H.blk 3 rfl).cells (us := [.slice A13_0_supply r1.supply.length c13_0_supply, .slice A13_0_demand r1.demand.length c13_0_demand, .slice A13_0_cost m1.length c13_0_cost]) rfl rfl⟩ rfl), ?_⟩
            replace H := H.pick (L' := [.own A13_0_supply c13_0_supply 3 1 (List.map encN r1.supply), .own A13_0_demand c13_0_demand 3 1 (List.map encN r1.demand), .tab A13_0_cost c13_0_cost 22 hs13_0_cost 3 1 (encM encN m1)]) [0, 1, 2] (by decide) rfl
            replace R0 := H.ext
            exact ⟨A13_0_supply, c13_0_supply, A13_0_demand, c13_0_demand, A13_0_cost, c13_0_cost, hs13_0_cost, (by first | rfl | (simp; done) | (simp; omega)), H⟩
          ·
            replace F := ite_n hp4 F
            have hq4 := dec_f hp4
            refine CW.condT rfl (not_t hq4) ?_
            refine CW.seq fun K13 hK13 => ?_
            refine CW.region ?_
            refine LW.pure rfl rfl (RV.build (vs := []) (cs := [.slice none 0 0, .slice none 0 0, .slice none 0 0]) rfl (fun _ => by kernel_rfl)) ?_
            refine LW.go rfl rfl (OW.store Tk25 rfl rfl (H.blk 3 rfl) (off := 0) (vs := [.slice none 0 0, .slice none 0 0, .slice none 0 0]) rfl rfl rfl rfl rfl fun w11 S3 => ?_)
            replace H : Hp w w11 [.own A13_0_supply c13_0_supply 3 1 (List.map encN r1.supply), .own A13_0_demand c13_0_demand 3 1 (List.map encN r1.demand), .tab A13_0_cost c13_0_cost 22 hs13_0_cost 3 1 (encM encN m1), .blk b2 25 [.slice none 0 0, .slice none 0 0, .slice none 0 0], .blk b3 25 [.slice A13_0_supply r1.supply.length c13_0_supply, .slice A13_0_demand r1.demand.length c13_0_demand, .slice A13_0_cost m1.length c13_0_cost]] := H.stored 3 rfl S3
            replace R0 := H.ext
            refine LW.pure rfl rfl (RV.assign rfl) ?_
            refine LW.nil (hK13 _ _ ?_)
            refine CW.ret ?_
            obtain rfl := Option.some.inj F
            refine ⟨_, (ResOK.two ⟨_, rfl, run_loadVar_agg Tk25 (H.blk 3 rfl).cells (us := [.slice none 0 0, .slice none 0 0, .slice none 0 0]) rfl rfl⟩ rfl), ?_⟩
            replace H := H.nilOwn 3 1
            replace R0 := H.ext
            replace H := H.nilOwn 3 1
            replace R0 := H.ext
            replace H := H.nilTab encN 22 3 1
            replace R0 := H.ext
            replace H := H.pick (L' := [.own none 0 3 1 (List.map encN (([] : List Int))), .own none 0 3 1 (List.map encN (([] : List Int))), .tab none 0 22 ([]) 3 1 (encM encN (([] : List (List Int))))]) [2, 1, 0] (by decide) rfl
            replace R0 := H.ext
            exact ⟨none, 0, none, 0, none, 0, ([]), (by first | rfl | (simp; done) | (simp; omega)), H⟩
        ·
          intro K14 hK14 jK70
          refine CW.seq fun K15 hK15 => ?_
          obtain ⟨x1, hbx1, hx1, F⟩ := ix_some F
          refine CW.region ?_
          refine LW.pure rfl rfl (RV.fieldAddr Tf25_2 rfl) ?_
          refine LW.pure rfl rfl (RV.load1 Tk23 rfl ((H.blk 0 rfl).cells.off 2) rfl) ?_
          refine LW.pure rfl rfl (RV.move rfl) ?_
          obtain ⟨B1, e1, hh1⟩ := (H.tab 3 rfl).hd hx1
          refine LW.pure rfl rfl (RV.indexAddr Ts23 rfl rfl hbx1 ((H.tab 3 rfl).addr_ hx1)) ?_
          refine LW.pure rfl rfl (RV.load1 Tk22 rfl ((H.tab 3 rfl).cell hx1 hh1) rfl) ?_
          refine LW.pure rfl rfl (RV.len Ts22 rfl) ?_
          refine LW.pure rfl rfl (RV.move rfl) ?_
          refine LW.nil (hK15 _ _ ?_)
          refine CW.block ?_
          replace H := H.pick (L' := [.own A13_0_supply c13_0_supply 3 1 (List.map encN r1.supply), .own A13_0_demand c13_0_demand 3 1 (List.map encN r1.demand), .tab A13_0_cost c13_0_cost 22 hs13_0_cost 3 1 (encM encN r1.cost), .blk b2 25 [.slice none 0 0, .slice none 0 0, .slice none 0 0], .blk b3 25 [.slice A13_0_supply r1.supply.length c13_0_supply, .slice A13_0_demand r1.demand.length c13_0_demand, .slice A13_0_cost r1.cost.length c13_0_cost]]) [1, 2, 3, 4, 0] (by decide) rfl
          replace R0 := H.ext
          refine CW.loop (fun meas ρ wl2 => ∃ (t37_1 : Int) (m2 : List (List Int)), bulk_Toll_L1 a1 a2 r1 x1 meas t37_1 m2 = some res ∧ ρ = [(1, .int .i64 a1), (2, .int .i64 a2), (6, .pointer (some (⟨b2, 0, none⟩))), (7, .int .i64 0), (9, .pointer (some (⟨b3, 0, none⟩))), (36, .int .i64 ((x1.length : Int))), (37, .int .i64 t37_1)] ∧ Hp w wl2 [.own A13_0_supply c13_0_supply 3 1 (List.map encN r1.supply), .own A13_0_demand c13_0_demand 3 1 (List.map encN r1.demand), .tab A13_0_cost c13_0_cost 22 hs13_0_cost 3 1 (encM encN m2), .blk b2 25 [.slice none 0 0, .slice none 0 0, .slice none 0 0], .blk b3 25 [.slice A13_0_supply r1.supply.length c13_0_supply, .slice A13_0_demand r1.demand.length c13_0_demand, .slice A13_0_cost m2.length c13_0_cost]]) FU ⟨_, ?_, ((0 : Int)), r1.cost, F, rfl, H⟩ ?_
          · exact ⟨rfl, rfl, rfl, rfl, rfl, rfl, rfl, trivial⟩
          rintro mk1 _ wl2 ⟨t37_1, m2, F, rfl, H⟩
          have R0 := H.ext
          replace F := bulk_Toll_L1_s F
          obtain ⟨mk1, rfl, F⟩ := F
          generalize hrec1 : bulk_Toll_L1 a1 a2 r1 x1 mk1 = rec1 at F
          unfold bulk_Toll_B1 at F
          refine CW.seq fun K16 hK16 => ?_
          refine CW.region ?_
          refine LW.pure rfl rfl (RV.lss rfl rfl) ?_
          refine LW.nil (hK16 _ _ ?_)
          refine CW.seq fun K17 hK17 => ?_
          by_cases hp5 : t37_1 < ((x1.length : Int))
          ·
            replace F := ite_y hp5 F
            have hq5 := dec_t hp5
            refine CW.condT rfl hq5 ?_
            refine CW.skip (hK17 _ _ ?_)
            refine CW.seq fun K18 hK18 => ?_
            refine CW.block ?_
            refine CW.seq fun K19 hK19 => ?_
            refine CW.region ?_
            refine LW.pure rfl rfl (RV.move rfl) ?_
            refine LW.pure rfl rfl (RV.assign rfl) ?_
            refine LW.nil (hK19 _ _ ?_)
            obtain ⟨x2, hbx2, hx2, F⟩ := ix_some F
            obtain ⟨x3, hbx3, hx3, F⟩ := ix_some F
            obtain ⟨hg2, F⟩ := gd_some F
            obtain ⟨x4, hbx4, hx4, F⟩ := ix_some F
            refine CW.region ?_
            refine LW.pure rfl rfl (RV.fieldAddr Tf25_2 rfl) ?_
            refine LW.pure rfl rfl (RV.load1 Tk23 rfl ((H.blk 4 rfl).cells.off 2) rfl) ?_
            refine LW.pure rfl rfl (RV.move rfl) ?_
            obtain ⟨B2, e2, hh2⟩ := (H.tab 2 rfl).hd hx2
            refine LW.pure rfl rfl (RV.indexAddr Ts23 rfl rfl hbx2 ((H.tab 2 rfl).addr_ hx2)) ?_
            refine LW.pure rfl rfl (RV.load1 Tk22 rfl ((H.tab 2 rfl).cell hx2 hh2) rfl) ?_
            refine LW.pure rfl rfl (RV.move rfl) ?_
            refine LW.pure rfl rfl (RV.indexAddr Ts22 rfl rfl hbx3 (((H.tab 2 rfl).rowO hx2 hh2).sl.addr_ hx3)) ?_
            refine LW.pure rfl rfl (RV.load1 Tk3 rfl (((H.tab 2 rfl).rowO hx2 hh2).sl.at_ hx3) rfl) ?_
            refine LW.pure rfl rfl (RV.move rfl) ?_
            refine LW.pure rfl rfl (RV.add rfl rfl hg2) ?_
            refine LW.pure rfl rfl (RV.indexAddr Ts22 rfl rfl hbx4 (((H.tab 2 rfl).rowO hx2 hh2).sl.addr_ hx4)) ?_
            refine LW.go rfl rfl (OW.storeO (enc := encN) (vs := [.int .i64 (x3 + a2)]) 0 (x3 + a2) Tk3 rfl rfl ((H.tab 2 rfl).rowO hx2 hh2) (fun _ => rfl) rfl hx4 rfl rfl (by decide) rfl rfl fun w12 M1 O1 => ?_)
            replace H : Hp w w12 [.own A13_0_supply c13_0_supply 3 1 (List.map encN r1.supply), .own A13_0_demand c13_0_demand 3 1 (List.map encN r1.demand), .tab A13_0_cost c13_0_cost 22 hs13_0_cost 3 1 (encM encN ((m2.set (Int.toNat a1) (x2.set (Int.toNat t37_1) (x3 + a2))))), .blk b2 25 [.slice none 0 0, .slice none 0 0, .slice none 0 0], .blk b3 25 [.slice A13_0_supply r1.supply.length c13_0_supply, .slice A13_0_demand r1.demand.length c13_0_demand, .slice A13_0_cost m2.length c13_0_cost]] := H.tabRow 2 rfl hh2 hx2 (by simp) M1 O1
            replace R0 := H.ext
            have hrw1 : ((m2.set (Int.toNat a1) (x2.set (Int.toNat t37_1) (x3 + a2))))[Int.toNat a1]? = some (x2.set (Int.toNat t37_1) (x3 + a2)) := List.getElem?_set_self (lt_of_at hx2)
            refine LW.nil (hK18 _ _ ?_)
            obtain ⟨hg3, F⟩ := gd_some F
            refine CW.region ?_
            refine LW.pure rfl rfl (RV.add rfl rfl hg3) ?_
            refine LW.pure rfl rfl (RV.move rfl) ?_
            refine LW.nil ?_
            replace H := H.cast (L' := [.own A13_0_supply c13_0_supply 3 1 (List.map encN r1.supply), .own A13_0_demand c13_0_demand 3 1 (List.map encN r1.demand), .tab A13_0_cost c13_0_cost 22 hs13_0_cost 3 1 (encM encN ((m2.set (Int.toNat a1) (x2.set (Int.toNat t37_1) (x3 + a2))))), .blk b2 25 [.slice none 0 0, .slice none 0 0, .slice none 0 0], .blk b3 25 [.slice A13_0_supply r1.supply.length c13_0_supply, .slice A13_0_demand r1.demand.length c13_0_demand, .slice A13_0_cost (((m2.set (Int.toNat a1) (x2.set (Int.toNat t37_1) (x3 + a2)))).length) c13_0_cost]]) (by first | rfl | (simp only [List.length_set]; done) | simp)
            subst hrec1
            refine ⟨mk1, Nat.lt_succ_self _, _, ?_, (t37_1 + 1), ((m2.set (Int.toNat a1) (x2.set (Int.toNat t37_1) (x3 + a2)))), F, rfl, H⟩
            exact ⟨rfl, rfl, rfl, rfl, rfl, rfl, rfl, trivial⟩
          ·
            replace F := ite_n hp5 F
            have hq5 := dec_f hp5
            refine CW.condF rfl hq5 ?_
            refine CW.exit (jK70 _ _ ⟨_, ?_, ⟨m2, F, rfl, H⟩⟩)
            exact ⟨rfl, rfl, rfl, trivial⟩
      ·
        replace F := ite_n hp3 F
        have hq3 : r5 = false := raw_f hp3
        refine CW.condT rfl (not_t hq3) ?_
        refine CW.seq fun K20 hK20 => ?_
        refine CW.region ?_
        refine LW.pure rfl rfl (RV.build (vs := []) (cs := [.slice none 0 0, .slice none 0 0, .slice none 0 0]) rfl (fun _ => by kernel_rfl)) ?_
        refine LW.go rfl rfl (OW.store Tk25 rfl rfl (H.blk 0 rfl) (off := 0) (vs := [.slice none 0 0, .slice none 0 0, .slice none 0 0]) rfl rfl rfl rfl rfl fun w13 S4 => ?_)
        replace H : Hp w w13 [.blk b2 25 [.slice none 0 0, .slice none 0 0, .slice none 0 0], .blk b1 25 [.slice A_a0_supply a0.supply.length c_a0_supply, .slice A_a0_demand a0.demand.length c_a0_demand, .slice A_a0_cost a0.cost.length c_a0_cost]] := H.stored 0 rfl S4
        replace R0 := H.ext
        refine LW.pure rfl rfl (RV.assign rfl) ?_
        refine LW.nil (hK20 _ _ ?_)
        refine CW.ret ?_
        obtain rfl := Option.some.inj F
        refine ⟨_, (ResOK.two ⟨_, rfl, run_loadVar_agg Tk25 (H.blk 0 rfl).cells (us := [.slice none 0 0, .slice none 0 0, .slice none 0 0]) rfl rfl⟩ rfl), ?_⟩
        replace H := H.nilOwn 3 1
        replace R0 := H.ext
        replace H := H.nilOwn 3 1
        replace R0 := H.ext
        replace H := H.nilTab encN 22 3 1
        replace R0 := H.ext
        replace H := H.pick (L' := [.own none 0 3 1 (List.map encN (([] : List Int))), .own none 0 3 1 (List.map encN (([] : List Int))), .tab none 0 22 ([]) 3 1 (encM encN (([] : List (List Int))))]) [2, 1, 0] (by decide) rfl
        replace R0 := H.ext
        exact ⟨none, 0, none, 0, none, 0, ([]), (by first | rfl | (simp; done) | (simp; omega)), H⟩
    ·
      replace F := ite_n hp2 F
      have hq2 : r4 = false := raw_f hp2
      refine CW.condT rfl (not_t hq2) ?_
      refine CW.seq fun K21 hK21 => ?_
      refine CW.region ?_
      refine LW.pure rfl rfl (RV.build (vs := []) (cs := [.slice none 0 0, .slice none 0 0, .slice none 0 0]) rfl (fun _ => by kernel_rfl)) ?_
      refine LW.go rfl rfl (OW.store Tk25 rfl rfl (H.blk 0 rfl) (off := 0) (vs := [.slice none 0 0, .slice none 0 0, .slice none 0 0]) rfl rfl rfl rfl rfl fun w14 S5 => ?_)
      replace H : Hp w w14 [.blk b2 25 [.slice none 0 0, .slice none 0 0, .slice none 0 0], .blk b1 25 [.slice A_a0_supply a0.supply.length c_a0_supply, .slice A_a0_demand a0.demand.length c_a0_demand, .slice A_a0_cost a0.cost.length c_a0_cost]] := H.stored 0 rfl S5
      replace R0 := H.ext
      refine LW.pure rfl rfl (RV.assign rfl) ?_
      refine LW.nil (hK21 _ _ ?_)
      refine CW.ret ?_
      obtain rfl := Option.some.inj F
      refine ⟨_, (ResOK.two ⟨_, rfl, run_loadVar_agg Tk25 (H.blk 0 rfl).cells (us := [.slice none 0 0, .slice none 0 0, .slice none 0 0]) rfl rfl⟩ rfl), ?_⟩
      replace H := H.nilOwn 3 1
      replace R0 := H.ext
      replace H := H.nilOwn 3 1
      replace R0 := H.ext
      replace H := H.nilTab encN 22 3 1
      replace R0 := H.ext
      replace H := H.pick (L' := [.own none 0 3 1 (List.map encN (([] : List Int))), .own none 0 3 1 (List.map encN (([] : List Int))), .tab none 0 22 ([]) 3 1 (encM encN (([] : List (List Int))))]) [2, 1, 0] (by decide) rfl
      replace R0 := H.ext
      exact ⟨none, 0, none, 0, none, 0, ([]), (by first | rfl | (simp; done) | (simp; omega)), H⟩
  ·
    replace F := ite_n hp1 F
    have hq1 := dec_f hp1
    refine CW.condT rfl (not_t hq1) ?_
    refine CW.seq fun K22 hK22 => ?_
    refine CW.region ?_
    refine LW.pure rfl rfl (RV.build (vs := []) (cs := [.slice none 0 0, .slice none 0 0, .slice none 0 0]) rfl (fun _ => by kernel_rfl)) ?_
    refine LW.pure rfl rfl (RV.move rfl) ?_
    refine LW.go rfl rfl (OW.store Tk25 rfl rfl (H.blk 0 rfl) (off := 0) (vs := [.slice none 0 0, .slice none 0 0, .slice none 0 0]) rfl rfl rfl rfl rfl fun w15 S6 => ?_)
    replace H : Hp w w15 [.blk b2 25 [.slice none 0 0, .slice none 0 0, .slice none 0 0], .blk b1 25 [.slice A_a0_supply a0.supply.length c_a0_supply, .slice A_a0_demand a0.demand.length c_a0_demand, .slice A_a0_cost a0.cost.length c_a0_cost]] := H.stored 0 rfl S6
    replace R0 := H.ext
    refine LW.pure rfl rfl (RV.assign rfl) ?_
    refine LW.nil (hK22 _ _ ?_)
    refine CW.ret ?_
    obtain rfl := Option.some.inj F
    refine ⟨_, (ResOK.two ⟨_, rfl, run_loadVar_agg Tk25 (H.blk 0 rfl).cells (us := [.slice none 0 0, .slice none 0 0, .slice none 0 0]) rfl rfl⟩ rfl), ?_⟩
    replace H := H.nilOwn 3 1
    replace R0 := H.ext
    replace H := H.nilOwn 3 1
    replace R0 := H.ext
    replace H := H.nilTab encN 22 3 1
    replace R0 := H.ext
    replace H := H.pick (L' := [.own none 0 3 1 (List.map encN (([] : List Int))), .own none 0 3 1 (List.map encN (([] : List Int))), .tab none 0 22 ([]) 3 1 (encM encN (([] : List (List Int))))]) [2, 1, 0] (by decide) rfl
    replace R0 := H.ext
    exact ⟨none, 0, none, 0, none, 0, ([]), (by first | rfl | (simp; done) | (simp; omega)), H⟩
set_option maxRecDepth 20000 in
set_option maxHeartbeats 1000000 in
theorem ref07_Copy_ok {a0 : Trade} {A_a0_supply : Option Addr} {c_a0_supply : Nat} {A_a0_demand : Option Addr} {c_a0_demand : Nat} {A_a0_cost : Option Addr} {c_a0_cost : Nat} {w : World} {res : Trade} (h_a0_supply : Sl w A_a0_supply c_a0_supply 1 (a0.supply.map encN)) (h_a0_demand : Sl w A_a0_demand c_a0_demand 1 (a0.demand.map encN)) (h_a0_cost : Sl2 w A_a0_cost c_a0_cost 1 encN a0.cost) (F : ref07_Copy a0 = some res) : Calls Try.prog 66 #[.agg #[.slice A_a0_supply a0.supply.length c_a0_supply, .slice A_a0_demand a0.demand.length c_a0_demand, .slice A_a0_cost a0.cost.length c_a0_cost]] w (fun e w' => ∃ (A0_supply : Option Addr) (c0_supply : Nat) (A0_demand : Option Addr) (c0_demand : Nat) (A0_cost : Option Addr) (c0_cost : Nat) (hs0_cost : List (Option Addr × Nat)), e = .returned (.agg #[.slice A0_supply res.supply.length c0_supply, .slice A0_demand res.demand.length c0_demand, .slice A0_cost res.cost.length c0_cost]) ∧ Hp w w' [.own A0_supply c0_supply 3 1 (List.map encN res.supply), .own A0_demand c0_demand 3 1 (List.map encN res.demand), .tab A0_cost c0_cost 22 hs0_cost 3 1 (encM encN res.cost)]) := by
  refine calls_of_cw (args := [.agg #[.slice A_a0_supply a0.supply.length c_a0_supply, .slice A_a0_demand a0.demand.length c_a0_demand, .slice A_a0_cost a0.cost.length c_a0_cost]]) Try.func66 rfl rfl rfl rfl ?_
  have H := Hp.start w
  have R0 := H.ext
  unfold ref07_Copy at F
  refine CW.seq fun K1 hK1 => ?_
  refine CW.region ?_
  refine LW.go rfl rfl (OW.box rfl fun b1 w1 N1 => ?_)
  replace H := H.new N1 N1.blk
  replace R0 := H.ext
  refine LW.go rfl rfl (OW.alloc Tz25 fun b2 w2 N2 => ?_)
  replace H := H.new N2 N2.blk
  replace R0 := H.ext
  refine LW.nil (hK1 _ _ ?_)
  refine CW.seq fun K2 hK2 => ?_
  obtain ⟨hg1, F⟩ := gd_some F
  obtain ⟨hg2, F⟩ := gd_some F
  obtain ⟨r1, hr1, F⟩ := bnd_some F
  have H0 := H
  have hz : w2.heap.size ≤ w2.heap.size := Nat.le_refl _
  refine CW.draw [3, 7, 12] (XB w2 [.blk b2 25 [.slice none 0 0, .slice none 0 0, .slice none 0 0], .blk b1 25 [.slice A_a0_supply a0.supply.length c_a0_supply, .slice A_a0_demand a0.demand.length c_a0_demand, .slice A_a0_cost a0.cost.length c_a0_cost]] [0]) (.cons 1 2 (.cons 2 2 (.cons 5 2 (.cons 6 2 (.cons 8 2 (.cons 9 2 (.alt 0 (.alt 3 (.cons 4 0 (.cons 7 0 (.cons 10 0 (.cons 11 2 (.cons 12 0 .nil))))) (.cons 4 0 (.cons 3 0 (.cons 7 0 (.cons 10 0 (.cons 11 2 (.cons 12 0 .nil))))))) (.cons 4 0 (.cons 0 0 (.cons 3 0 (.cons 7 0 (.cons 10 0 (.cons 11 2 (.cons 12 0 .nil)))))))))))))) mixed (by kernel_rfl) fun w3 E1 => ?_
  replace H := H.grow E1
  replace R0 := H.ext
  replace hz := Nat.le_trans hz (Ext.size E1)
  refine DW.thru rfl rfl rfl (fun _ EQ => RV.fieldAddr Tf25_0 rfl) ?_
  refine DW.thru rfl rfl rfl (fun _ EQ => RV.load1 Tk22 rfl ((H.thruB 1 rfl EQ (H0.notX [0] 1 rfl (by decide))).cells.off 0) rfl) ?_
  refine DW.thru rfl rfl rfl (fun _ EQ => RV.fieldAddr Tf25_1 rfl) ?_
  refine DW.thru rfl rfl rfl (fun _ EQ => RV.load1 Tk22 rfl ((H.thruB 1 rfl EQ (H0.notX [0] 1 rfl (by decide))).cells.off 1) rfl) ?_
  refine DW.thru rfl rfl rfl (fun _ EQ => RV.fieldAddr Tf25_2 rfl) ?_
  refine DW.thru rfl rfl rfl (fun _ EQ => RV.load1 Tk23 rfl ((H.thruB 1 rfl EQ (H0.notX [0] 1 rfl (by decide))).cells.off 2) rfl) ?_
  refine DW.alt ?_ ?_
  ·
    refine DW.sole rfl rfl rfl (OW.buildSlice (e := 3) (vs := []) (cs := []) rfl (fun _ => by kernel_rfl) fun b3 w4 N3 => ?_)
    refine ⟨fun _ => N3.ext, ModX.ext N3.ext, ?_⟩
    have G0_b3 : w2.heap.size ≤ b3 := by rw [N3.at_]; exact hz
    replace H := H.made' (k := 1) (t := 3) (enc := encN) (l := ([] : List Int)) N3 N3.blk (fun _ => rfl) rfl (by first | decide | omega | (simp; done) | (simp; omega))
    replace R0 := H.ext
    replace hz := Nat.le_trans hz (Ext.size N3.ext)
    refine DW.alt ?_ ?_
    ·
      refine DW.sole rfl rfl rfl (OW.appendG (enc := encN) (l := ([] : List Int)) (xs := a0.supply) Ts22 (look_slice rfl (by first | rfl | (simp; done) | (simp; omega))) rfl (H.own 0 rfl) (h_a0_supply.ext R0) (fun _ => rfl) rfl rfl hg1 (by decide) fun A1 c1 w5 O1 M1 D1 => ?_)
      have G0_A1 := Fresh.nextZ (Fresh.at_ G0_b3) D1 hz
      refine ⟨fun h => absurd h (by decide), M1.modx (XB.newA (Fresh.at_ G0_b3)), ?_⟩
      replace H : Hp w w5 [.own A1 c1 3 1 (List.map encN ((([] : List Int) ++ a0.supply))), .blk b2 25 [.slice none 0 0, .slice none 0 0, .slice none 0 0], .blk b1 25 [.slice A_a0_supply a0.supply.length c_a0_supply, .slice A_a0_demand a0.demand.length c_a0_demand, .slice A_a0_cost a0.cost.length c_a0_cost]] := H.mod 0 rfl M1 O1 D1
      replace R0 := H.ext
      replace hz := Nat.le_trans hz M1.size
      refine DW.sole rfl rfl rfl (OW.buildSlice (e := 3) (vs := []) (cs := []) rfl (fun _ => by kernel_rfl) fun b4 w6 N4 => ?_)
      refine ⟨fun _ => N4.ext, ModX.ext N4.ext, ?_⟩
      have G0_b4 : w2.heap.size ≤ b4 := by rw [N4.at_]; exact hz
      replace H := H.made' (k := 1) (t := 3) (enc := encN) (l := ([] : List Int)) N4 N4.blk (fun _ => rfl) rfl (by first | decide | omega | (simp; done) | (simp; omega))
      replace R0 := H.ext
      replace hz := Nat.le_trans hz (Ext.size N4.ext)
      refine DW.sole rfl rfl rfl (OW.appendG (enc := encN) (l := ([] : List Int)) (xs := a0.demand) Ts22 (look_slice rfl (by first | rfl | (simp; done) | (simp; omega))) rfl (H.own 0 rfl) (h_a0_demand.ext R0) (fun _ => rfl) rfl rfl hg2 (by decide) fun A2 c2 w7 O2 M2 D2 => ?_)
      have G0_A2 := Fresh.nextZ (Fresh.at_ G0_b4) D2 hz
      refine ⟨fun h => absurd h (by decide), M2.modx (XB.newA (Fresh.at_ G0_b4)), ?_⟩
      replace H : Hp w w7 [.own A2 c2 3 1 (List.map encN ((([] : List Int) ++ a0.demand))), .own A1 c1 3 1 (List.map encN ((([] : List Int) ++ a0.supply))), .blk b2 25 [.slice none 0 0, .slice none 0 0, .slice none 0 0], .blk b1 25 [.slice A_a0_supply a0.supply.length c_a0_supply, .slice A_a0_demand a0.demand.length c_a0_demand, .slice A_a0_cost a0.cost.length c_a0_cost]] := H.mod 0 rfl M2 O2 D2
      replace R0 := H.ext
      replace hz := Nat.le_trans hz M2.size
      refine DW.sole rfl rfl rfl (OW.call Tc52 rfl (ref07_CopyTable_ok (a0 := a0.cost) (h_a0_cost.ext R0) hr1) ?_)
      rintro _ w8 ⟨A4_0, c4_0, hs4_0, rfl, E2⟩
      refine ⟨_, rfl, fun _ => E2.ext, ModX.ext E2.ext, ?_⟩
      replace H : Hp w w8 [.tab A4_0 c4_0 22 hs4_0 3 1 (encM encN r1), .own A2 c2 3 1 (List.map encN ((([] : List Int) ++ a0.demand))), .own A1 c1 3 1 (List.map encN ((([] : List Int) ++ a0.supply))), .blk b2 25 [.slice none 0 0, .slice none 0 0, .slice none 0 0], .blk b1 25 [.slice A_a0_supply a0.supply.length c_a0_supply, .slice A_a0_demand a0.demand.length c_a0_demand, .slice A_a0_cost a0.cost.length c_a0_cost]] := H.append E2
      replace R0 := H.ext
      replace hz := Nat.le_trans hz (Ext.size E2.ext)
      refine DW.thru rfl rfl rfl (fun _ EQ => RV.build (vs := [.slice A1 (((([] : List Int) ++ a0.supply)).length) c1, .slice A2 (((([] : List Int) ++ a0.demand)).length) c2, .slice A4_0 r1.length c4_0]) (cs := [.slice A1 (((([] : List Int) ++ a0.supply)).length) c1, .slice A2 (((([] : List Int) ++ a0.demand)).length) c2, .slice A4_0 r1.length c4_0]) rfl (fun _ => by kernel_rfl)) ?_
      refine DW.sole rfl rfl rfl (OW.store Tk25 rfl rfl (H.blk 3 rfl) (off := 0) (vs := [.slice A1 (((([] : List Int) ++ a0.supply)).length) c1, .slice A2 (((([] : List Int) ++ a0.demand)).length) c2, .slice A4_0 r1.length c4_0]) rfl rfl rfl rfl rfl fun w9 S1 => ?_)
      refine ⟨fun h => absurd h (by decide), S1.modx (XB.in_ 0 (by decide) rfl (List.mem_singleton.2 rfl)), ?_⟩
      replace H : Hp w w9 [.tab A4_0 c4_0 22 hs4_0 3 1 (encM encN r1), .own A2 c2 3 1 (List.map encN ((([] : List Int) ++ a0.demand))), .own A1 c1 3 1 (List.map encN ((([] : List Int) ++ a0.supply))), .blk b2 25 [.slice A1 (((([] : List Int) ++ a0.supply)).length) c1, .slice A2 (((([] : List Int) ++ a0.demand)).length) c2, .slice A4_0 r1.length c4_0], .blk b1 25 [.slice A_a0_supply a0.supply.length c_a0_supply, .slice A_a0_demand a0.demand.length c_a0_demand, .slice A_a0_cost a0.cost.length c_a0_cost]] := H.stored 3 rfl S1
      replace R0 := H.ext
      replace hz := Nat.le_trans hz (Nat.le_of_eq S1.size.symm)
      refine DW.nil (hK2 _ _ ?_)
      refine CW.ret ?_
      obtain rfl := Option.some.inj F
      refine ⟨_, (ResOK.cell1 ⟨_, rfl, run_loadVar_agg Tk25 (H.blk 3 rfl).cells (us := [.slice A1 (((([] : List Int) ++ a0.supply)).length) c1, .slice A2 (((([] : List Int) ++ a0.demand)).length) c2, .slice A4_0 r1.length c4_0]) rfl rfl⟩), ?_⟩
      replace H := H.pick (L' := [.own A1 c1 3 1 (List.map encN ((([] : List Int) ++ a0.supply))), .own A2 c2 3 1 (List.map encN ((([] : List Int) ++ a0.demand))), .tab A4_0 c4_0 22 hs4_0 3 1 (encM encN r1)]) [2, 1, 0] (by decide) rfl
      replace R0 := H.ext
      exact ⟨A1, c1, A2, c2, A4_0, c4_0, hs4_0, (by first | rfl | (simp; done) | (simp; omega)), H⟩
    ·
      refine DW.sole rfl rfl rfl (OW.buildSlice (e := 3) (vs := []) (cs := []) rfl (fun _ => by kernel_rfl) fun b5 w10 N5 => ?_)
      refine ⟨fun _ => N5.ext, ModX.ext N5.ext, ?_⟩
      have G0_b5 : w2.heap.size ≤ b5 := by rw [N5.at_]; exact hz
      replace H := H.made' (k := 1) (t := 3) (enc := encN) (l := ([] : List Int)) N5 N5.blk (fun _ => rfl) rfl (by first | decide | omega | (simp; done) | (simp; omega))
      replace R0 := H.ext
      replace hz := Nat.le_trans hz (Ext.size N5.ext)
      refine DW.sole rfl rfl rfl (OW.appendG (enc := encN) (l := ([] : List Int)) (xs := a0.supply) Ts22 (look_slice rfl (by first | rfl | (simp; done) | (simp; omega))) rfl (H.own 1 rfl) (h_a0_supply.ext R0) (fun _ => rfl) rfl rfl hg1 (by decide) fun A3 c3 w11 O3 M3 D3 => ?_)
      have G0_A3 := Fresh.nextZ (Fresh.at_ G0_b3) D3 hz
      refine ⟨fun h => absurd h (by decide), M3.modx (XB.newA (Fresh.at_ G0_b3)), ?_⟩
      replace H : Hp w w11 [.own (some ⟨b5, 0, none⟩) ((([] : List Int)).length) 3 1 (List.map encN (([] : List Int))), .own A3 c3 3 1 (List.map encN ((([] : List Int) ++ a0.supply))), .blk b2 25 [.slice none 0 0, .slice none 0 0, .slice none 0 0], .blk b1 25 [.slice A_a0_supply a0.supply.length c_a0_supply, .slice A_a0_demand a0.demand.length c_a0_demand, .slice A_a0_cost a0.cost.length c_a0_cost]] := H.mod 1 rfl M3 O3 D3
      replace R0 := H.ext
      replace hz := Nat.le_trans hz M3.size
      refine DW.sole rfl rfl rfl (OW.appendG (enc := encN) (l := ([] : List Int)) (xs := a0.demand) Ts22 (look_slice rfl (by first | rfl | (simp; done) | (simp; omega))) rfl (H.own 0 rfl) (h_a0_demand.ext R0) (fun _ => rfl) rfl rfl hg2 (by decide) fun A4 c4 w12 O4 M4 D4 => ?_)
      have G0_A4 := Fresh.nextZ (Fresh.at_ G0_b5) D4 hz
      refine ⟨fun h => absurd h (by decide), M4.modx (XB.newA (Fresh.at_ G0_b5)), ?_⟩
      replace H : Hp w w12 [.own A4 c4 3 1 (List.map encN ((([] : List Int) ++ a0.demand))), .own A3 c3 3 1 (List.map encN ((([] : List Int) ++ a0.supply))), .blk b2 25 [.slice none 0 0, .slice none 0 0, .slice none 0 0], .blk b1 25 [.slice A_a0_supply a0.supply.length c_a0_supply, .slice A_a0_demand a0.demand.length c_a0_demand, .slice A_a0_cost a0.cost.length c_a0_cost]] := H.mod 0 rfl M4 O4 D4
      replace R0 := H.ext
      replace hz := Nat.le_trans hz M4.size
      refine DW.sole rfl rfl rfl (OW.call Tc52 rfl (ref07_CopyTable_ok (a0 := a0.cost) (h_a0_cost.ext R0) hr1) ?_)
      rintro _ w13 ⟨A5_0, c5_0, hs5_0, rfl, E3⟩
      refine ⟨_, rfl, fun _ => E3.ext, ModX.ext E3.ext, ?_⟩
      replace H : Hp w w13 [.tab A5_0 c5_0 22 hs5_0 3 1 (encM encN r1), .own A4 c4 3 1 (List.map encN ((([] : List Int) ++ a0.demand))), .own A3 c3 3 1 (List.map encN ((([] : List Int) ++ a0.supply))), .blk b2 25 [.slice none 0 0, .slice none 0 0, .slice none 0 0], .blk b1 25 [.slice A_a0_supply a0.supply.length c_a0_supply, .slice A_a0_demand a0.demand.length c_a0_demand, .slice A_a0_cost a0.cost.length c_a0_cost]] := H.append E3
      replace R0 := H.ext
      replace hz := Nat.le_trans hz (Ext.size E3.ext)
      refine DW.thru rfl rfl rfl (fun _ EQ => RV.build (vs := [.slice A3 (((([] : List Int) ++ a0.supply)).length) c3, .slice A4 (((([] : List Int) ++ a0.demand)).length) c4, .slice A5_0 r1.length c5_0]) (cs := [.slice A3 (((([] : List Int) ++ a0.supply)).length) c3, .slice A4 (((([] : List Int) ++ a0.demand)).length) c4, .slice A5_0 r1.length c5_0]) rfl (fun _ => by kernel_rfl)) ?_
      refine DW.sole rfl rfl rfl (OW.store Tk25 rfl rfl (H.blk 3 rfl) (off := 0) (vs := [.slice A3 (((([] : List Int) ++ a0.supply)).length) c3, .slice A4 (((([] : List Int) ++ a0.demand)).length) c4, .slice A5_0 r1.length c5_0]) rfl rfl rfl rfl rfl fun w14 S2 => ?_)
      refine ⟨fun h => absurd h (by decide), S2.modx (XB.in_ 0 (by decide) rfl (List.mem_singleton.2 rfl)), ?_⟩
      replace H : Hp w w14 [.tab A5_0 c5_0 22 hs5_0 3 1 (encM encN r1), .own A4 c4 3 1 (List.map encN ((([] : List Int) ++ a0.demand))), .own A3 c3 3 1 (List.map encN ((([] : List Int) ++ a0.supply))), .blk b2 25 [.slice A3 (((([] : List Int) ++ a0.supply)).length) c3, .slice A4 (((([] : List Int) ++ a0.demand)).length) c4, .slice A5_0 r1.length c5_0], .blk b1 25 [.slice A_a0_supply a0.supply.length c_a0_supply, .slice A_a0_demand a0.demand.length c_a0_demand, .slice A_a0_cost a0.cost.length c_a0_cost]] := H.stored 3 rfl S2
      replace R0 := H.ext
      replace hz := Nat.le_trans hz (Nat.le_of_eq S2.size.symm)
      refine DW.nil (hK2 _ _ ?_)
      refine CW.ret ?_
      obtain rfl := Option.some.inj F
      refine ⟨_, (ResOK.cell1 ⟨_, rfl, run_loadVar_agg Tk25 (H.blk 3 rfl).cells (us := [.slice A3 (((([] : List Int) ++ a0.supply)).length) c3, .slice A4 (((([] : List Int) ++ a0.demand)).length) c4, .slice A5_0 r1.length c5_0]) rfl rfl⟩), ?_⟩
      replace H := H.pick (L' := [.own A3 c3 3 1 (List.map encN ((([] : List Int) ++ a0.supply))), .own A4 c4 3 1 (List.map encN ((([] : List Int) ++ a0.demand))), .tab A5_0 c5_0 22 hs5_0 3 1 (encM encN r1)]) [2, 1, 0] (by decide) rfl
      replace R0 := H.ext
      exact ⟨A3, c3, A4, c4, A5_0, c5_0, hs5_0, (by first | rfl | (simp; done) | (simp; omega)), H⟩
  ·
    refine DW.sole rfl rfl rfl (OW.buildSlice (e := 3) (vs := []) (cs := []) rfl (fun _ => by kernel_rfl) fun b6 w15 N6 => ?_)
    refine ⟨fun _ => N6.ext, ModX.ext N6.ext, ?_⟩
    have G0_b6 : w2.heap.size ≤ b6 := by rw [N6.at_]; exact hz
    replace H := H.made' (k := 1) (t := 3) (enc := encN) (l := ([] : List Int)) N6 N6.blk (fun _ => rfl) rfl (by first | decide | omega | (simp; done) | (simp; omega))
    replace R0 := H.ext
    replace hz := Nat.le_trans hz (Ext.size N6.ext)
    refine DW.sole rfl rfl rfl (OW.buildSlice (e := 3) (vs := []) (cs := []) rfl (fun _ => by kernel_rfl) fun b7 w16 N7 => ?_)
    refine ⟨fun _ => N7.ext, ModX.ext N7.ext, ?_⟩
    have G0_b7 : w2.heap.size ≤ b7 := by rw [N7.at_]; exact hz
    replace H := H.made' (k := 1) (t := 3) (enc := encN) (l := ([] : List Int)) N7 N7.blk (fun _ => rfl) rfl (by first | decide | omega | (simp; done) | (simp; omega))
    replace R0 := H.ext
    replace hz := Nat.le_trans hz (Ext.size N7.ext)
    refine DW.sole rfl rfl rfl (OW.appendG (enc := encN) (l := ([] : List Int)) (xs := a0.supply) Ts22 (look_slice rfl (by first | rfl | (simp; done) | (simp; omega))) rfl (H.own 0 rfl) (h_a0_supply.ext R0) (fun _ => rfl) rfl rfl hg1 (by decide) fun A5 c5 w17 O5 M5 D5 => ?_)
    have G0_A5 := Fresh.nextZ (Fresh.at_ G0_b7) D5 hz
    refine ⟨fun h => absurd h (by decide), M5.modx (XB.newA (Fresh.at_ G0_b7)), ?_⟩
    replace H : Hp w w17 [.own A5 c5 3 1 (List.map encN ((([] : List Int) ++ a0.supply))), .own (some ⟨b6, 0, none⟩) ((([] : List Int)).length) 3 1 (List.map encN (([] : List Int))), .blk b2 25 [.slice none 0 0, .slice none 0 0, .slice none 0 0], .blk b1 25 [.slice A_a0_supply a0.supply.length c_a0_supply, .slice A_a0_demand a0.demand.length c_a0_demand, .slice A_a0_cost a0.cost.length c_a0_cost]] := H.mod 0 rfl M5 O5 D5
    replace R0 := H.ext
    replace hz := Nat.le_trans hz M5.size
    refine DW.sole rfl rfl rfl (OW.appendG (enc := encN) (l := ([] : List Int)) (xs := a0.demand) Ts22 (look_slice rfl (by first | rfl | (simp; done) | (simp; omega))) rfl (H.own 1 rfl) (h_a0_demand.ext R0) (fun _ => rfl) rfl rfl hg2 (by decide) fun A6 c6 w18 O6 M6 D6 => ?_)
    have G0_A6 := Fresh.nextZ (Fresh.at_ G0_b6) D6 hz
    refine ⟨fun h => absurd h (by decide), M6.modx (XB.newA (Fresh.at_ G0_b6)), ?_⟩
    replace H : Hp w w18 [.own A5 c5 3 1 (List.map encN ((([] : List Int) ++ a0.supply))), .own A6 c6 3 1 (List.map encN ((([] : List Int) ++ a0.demand))), .blk b2 25 [.slice none 0 0, .slice none 0 0, .slice none 0 0], .blk b1 25 [.slice A_a0_supply a0.supply.length c_a0_supply, .slice A_a0_demand a0.demand.length c_a0_demand, .slice A_a0_cost a0.cost.length c_a0_cost]] := H.mod 1 rfl M6 O6 D6
    replace R0 := H.ext
    replace hz := Nat.le_trans hz M6.size
    refine DW.sole rfl rfl rfl (OW.call Tc52 rfl (ref07_CopyTable_ok (a0 := a0.cost) (h_a0_cost.ext R0) hr1) ?_)
    rintro _ w19 ⟨A6_0, c6_0, hs6_0, rfl, E4⟩
    refine ⟨_, rfl, fun _ => E4.ext, ModX.ext E4.ext, ?_⟩
    replace H : Hp w w19 [.tab A6_0 c6_0 22 hs6_0 3 1 (encM encN r1), .own A5 c5 3 1 (List.map encN ((([] : List Int) ++ a0.supply))), .own A6 c6 3 1 (List.map encN ((([] : List Int) ++ a0.demand))), .blk b2 25 [.slice none 0 0, .slice none 0 0, .slice none 0 0], .blk b1 25 [.slice A_a0_supply a0.supply.length c_a0_supply, .slice A_a0_demand a0.demand.length c_a0_demand, .slice A_a0_cost a0.cost.length c_a0_cost]] := H.append E4
    replace R0 := H.ext
    replace hz := Nat.le_trans hz (Ext.size E4.ext)
    refine DW.thru rfl rfl rfl (fun _ EQ => RV.build (vs := [.slice A5 (((([] : List Int) ++ a0.supply)).length) c5, .slice A6 (((([] : List Int) ++ a0.demand)).length) c6, .slice A6_0 r1.length c6_0]) (cs := [.slice A5 (((([] : List Int) ++ a0.supply)).length) c5, .slice A6 (((([] : List Int) ++ a0.demand)).length) c6, .slice A6_0 r1.length c6_0]) rfl (fun _ => by kernel_rfl)) ?_
    refine DW.sole rfl rfl rfl (OW.store Tk25 rfl rfl (H.blk 3 rfl) (off := 0) (vs := [.slice A5 (((([] : List Int) ++ a0.supply)).length) c5, .slice A6 (((([] : List Int) ++ a0.demand)).length) c6, .slice A6_0 r1.length c6_0]) rfl rfl rfl rfl rfl fun w20 S3 => ?_)
    refine ⟨fun h => absurd h (by decide), S3.modx (XB.in_ 0 (by decide) rfl (List.mem_singleton.2 rfl)), ?_⟩
    replace H : Hp w w20 [.tab A6_0 c6_0 22 hs6_0 3 1 (encM encN r1), .own A5 c5 3 1 (List.map encN ((([] : List Int) ++ a0.supply))), .own A6 c6 3 1 (List.map encN ((([] : List Int) ++ a0.demand))), .blk b2 25 [.slice A5 (((([] : List Int) ++ a0.supply)).length) c5, .slice A6 (((([] : List Int) ++ a0.demand)).length) c6, .slice A6_0 r1.length c6_0], .blk b1 25 [.slice A_a0_supply a0.supply.length c_a0_supply, .slice A_a0_demand a0.demand.length c_a0_demand, .slice A_a0_cost a0.cost.length c_a0_cost]] := H.stored 3 rfl S3
    replace R0 := H.ext
    replace hz := Nat.le_trans hz (Nat.le_of_eq S3.size.symm)
    refine DW.nil (hK2 _ _ ?_)
    refine CW.ret ?_
    obtain rfl := Option.some.inj F
    refine ⟨_, (ResOK.cell1 ⟨_, rfl, run_loadVar_agg Tk25 (H.blk 3 rfl).cells (us := [.slice A5 (((([] : List Int) ++ a0.supply)).length) c5, .slice A6 (((([] : List Int) ++ a0.demand)).length) c6, .slice A6_0 r1.length c6_0]) rfl rfl⟩), ?_⟩
    replace H := H.pick (L' := [.own A5 c5 3 1 (List.map encN ((([] : List Int) ++ a0.supply))), .own A6 c6 3 1 (List.map encN ((([] : List Int) ++ a0.demand))), .tab A6_0 c6_0 22 hs6_0 3 1 (encM encN r1)]) [1, 2, 0] (by decide) rfl
    replace R0 := H.ext
    exact ⟨A5, c5, A6, c6, A6_0, c6_0, hs6_0, (by first | rfl | (simp; done) | (simp; omega)), H⟩
end Go.D7

set_option linter.unusedVariables false
set_option linter.unusedSimpArgs false
namespace Go.D7
open Go.Tb Go.Proofs Go.RowKit
theorem Tc28 : callable Try.prog 28 = true := by kernel_rfl
theorem Tc29 : callable Try.prog 29 = true := by kernel_rfl
theorem Tc30 : callable Try.prog 30 = true := by kernel_rfl
theorem Tc66 : callable Try.prog 66 = true := by kernel_rfl
set_option maxRecDepth 20000 in
set_option maxHeartbeats 1000000 in
theorem ref07_Toll_ok {a0 : Trade} {a1 : Int} {a2 : Int} {A_a0_supply : Option Addr} {c_a0_supply : Nat} {A_a0_demand : Option Addr} {c_a0_demand : Nat} {A_a0_cost : Option Addr} {c_a0_cost : Nat} {w : World} {res : Trade × Int} (h_a0_supply : Sl w A_a0_supply c_a0_supply 1 (a0.supply.map encN)) (h_a0_demand : Sl w A_a0_demand c_a0_demand 1 (a0.demand.map encN)) (h_a0_cost : Sl2 w A_a0_cost c_a0_cost 1 encN a0.cost) (F : ref07_Toll a0 a1 a2 = some res) : Calls Try.prog 29 #[.agg #[.slice A_a0_supply a0.supply.length c_a0_supply, .slice A_a0_demand a0.demand.length c_a0_demand, .slice A_a0_cost a0.cost.length c_a0_cost], .int .i64 a1, .int .i64 a2] w (fun e w' => ∃ (A0_supply : Option Addr) (c0_supply : Nat) (A0_demand : Option Addr) (c0_demand : Nat) (A0_cost : Option Addr) (c0_cost : Nat) (hs0_cost : List (Option Addr × Nat)), e = .returned (.tuple #[.agg #[.slice A0_supply res.1.supply.length c0_supply, .slice A0_demand res.1.demand.length c0_demand, .slice A0_cost res.1.cost.length c0_cost], .int .i64 res.2]) ∧ Hp w w' [.own A0_supply c0_supply 3 1 (List.map encN res.1.supply), .own A0_demand c0_demand 3 1 (List.map encN res.1.demand), .tab A0_cost c0_cost 22 hs0_cost 3 1 (encM encN res.1.cost)]) := by
  refine calls_of_cw (args := [.agg #[.slice A_a0_supply a0.supply.length c_a0_supply, .slice A_a0_demand a0.demand.length c_a0_demand, .slice A_a0_cost a0.cost.length c_a0_cost], .int .i64 a1, .int .i64 a2]) Try.func29 rfl rfl rfl rfl ?_
  have H := Hp.start w
  have R0 := H.ext
  unfold ref07_Toll at F
  refine CW.seq fun K1 hK1 => ?_
  refine CW.region ?_
  refine LW.go rfl rfl (OW.box rfl fun b1 w1 N1 => ?_)
  replace H := H.new N1 N1.blk
  replace R0 := H.ext
  refine LW.go rfl rfl (OW.alloc Tz25 fun b2 w2 N2 => ?_)
  replace H := H.new N2 N2.blk
  replace R0 := H.ext
  refine LW.pure rfl rfl (RV.assign rfl) ?_
  refine LW.nil (hK1 _ _ ?_)
  refine CW.seq fun K2 hK2 => ?_
  obtain ⟨r3, hr3, F⟩ := bnd_some F
  refine CW.region ?_
  refine LW.pure rfl rfl (RV.loadA [.slice A_a0_supply a0.supply.length c_a0_supply, .slice A_a0_demand a0.demand.length c_a0_demand, .slice A_a0_cost a0.cost.length c_a0_cost] Tk25 rfl (H.blk 1 rfl).cells rfl rfl) ?_
  refine LW.go rfl rfl (OW.call Tc39 rfl (ref07_Validate_ok (a0 := a0) (h_a0_supply.ext R0) (h_a0_demand.ext R0) (h_a0_cost.ext R0) hr3) ?_)
  rintro _ w3 ⟨rfl, E1⟩
  refine ⟨_, rfl, ?_⟩
  replace H := H.grow E1
  replace R0 := H.ext
  refine LW.pure rfl rfl (RV.assign rfl) ?_
  refine LW.nil (hK2 _ _ ?_)
  refine CW.seq fun K3 hK3 => ?_
  refine CW.seq fun K4 hK4 => ?_
  refine CW.region ?_
  refine LW.pure rfl rfl (RV.move rfl) ?_
  refine LW.pure rfl rfl (RV.nei rfl rfl) ?_
  refine LW.nil (hK4 _ _ ?_)
  by_cases hp1 : r3 = 0
  ·
    replace F := ite_y hp1 F
    have hq1 := dec_t hp1
    refine CW.condF rfl (not_f hq1) ?_
    refine CW.skip (hK3 _ _ ?_)
    refine CW.seq fun K5 hK5 => ?_
    refine CW.seq fun K6 hK6 => ?_
    obtain ⟨hg1, F⟩ := gd_some F
    obtain ⟨r4, hr4, F⟩ := bnd_some F
    refine CW.region ?_
    refine LW.pure rfl rfl (RV.move rfl) ?_
    refine LW.pure rfl rfl (RV.fieldAddr Tf25_0 rfl) ?_
    refine LW.pure rfl rfl (RV.load1 Tk22 rfl ((H.blk 1 rfl).cells.off 0) rfl) ?_
    refine LW.pure rfl rfl (RV.len Ts22 rfl) ?_
    refine LW.pure rfl rfl (RV.sub rfl rfl hg1) ?_
    refine LW.go rfl rfl (OW.call Tc58 rfl (ref07_within_ok (a0 := a1) (a1 := (0 : Int)) (a2 := ((a0.supply.length : Int)) - 1) hr4) ?_)
    rintro _ w4 ⟨rfl, E2⟩
    refine ⟨_, rfl, ?_⟩
    replace H := H.grow E2
    replace R0 := H.ext
    refine LW.pure rfl rfl (RV.not rfl) ?_
    refine LW.nil (hK6 _ _ ?_)
    by_cases hp2 : r4 = true
    ·
      replace F := ite_y hp2 F
      have hq2 : r4 = true := hp2
      refine CW.condF rfl (not_f hq2) ?_
      refine CW.skip (hK5 _ _ ?_)
      refine CW.seq fun K7 hK7 => ?_
      refine CW.seq fun K8 hK8 => ?_
      obtain ⟨r5, hr5, F⟩ := bnd_some F
      refine CW.region ?_
      refine LW.pure rfl rfl (RV.move rfl) ?_
      refine LW.go rfl rfl (OW.call Tc58 rfl (ref07_within_ok (a0 := a2) (a1 := (-99 : Int)) (a2 := (99 : Int)) hr5) ?_)
      rintro _ w5 ⟨rfl, E3⟩
      refine ⟨_, rfl, ?_⟩
      replace H := H.grow E3
      replace R0 := H.ext
      refine LW.pure rfl rfl (RV.not rfl) ?_
      refine LW.nil (hK8 _ _ ?_)
      by_cases hp3 : r5 = true
      ·
        replace F := ite_y hp3 F
        have hq3 : r5 = true := hp3
        refine CW.condF rfl (not_f hq3) ?_
        refine CW.skip (hK7 _ _ ?_)
        refine CW.seq fun K9 hK9 => ?_
        obtain ⟨r1, hr1, F⟩ := bnd_some F
        refine CW.region ?_
        refine LW.pure rfl rfl (RV.loadA [.slice A_a0_supply a0.supply.length c_a0_supply, .slice A_a0_demand a0.demand.length c_a0_demand, .slice A_a0_cost a0.cost.length c_a0_cost] Tk25 rfl (H.blk 1 rfl).cells rfl rfl) ?_
        refine LW.go rfl rfl (OW.call Tc66 rfl (ref07_Copy_ok (a0 := a0) (h_a0_supply.ext R0) (h_a0_demand.ext R0) (h_a0_cost.ext R0) hr1) ?_)
        rintro _ w6 ⟨A13_0_supply, c13_0_supply, A13_0_demand, c13_0_demand, A13_0_cost, c13_0_cost, hs13_0_cost, rfl, E4⟩
        refine ⟨_, rfl, ?_⟩
        replace H : Hp w w6 [.own A13_0_supply c13_0_supply 3 1 (List.map encN r1.supply), .own A13_0_demand c13_0_demand 3 1 (List.map encN r1.demand), .tab A13_0_cost c13_0_cost 22 hs13_0_cost 3 1 (encM encN r1.cost), .blk b2 25 [.slice none 0 0, .slice none 0 0, .slice none 0 0], .blk b1 25 [.slice A_a0_supply a0.supply.length c_a0_supply, .slice A_a0_demand a0.demand.length c_a0_demand, .slice A_a0_cost a0.cost.length c_a0_cost]] := H.append E4
        replace R0 := H.ext
        refine LW.go rfl rfl (OW.alloc Tz25 fun b3 w7 N3 => ?_)
        replace H := H.new N3 N3.blk
        replace R0 := H.ext
        refine LW.go rfl rfl (OW.store Tk25 rfl rfl (H.blk 0 rfl) (off := 0) (vs := [.slice A13_0_supply r1.supply.length c13_0_supply, .slice A13_0_demand r1.demand.length c13_0_demand, .slice A13_0_cost r1.cost.length c13_0_cost]) rfl rfl rfl rfl rfl fun w8 S1 => ?_)
        replace H : Hp w w8 [.blk b3 25 [.slice A13_0_supply r1.supply.length c13_0_supply, .slice A13_0_demand r1.demand.length c13_0_demand, .slice A13_0_cost r1.cost.length c13_0_cost], .own A13_0_supply c13_0_supply 3 1 (List.map encN r1.supply), .own A13_0_demand c13_0_demand 3 1 (List.map encN r1.demand), .tab A13_0_cost c13_0_cost 22 hs13_0_cost 3 1 (encM encN r1.cost), .blk b2 25 [.slice none 0 0, .slice none 0 0, .slice none 0 0], .blk b1 25 [.slice A_a0_supply a0.supply.length c_a0_supply, .slice A_a0_demand a0.demand.length c_a0_demand, .slice A_a0_cost a0.cost.length c_a0_cost]] := H.stored 0 rfl S1
        replace R0 := H.ext
        refine LW.nil (hK9 _ _ ?_)
        refine CW.seqJ (fun ρ wl1 => (∃ (m1 : List (List Int)), ref07_Toll_k1 r1 m1 = some res ∧ ρ = [(6, .pointer (some (⟨b2, 0, none⟩))), (7, .int .i64 0), (9, .pointer (some (⟨b3, 0, none⟩)))] ∧ Hp w wl1 [.own A13_0_supply c13_0_supply 3 1 (List.map encN r1.supply), .own A13_0_demand c13_0_demand 3 1 (List.map encN r1.demand), .tab A13_0_cost c13_0_cost 22 hs13_0_cost 3 1 (encM encN m1), .blk b2 25 [.slice none 0 0, .slice none 0 0, .slice none 0 0], .blk b3 25 [.slice A13_0_supply r1.supply.length c13_0_supply, .slice A13_0_demand r1.demand.length c13_0_demand, .slice A13_0_cost m1.length c13_0_cost]])) ?_ ?_
        ·
          rintro _ wl1 ⟨m1, F, rfl, H⟩
          have R0 := H.ext
          unfold ref07_Toll_k1 at F
          refine CW.seq fun K10 hK10 => ?_
          refine CW.seq fun K11 hK11 => ?_
          obtain ⟨r2, hr2, F⟩ := bnd_some F
          refine CW.region ?_
          refine LW.pure rfl rfl (RV.loadA [.slice A13_0_supply r1.supply.length c13_0_supply, .slice A13_0_demand r1.demand.length c13_0_demand, .slice A13_0_cost m1.length c13_0_cost] Tk25 rfl (H.blk 4 rfl).cells rfl rfl) ?_
          refine LW.go rfl rfl (OW.call Tc39 rfl (ref07_Validate_ok (a0 := (⟨r1.supply, r1.demand, m1⟩ : Trade)) (H.own 0 rfl).sl (H.own 1 rfl).sl (H.tab 2 rfl).sl2 hr2) ?_)
          rintro _ w9 ⟨rfl, E5⟩
          refine ⟨_, rfl, ?_⟩
          replace H := H.grow E5
          replace R0 := H.ext
          refine LW.pure rfl rfl (RV.nei rfl rfl) ?_
          refine LW.nil (hK11 _ _ ?_)
          by_cases hp4 : r2 = 0
          ·
            replace F := ite_y hp4 F
            have hq4 := dec_t hp4
            refine CW.condF rfl (not_f hq4) ?_
            refine CW.skip (hK10 _ _ ?_)
            refine CW.seq fun K12 hK12 => ?_
            refine CW.region ?_
            refine LW.pure rfl rfl (RV.loadA [.slice A13_0_supply r1.supply.length c13_0_supply, .slice A13_0_demand r1.demand.length c13_0_demand, .slice A13_0_cost m1.length c13_0_cost] Tk25 rfl (H.blk 4 rfl).cells rfl rfl) ?_
            refine LW.go rfl rfl (OW.store Tk25 rfl rfl (H.blk 3 rfl) (off := 0) (vs := [.slice A13_0_supply r1.supply.length c13_0_supply, .slice A13_0_demand r1.demand.length c13_0_demand, .slice A13_0_cost m1.length c13_0_cost]) rfl rfl rfl rfl rfl fun w10 S2 => ?_)
            replace H : Hp w w10 [.own A13_0_supply c13_0_supply 3 1 (List.map encN r1.supply), .own A13_0_demand c13_0_demand 3 1 (List.map encN r1.demand), .tab A13_0_cost c13_0_cost 22 hs13_0_cost 3 1 (encM encN m1), .blk b2 25 [.slice A13_0_supply r1.supply.length c13_0_supply, .slice A13_0_demand r1.demand.length c13_0_demand, .slice A13_0_cost m1.length c13_0_cost], .blk b3 25 [.slice A13_0_supply r1.supply.length c13_0_supply, .slice A13_0_demand r1.demand.length c13_0_demand, .slice A13_0_cost m1.length c13_0_cost]] := H.stored 3 rfl S2
            replace R0 := H.ext
            refine LW.pure rfl rfl (RV.assign rfl) ?_
            refine LW.nil (hK12 _ _ ?_)
            refine CW.ret ?_
            obtain rfl := Option.some.inj F
            refine ⟨_, (ResOK.two ⟨_, rfl, run_loadVar_agg Tk25 (H.blk 3 rfl).cells (us := [.slice A13_0_supply r1.supply.length c13_0_supply, .slice A13_0_demand r1.demand.length c13_0_demand, .slice A13_0_cost m1.length c13_0_cost]) rfl rfl⟩ rfl), ?_⟩
            replace H := H.pick (L' := [.own A13_0_supply c13_0_supply 3 1 (List.map encN r1.supply), .own A13_0_demand c13_0_demand 3 1 (List.map encN r1.demand), .tab A13_0_cost c13_0_cost 22 hs13_0_cost 3 1 (encM encN m1)]) [0, 1, 2] (by decide) rfl
            replace R0 := H.ext
            exact ⟨A13_0_supply, c13_0_supply, A13_0_demand, c13_0_demand, A13_0_cost, c13_0_cost, hs13_0_cost, (by first | rfl | (simp; done) | (simp; omega)), H⟩
          ·
            replace F := ite_n hp4 F
            have hq4 := dec_f hp4
            refine CW.condT rfl (not_t hq4) ?_
            refine CW.seq fun K13 hK13 => ?_
            refine CW.region ?_
            refine LW.pure rfl rfl (RV.build (vs := []) (cs := [.slice none 0 0, .slice none 0 0, .slice none 0 0]) rfl (fun _ => by kernel_rfl)) ?_
            refine LW.go rfl rfl (OW.store Tk25 rfl rfl (H.blk 3 rfl) (off := 0) (vs := [.slice none 0 0, .slice none 0 0, .slice none 0 0]) rfl rfl rfl rfl rfl fun w11 S3 => ?_)
            replace H : Hp w w11 [.own A13_0_supply c13_0_supply 3 1 (List.map encN r1.supply), .own A13_0_demand c13_0_demand 3 1 (List.map encN r1.demand), .tab A13_0_cost c13_0_cost 22 hs13_0_cost 3 1 (encM encN m1), .blk b2 25 [.slice none 0 0, .slice none 0 0, .slice none 0 0], .blk b3 25 [.slice A13_0_supply r1.supply.length c13_0_supply, .slice A13_0_demand r1.demand.length c13_0_demand, .slice A13_0_cost m1.length c13_0_cost]] := H.stored 3 rfl S3
            replace R0 := H.ext
            refine LW.pure rfl rfl (RV.assign rfl) ?_
            refine LW.nil (hK13 _ _ ?_)
            refine CW.ret ?_
            obtain rfl := Option.some.inj F
            refine ⟨_, (ResOK.two ⟨_, rfl, run_loadVar_agg Tk25 (H.blk 3 rfl).cells (us := [.slice none 0 0, .slice none 0 0, .slice none 0 0]) rfl rfl⟩ rfl), ?_⟩
            replace H := H.nilOwn 3 1
            replace R0 := H.ext
            replace H := H.nilOwn 3 1
            replace R0 := H.ext
            replace H := H.nilTab encN 22 3 1
            replace R0 := H.ext
            replace H := H.pick (L' := [.own none 0 3 1 (List.map encN (([] : List Int))), .own none 0 3 1 (List.map encN (([] : List Int))), .tab none 0 22 ([]) 3 1 (encM encN (([] : List (List Int))))]) [2, 1, 0] (by decide) rfl
            replace R0 := H.ext
            exact ⟨none, 0, none, 0, none, 0, ([]), (by first | rfl | (simp; done) | (simp; omega)), H⟩
        ·
          intro K14 hK14 jK61
          refine CW.seq fun K15 hK15 => ?_
          refine CW.region ?_
          refine LW.pure rfl rfl (RV.assign rfl) ?_
          refine LW.nil (hK15 _ _ ?_)
          refine CW.block ?_
          replace H := H.pick (L' := [.own A13_0_supply c13_0_supply 3 1 (List.map encN r1.supply), .own A13_0_demand c13_0_demand 3 1 (List.map encN r1.demand), .tab A13_0_cost c13_0_cost 22 hs13_0_cost 3 1 (encM encN r1.cost), .blk b1 25 [.slice A_a0_supply a0.supply.length c_a0_supply, .slice A_a0_demand a0.demand.length c_a0_demand, .slice A_a0_cost a0.cost.length c_a0_cost], .blk b2 25 [.slice none 0 0, .slice none 0 0, .slice none 0 0], .blk b3 25 [.slice A13_0_supply r1.supply.length c13_0_supply, .slice A13_0_demand r1.demand.length c13_0_demand, .slice A13_0_cost r1.cost.length c13_0_cost]]) [1, 2, 3, 5, 4, 0] (by decide) rfl
          replace R0 := H.ext
          refine CW.loop (fun meas ρ wl2 => ∃ (t10_1 : Int) (m2 : List (List Int)), ref07_Toll_L1 a0 a1 a2 r1 meas t10_1 m2 = some res ∧ ρ = [(1, .int .i64 a1), (2, .int .i64 a2), (3, .pointer (some (⟨b1, 0, none⟩))), (6, .pointer (some (⟨b2, 0, none⟩))), (7, .int .i64 0), (9, .pointer (some (⟨b3, 0, none⟩))), (10, .int .i64 t10_1)] ∧ Hp w wl2 [.own A13_0_supply c13_0_supply 3 1 (List.map encN r1.supply), .own A13_0_demand c13_0_demand 3 1 (List.map encN r1.demand), .tab A13_0_cost c13_0_cost 22 hs13_0_cost 3 1 (encM encN m2), .blk b1 25 [.slice A_a0_supply a0.supply.length c_a0_supply, .slice A_a0_demand a0.demand.length c_a0_demand, .slice A_a0_cost a0.cost.length c_a0_cost], .blk b2 25 [.slice none 0 0, .slice none 0 0, .slice none 0 0], .blk b3 25 [.slice A13_0_supply r1.supply.length c13_0_supply, .slice A13_0_demand r1.demand.length c13_0_demand, .slice A13_0_cost m2.length c13_0_cost]]) FU ⟨_, ?_, ((0 : Int)), r1.cost, F, rfl, H⟩ ?_
          · exact ⟨rfl, rfl, rfl, rfl, rfl, rfl, rfl, trivial⟩
          rintro mk1 _ wl2 ⟨t10_1, m2, F, rfl, H⟩
          have R0 := H.ext
          replace F := ref07_Toll_L1_s F
          obtain ⟨mk1, rfl, F⟩ := F
          generalize hrec1 : ref07_Toll_L1 a0 a1 a2 r1 mk1 = rec1 at F
          unfold ref07_Toll_B1 at F
          refine CW.seq fun K16 hK16 => ?_
          refine CW.seq fun K17 hK17 => ?_
          refine CW.region ?_
          refine LW.pure rfl rfl (RV.move rfl) ?_
          refine LW.pure rfl rfl (RV.fieldAddr Tf25_1 rfl) ?_
          refine LW.pure rfl rfl (RV.load1 Tk22 rfl ((H.blk 3 rfl).cells.off 1) rfl) ?_
          refine LW.pure rfl rfl (RV.len Ts22 rfl) ?_
          refine LW.pure rfl rfl (RV.lss rfl rfl) ?_
          refine LW.nil (hK17 _ _ ?_)
          by_cases hp5 : t10_1 < ((a0.demand.length : Int))
          ·
            replace F := ite_y hp5 F
            have hq5 := dec_t hp5
            refine CW.condT rfl hq5 ?_
            refine CW.skip (hK16 _ _ ?_)
            refine CW.seq fun K18 hK18 => ?_
            refine CW.block ?_
            obtain ⟨x1, hbx1, hx1, F⟩ := ix_some F
            obtain ⟨x2, hbx2, hx2, F⟩ := ix_some F
            obtain ⟨hg2, F⟩ := gd_some F
            obtain ⟨x3, hbx3, hx3, F⟩ := ix_some F
            refine CW.region ?_
            refine LW.pure rfl rfl (RV.fieldAddr Tf25_2 rfl) ?_
            refine LW.pure rfl rfl (RV.load1 Tk23 rfl ((H.blk 5 rfl).cells.off 2) rfl) ?_
            refine LW.pure rfl rfl (RV.move rfl) ?_
            obtain ⟨B1, e1, hh1⟩ := (H.tab 2 rfl).hd hx1
            refine LW.pure rfl rfl (RV.indexAddr Ts23 rfl rfl hbx1 ((H.tab 2 rfl).addr_ hx1)) ?_
            refine LW.pure rfl rfl (RV.load1 Tk22 rfl ((H.tab 2 rfl).cell hx1 hh1) rfl) ?_
            refine LW.pure rfl rfl (RV.move rfl) ?_
            refine LW.pure rfl rfl (RV.indexAddr Ts22 rfl rfl hbx2 (((H.tab 2 rfl).rowO hx1 hh1).sl.addr_ hx2)) ?_
            refine LW.pure rfl rfl (RV.load1 Tk3 rfl (((H.tab 2 rfl).rowO hx1 hh1).sl.at_ hx2) rfl) ?_
            refine LW.pure rfl rfl (RV.move rfl) ?_
            refine LW.pure rfl rfl (RV.add rfl rfl hg2) ?_
            refine LW.pure rfl rfl (RV.indexAddr Ts22 rfl rfl hbx3 (((H.tab 2 rfl).rowO hx1 hh1).sl.addr_ hx3)) ?_
            refine LW.go rfl rfl (OW.storeO (enc := encN) (vs := [.int .i64 (x2 + a2)]) 0 (x2 + a2) Tk3 rfl rfl ((H.tab 2 rfl).rowO hx1 hh1) (fun _ => rfl) rfl hx3 rfl rfl (by decide) rfl rfl fun w12 M1 O1 => ?_)
            replace H : Hp w w12 [.own A13_0_supply c13_0_supply 3 1 (List.map encN r1.supply), .own A13_0_demand c13_0_demand 3 1 (List.map encN r1.demand), .tab A13_0_cost c13_0_cost 22 hs13_0_cost 3 1 (encM encN ((m2.set (Int.toNat a1) (x1.set (Int.toNat t10_1) (x2 + a2))))), .blk b1 25 [.slice A_a0_supply a0.supply.length c_a0_supply, .slice A_a0_demand a0.demand.length c_a0_demand, .slice A_a0_cost a0.cost.length c_a0_cost], .blk b2 25 [.slice none 0 0, .slice none 0 0, .slice none 0 0], .blk b3 25 [.slice A13_0_supply r1.supply.length c13_0_supply, .slice A13_0_demand r1.demand.length c13_0_demand, .slice A13_0_cost m2.length c13_0_cost]] := H.tabRow 2 rfl hh1 hx1 (by simp) M1 O1
            replace R0 := H.ext
            have hrw1 : ((m2.set (Int.toNat a1) (x1.set (Int.toNat t10_1) (x2 + a2))))[Int.toNat a1]? = some (x1.set (Int.toNat t10_1) (x2 + a2)) := List.getElem?_set_self (lt_of_at hx1)
            refine LW.nil (hK18 _ _ ?_)
            obtain ⟨hg3, F⟩ := gd_some F
            refine CW.region ?_
            refine LW.pure rfl rfl (RV.move rfl) ?_
            refine LW.pure rfl rfl (RV.add rfl rfl hg3) ?_
            refine LW.pure rfl rfl (RV.assign rfl) ?_
            refine LW.nil ?_
            replace H := H.cast (L' := [.own A13_0_supply c13_0_supply 3 1 (List.map encN r1.supply), .own A13_0_demand c13_0_demand 3 1 (List.map encN r1.demand), .tab A13_0_cost c13_0_cost 22 hs13_0_cost 3 1 (encM encN ((m2.set (Int.toNat a1) (x1.set (Int.toNat t10_1) (x2 + a2))))), .blk b1 25 [.slice A_a0_supply a0.supply.length c_a0_supply, .slice A_a0_demand a0.demand.length c_a0_demand, .slice A_a0_cost a0.cost.length c_a0_cost], .blk b2 25 [.slice none 0 0, .slice none 0 0, .slice none 0 0], .blk b3 25 [.slice A13_0_supply r1.supply.length c13_0_supply, .slice A13_0_demand r1.demand.length c13_0_demand, .slice A13_0_cost (((m2.set (Int.toNat a1) (x1.set (Int.toNat t10_1) (x2 + a2)))).length) c13_0_cost]]) (by first | rfl | (simp only [List.length_set]; done) | simp)
            subst hrec1
            refine ⟨mk1, Nat.lt_succ_self _, _, ?_, (t10_1 + 1), ((m2.set (Int.toNat a1) (x1.set (Int.toNat t10_1) (x2 + a2)))), F, rfl, H⟩
            exact ⟨rfl, rfl, rfl, rfl, rfl, rfl, rfl, trivial⟩
          ·
            replace F := ite_n hp5 F
            have hq5 := dec_f hp5
            refine CW.condF rfl hq5 ?_
            replace H := H.pick (L' := [.own A13_0_supply c13_0_supply 3 1 (List.map encN r1.supply), .own A13_0_demand c13_0_demand 3 1 (List.map encN r1.demand), .tab A13_0_cost c13_0_cost 22 hs13_0_cost 3 1 (encM encN m2), .blk b2 25 [.slice none 0 0, .slice none 0 0, .slice none 0 0], .blk b3 25 [.slice A13_0_supply r1.supply.length c13_0_supply, .slice A13_0_demand r1.demand.length c13_0_demand, .slice A13_0_cost m2.length c13_0_cost]]) [0, 1, 2, 4, 5] (by decide) rfl
            replace R0 := H.ext
            refine CW.exit (jK61 _ _ ⟨_, ?_, ⟨m2, F, rfl, H⟩⟩)
            exact ⟨rfl, rfl, rfl, trivial⟩
      ·
        replace F := ite_n hp3 F
        have hq3 : r5 = false := raw_f hp3
        refine CW.condT rfl (not_t hq3) ?_
        refine CW.seq fun K19 hK19 => ?_
        refine CW.region ?_
        refine LW.pure rfl rfl (RV.build (vs := []) (cs := [.slice none 0 0, .slice none 0 0, .slice none 0 0]) rfl (fun _ => by kernel_rfl)) ?_
        refine LW.go rfl rfl (OW.store Tk25 rfl rfl (H.blk 0 rfl) (off := 0) (vs := [.slice none 0 0, .slice none 0 0, .slice none 0 0]) rfl rfl rfl rfl rfl fun w13 S4 => ?_)
        replace H : Hp w w13 [.blk b2 25 [.slice none 0 0, .slice none 0 0, .slice none 0 0], .blk b1 25 [.slice A_a0_supply a0.supply.length c_a0_supply, .slice A_a0_demand a0.demand.length c_a0_demand, .slice A_a0_cost a0.cost.length c_a0_cost]] := H.stored 0 rfl S4
        replace R0 := H.ext
        refine LW.pure rfl rfl (RV.assign rfl) ?_
        refine LW.nil (hK19 _ _ ?_)
        refine CW.ret ?_
        obtain rfl := Option.some.inj F
        refine ⟨_, (ResOK.two ⟨_, rfl, run_loadVar_agg Tk25 (H.blk 0 rfl).cells (us := [.slice none 0 0, .slice none 0 0, .slice none 0 0]) rfl rfl⟩ rfl), ?_⟩
        replace H := H.nilOwn 3 1
        replace R0 := H.ext
        replace H := H.nilOwn 3 1
        replace R0 := H.ext
        replace H := H.nilTab encN 22 3 1
        replace R0 := H.ext
        replace H := H.pick (L' := [.own none 0 3 1 (List.map encN (([] : List Int))), .own none 0 3 1 (List.map encN (([] : List Int))), .tab none 0 22 ([]) 3 1 (encM encN (([] : List (List Int))))]) [2, 1, 0] (by decide) rfl
        replace R0 := H.ext
        exact ⟨none, 0, none, 0, none, 0, ([]), (by first | rfl | (simp; done) | (simp; omega)), H⟩
    ·
      replace F := ite_n hp2 F
      have hq2 : r4 = false := raw_f hp2
      refine CW.condT rfl (not_t hq2) ?_
      refine CW.seq fun K20 hK20 => ?_
      refine CW.region ?_
      refine LW.pure rfl rfl (RV.build (vs := []) (cs := [.slice none 0 0, .slice none 0 0, .slice none 0 0]) rfl (fun _ => by kernel_rfl)) ?_
      refine LW.go rfl rfl (OW.store Tk25 rfl rfl (H.blk 0 rfl) (off := 0) (vs := [.slice none 0 0, .slice none 0 0, .slice none 0 0]) rfl rfl rfl rfl rfl fun w14 S5 => ?_)
      replace H : Hp w w14 [.blk b2 25 [.slice none 0 0, .slice none 0 0, .slice none 0 0], .blk b1 25 [.slice A_a0_supply a0.supply.length c_a0_supply, .slice A_a0_demand a0.demand.length c_a0_demand, .slice A_a0_cost a0.cost.length c_a0_cost]] := H.stored 0 rfl S5
      replace R0 := H.ext
      refine LW.pure rfl rfl (RV.assign rfl) ?_
      refine LW.nil (hK20 _ _ ?_)
      refine CW.ret ?_
      obtain rfl := Option.some.inj F
      refine ⟨_, (ResOK.two ⟨_, rfl, run_loadVar_agg Tk25 (H.blk 0 rfl).cells (us := [.slice none 0 0, .slice none 0 0, .slice none 0 0]) rfl rfl⟩ rfl), ?_⟩
      replace H := H.nilOwn 3 1
      replace R0 := H.ext
      replace H := H.nilOwn 3 1
      replace R0 := H.ext
      replace H := H.nilTab encN 22 3 1
      replace R0 := H.ext
      replace H := H.pick (L' := [.own none 0 3 1 (List.map encN (([] : List Int))), .own none 0 3 1 (List.map encN (([] : List Int))), .tab none 0 22 ([]) 3 1 (encM encN (([] : List (List Int))))]) [2, 1, 0] (by decide) rfl
      replace R0 := H.ext
      exact ⟨none, 0, none, 0, none, 0, ([]), (by first | rfl | (simp; done) | (simp; omega)), H⟩
  ·
    replace F := ite_n hp1 F
    have hq1 := dec_f hp1
    refine CW.condT rfl (not_t hq1) ?_
    refine CW.seq fun K21 hK21 => ?_
    refine CW.region ?_
    refine LW.pure rfl rfl (RV.build (vs := []) (cs := [.slice none 0 0, .slice none 0 0, .slice none 0 0]) rfl (fun _ => by kernel_rfl)) ?_
    refine LW.pure rfl rfl (RV.move rfl) ?_
    refine LW.go rfl rfl (OW.store Tk25 rfl rfl (H.blk 0 rfl) (off := 0) (vs := [.slice none 0 0, .slice none 0 0, .slice none 0 0]) rfl rfl rfl rfl rfl fun w15 S6 => ?_)
    replace H : Hp w w15 [.blk b2 25 [.slice none 0 0, .slice none 0 0, .slice none 0 0], .blk b1 25 [.slice A_a0_supply a0.supply.length c_a0_supply, .slice A_a0_demand a0.demand.length c_a0_demand, .slice A_a0_cost a0.cost.length c_a0_cost]] := H.stored 0 rfl S6
    replace R0 := H.ext
    refine LW.pure rfl rfl (RV.assign rfl) ?_
    refine LW.nil (hK21 _ _ ?_)
    refine CW.ret ?_
    obtain rfl := Option.some.inj F
    refine ⟨_, (ResOK.two ⟨_, rfl, run_loadVar_agg Tk25 (H.blk 0 rfl).cells (us := [.slice none 0 0, .slice none 0 0, .slice none 0 0]) rfl rfl⟩ rfl), ?_⟩
    replace H := H.nilOwn 3 1
    replace R0 := H.ext
    replace H := H.nilOwn 3 1
    replace R0 := H.ext
    replace H := H.nilTab encN 22 3 1
    replace R0 := H.ext
    replace H := H.pick (L' := [.own none 0 3 1 (List.map encN (([] : List Int))), .own none 0 3 1 (List.map encN (([] : List Int))), .tab none 0 22 ([]) 3 1 (encM encN (([] : List (List Int))))]) [2, 1, 0] (by decide) rfl
    replace R0 := H.ext
    exact ⟨none, 0, none, 0, none, 0, ([]), (by first | rfl | (simp; done) | (simp; omega)), H⟩
set_option maxRecDepth 20000 in
set_option maxHeartbeats 1000000 in
theorem ref07_Same_ok {a0 : Trade} {a1 : Trade} {A_a0_supply : Option Addr} {c_a0_supply : Nat} {A_a0_demand : Option Addr} {c_a0_demand : Nat} {A_a0_cost : Option Addr} {c_a0_cost : Nat} {A_a1_supply : Option Addr} {c_a1_supply : Nat} {A_a1_demand : Option Addr} {c_a1_demand : Nat} {A_a1_cost : Option Addr} {c_a1_cost : Nat} {w : World} {res : Bool} (h_a0_supply : Sl w A_a0_supply c_a0_supply 1 (a0.supply.map encN)) (h_a0_demand : Sl w A_a0_demand c_a0_demand 1 (a0.demand.map encN)) (h_a0_cost : Sl2 w A_a0_cost c_a0_cost 1 encN a0.cost) (h_a1_supply : Sl w A_a1_supply c_a1_supply 1 (a1.supply.map encN)) (h_a1_demand : Sl w A_a1_demand c_a1_demand 1 (a1.demand.map encN)) (h_a1_cost : Sl2 w A_a1_cost c_a1_cost 1 encN a1.cost) (F : ref07_Same a0 a1 = some res) : Calls Try.prog 30 #[.agg #[.slice A_a0_supply a0.supply.length c_a0_supply, .slice A_a0_demand a0.demand.length c_a0_demand, .slice A_a0_cost a0.cost.length c_a0_cost], .agg #[.slice A_a1_supply a1.supply.length c_a1_supply, .slice A_a1_demand a1.demand.length c_a1_demand, .slice A_a1_cost a1.cost.length c_a1_cost]] w (Rt w (.bool res)) := by
  refine calls_of_cw (args := [.agg #[.slice A_a0_supply a0.supply.length c_a0_supply, .slice A_a0_demand a0.demand.length c_a0_demand, .slice A_a0_cost a0.cost.length c_a0_cost], .agg #[.slice A_a1_supply a1.supply.length c_a1_supply, .slice A_a1_demand a1.demand.length c_a1_demand, .slice A_a1_cost a1.cost.length c_a1_cost]]) Try.func30 rfl rfl rfl rfl ?_
  have H := Hp.start w
  have R0 := H.ext
  unfold ref07_Same at F
  refine CW.seq fun K1 hK1 => ?_
  refine CW.region ?_
  refine LW.go rfl rfl (OW.box rfl fun b1 w1 N1 => ?_)
  replace H := H.new N1 N1.blk
  replace R0 := H.ext
  refine LW.go rfl rfl (OW.box rfl fun b2 w2 N2 => ?_)
  replace H := H.new N2 N2.blk
  replace R0 := H.ext
  refine LW.pure rfl rfl (RV.assign rfl) ?_
  refine LW.nil (hK1 _ _ ?_)
  refine CW.seq fun K2 hK2 => ?_
  obtain ⟨r1, hr1, F⟩ := bnd_some F
  by_cases hp1 : r1 = true
  ·
    replace F := ite_y hp1 F
    have hq1 : r1 = true := hp1
    obtain ⟨r2, hr2, F⟩ := bnd_some F
    by_cases hp2 : r2 = true
    ·
      replace F := ite_y hp2 F
      have hq2 : r2 = true := hp2
      obtain ⟨r3, hr3, F⟩ := bnd_some F
      refine CW.region ?_
      refine LW.pure rfl rfl (RV.fieldAddr Tf25_0 rfl) ?_
      refine LW.pure rfl rfl (RV.load1 Tk22 rfl ((H.blk 1 rfl).cells.off 0) rfl) ?_
      refine LW.pure rfl rfl (RV.fieldAddr Tf25_0 rfl) ?_
      refine LW.pure rfl rfl (RV.load1 Tk22 rfl ((H.blk 0 rfl).cells.off 0) rfl) ?_
      refine LW.go rfl rfl (OW.call Tc67 rfl (ref07_SameInts_ok (a0 := a0.supply) (a1 := a1.supply) (h_a0_supply.ext R0) (h_a1_supply.ext R0) hr1) ?_)
      rintro _ w3 ⟨rfl, E1⟩
      refine ⟨_, rfl, ?_⟩
      replace H := H.grow E1
      replace R0 := H.ext
      refine LW.pure rfl rfl (RV.move rfl) ?_
      refine LW.pureYB rfl rfl rfl rfl hq1 (RV.fieldAddr Tf25_1 rfl) ?_
      refine LW.pureYB rfl rfl rfl rfl hq1 (RV.load1 Tk22 rfl ((H.blk 1 rfl).cells.off 1) rfl) ?_
      refine LW.pureYB rfl rfl rfl rfl hq1 (RV.fieldAddr Tf25_1 rfl) ?_
      refine LW.pureYB rfl rfl rfl rfl hq1 (RV.load1 Tk22 rfl ((H.blk 0 rfl).cells.off 1) rfl) ?_
      refine LW.yesB rfl rfl rfl rfl hq1 (OW.call Tc67 rfl (ref07_SameInts_ok (a0 := a0.demand) (a1 := a1.demand) (h_a0_demand.ext R0) (h_a1_demand.ext R0) hr2) ?_)
      rintro _ w4 ⟨rfl, E2⟩
      refine ⟨_, rfl, ?_⟩
      replace H := H.grow E2
      replace R0 := H.ext
      refine LW.pure rfl rfl (RV.pickTB rfl hq1 rfl) ?_
      refine LW.pure rfl rfl (RV.move rfl) ?_
      refine LW.pureYB rfl rfl rfl rfl hq2 (RV.fieldAddr Tf25_2 rfl) ?_
      refine LW.pureYB rfl rfl rfl rfl hq2 (RV.load1 Tk23 rfl ((H.blk 1 rfl).cells.off 2) rfl) ?_
      refine LW.pureYB rfl rfl rfl rfl hq2 (RV.fieldAddr Tf25_2 rfl) ?_
      refine LW.pureYB rfl rfl rfl rfl hq2 (RV.load1 Tk23 rfl ((H.blk 0 rfl).cells.off 2) rfl) ?_
      refine LW.yesB rfl rfl rfl rfl hq2 (OW.call Tc33 rfl (ref07_SameTables_ok (a0 := a0.cost) (a1 := a1.cost) (h_a0_cost.ext R0) (h_a1_cost.ext R0) hr3) ?_)
      rintro _ w5 ⟨rfl, E3⟩
      refine ⟨_, rfl, ?_⟩
      replace H := H.grow E3
      replace R0 := H.ext
      refine LW.pure rfl rfl (RV.pickTB rfl hq2 rfl) ?_
      refine LW.pure rfl rfl (RV.assign rfl) ?_
      refine LW.nil (hK2 _ _ ?_)
      refine CW.ret ?_
      obtain rfl := Option.some.inj F
      refine ⟨_, (ResOK.one rfl), ?_⟩
      refine ⟨(by first | rfl | simp), R0⟩
    ·
      replace F := ite_n hp2 F
      have hq2 : r2 = false := raw_f hp2
      refine CW.region ?_
      refine LW.pure rfl rfl (RV.fieldAddr Tf25_0 rfl) ?_
      refine LW.pure rfl rfl (RV.load1 Tk22 rfl ((H.blk 1 rfl).cells.off 0) rfl) ?_
      refine LW.pure rfl rfl (RV.fieldAddr Tf25_0 rfl) ?_
      refine LW.pure rfl rfl (RV.load1 Tk22 rfl ((H.blk 0 rfl).cells.off 0) rfl) ?_
      refine LW.go rfl rfl (OW.call Tc67 rfl (ref07_SameInts_ok (a0 := a0.supply) (a1 := a1.supply) (h_a0_supply.ext R0) (h_a1_supply.ext R0) hr1) ?_)
      rintro _ w6 ⟨rfl, E4⟩
      refine ⟨_, rfl, ?_⟩
      replace H := H.grow E4
      replace R0 := H.ext
      refine LW.pure rfl rfl (RV.move rfl) ?_
      refine LW.pureYB rfl rfl rfl rfl hq1 (RV.fieldAddr Tf25_1 rfl) ?_
      refine LW.pureYB rfl rfl rfl rfl hq1 (RV.load1 Tk22 rfl ((H.blk 1 rfl).cells.off 1) rfl) ?_
      refine LW.pureYB rfl rfl rfl rfl hq1 (RV.fieldAddr Tf25_1 rfl) ?_
      refine LW.pureYB rfl rfl rfl rfl hq1 (RV.load1 Tk22 rfl ((H.blk 0 rfl).cells.off 1) rfl) ?_
      refine LW.yesB rfl rfl rfl rfl hq1 (OW.call Tc67 rfl (ref07_SameInts_ok (a0 := a0.demand) (a1 := a1.demand) (h_a0_demand.ext R0) (h_a1_demand.ext R0) hr2) ?_)
      rintro _ w7 ⟨rfl, E5⟩
      refine ⟨_, rfl, ?_⟩
      replace H := H.grow E5
      replace R0 := H.ext
      refine LW.pure rfl rfl (RV.pickTB rfl hq1 rfl) ?_
      refine LW.pure rfl rfl (RV.move rfl) ?_
      refine LW.noB rfl rfl rfl rfl (ne_beq (v := false) hq2 rfl) ?_
      refine LW.noB rfl rfl rfl rfl (ne_beq (v := false) hq2 rfl) ?_
      refine LW.noB rfl rfl rfl rfl (ne_beq (v := false) hq2 rfl) ?_
      refine LW.noB rfl rfl rfl rfl (ne_beq (v := false) hq2 rfl) ?_
      refine LW.noB rfl rfl rfl rfl (ne_beq (v := false) hq2 rfl) ?_
      refine LW.pure rfl rfl (RV.pickFB rfl hq2 rfl) ?_
      refine LW.pure rfl rfl (RV.assign rfl) ?_
      refine LW.nil (hK2 _ _ ?_)
      refine CW.ret ?_
      obtain rfl := Option.some.inj F
      refine ⟨_, (ResOK.one rfl), ?_⟩
      refine ⟨(by first | rfl | simp), R0⟩
  ·
    replace F := ite_n hp1 F
    have hq1 : r1 = false := raw_f hp1
    refine CW.region ?_
    refine LW.pure rfl rfl (RV.fieldAddr Tf25_0 rfl) ?_
    refine LW.pure rfl rfl (RV.load1 Tk22 rfl ((H.blk 1 rfl).cells.off 0) rfl) ?_
    refine LW.pure rfl rfl (RV.fieldAddr Tf25_0 rfl) ?_
    refine LW.pure rfl rfl (RV.load1 Tk22 rfl ((H.blk 0 rfl).cells.off 0) rfl) ?_
    refine LW.go rfl rfl (OW.call Tc67 rfl (ref07_SameInts_ok (a0 := a0.supply) (a1 := a1.supply) (h_a0_supply.ext R0) (h_a1_supply.ext R0) hr1) ?_)
    rintro _ w8 ⟨rfl, E6⟩
    refine ⟨_, rfl, ?_⟩
    replace H := H.grow E6
    replace R0 := H.ext
    refine LW.pure rfl rfl (RV.move rfl) ?_
    refine LW.noB rfl rfl rfl rfl (ne_beq (v := false) hq1 rfl) ?_
    refine LW.noB rfl rfl rfl rfl (ne_beq (v := false) hq1 rfl) ?_
    refine LW.noB rfl rfl rfl rfl (ne_beq (v := false) hq1 rfl) ?_
    refine LW.noB rfl rfl rfl rfl (ne_beq (v := false) hq1 rfl) ?_
    refine LW.noB rfl rfl rfl rfl (ne_beq (v := false) hq1 rfl) ?_
    refine LW.pure rfl rfl (RV.pickFB rfl hq1 rfl) ?_
    refine LW.pure rfl rfl (RV.move rfl) ?_
    refine LW.noB rfl rfl rfl rfl (ne_beq (v := false) rfl rfl) ?_
    refine LW.noB rfl rfl rfl rfl (ne_beq (v := false) rfl rfl) ?_
    refine LW.noB rfl rfl rfl rfl (ne_beq (v := false) rfl rfl) ?_
    refine LW.noB rfl rfl rfl rfl (ne_beq (v := false) rfl rfl) ?_
    refine LW.noB rfl rfl rfl rfl (ne_beq (v := false) rfl rfl) ?_
    refine LW.pure rfl rfl (RV.pickFB rfl rfl rfl) ?_
    refine LW.pure rfl rfl (RV.assign rfl) ?_
    refine LW.nil (hK2 _ _ ?_)
    refine CW.ret ?_
    obtain rfl := Option.some.inj F
    refine ⟨_, (ResOK.one rfl), ?_⟩
    refine ⟨(by first | rfl | simp), R0⟩
set_option maxRecDepth 20000 in
set_option maxHeartbeats 1000000 in
theorem law07_BulkTolls_ok {a0 : Trade} {a1 : Int} {a2 : Int} {A_a0_supply : Option Addr} {c_a0_supply : Nat} {A_a0_demand : Option Addr} {c_a0_demand : Nat} {A_a0_cost : Option Addr} {c_a0_cost : Nat} {w : World} {res : Bool} (h_a0_supply : Sl w A_a0_supply c_a0_supply 1 (a0.supply.map encN)) (h_a0_demand : Sl w A_a0_demand c_a0_demand 1 (a0.demand.map encN)) (h_a0_cost : Sl2 w A_a0_cost c_a0_cost 1 encN a0.cost) (F : law07_BulkTolls a0 a1 a2 = some res) : Calls Try.prog 6 #[.agg #[.slice A_a0_supply a0.supply.length c_a0_supply, .slice A_a0_demand a0.demand.length c_a0_demand, .slice A_a0_cost a0.cost.length c_a0_cost], .int .i64 a1, .int .i64 a2] w (Rt w (.bool res)) := by
  refine calls_of_cw (args := [.agg #[.slice A_a0_supply a0.supply.length c_a0_supply, .slice A_a0_demand a0.demand.length c_a0_demand, .slice A_a0_cost a0.cost.length c_a0_cost], .int .i64 a1, .int .i64 a2]) Try.func6 rfl rfl rfl rfl ?_
  have H := Hp.start w
  have R0 := H.ext
  unfold law07_BulkTolls at F
  refine CW.seq fun K1 hK1 => ?_
  refine CW.region ?_
  refine LW.go rfl rfl (OW.box rfl fun b1 w1 N1 => ?_)
  replace H := H.new N1 N1.blk
  replace R0 := H.ext
  refine LW.pure rfl rfl (RV.assign rfl) ?_
  refine LW.nil (hK1 _ _ ?_)
  refine CW.seq fun K2 hK2 => ?_
  refine CW.seq fun K3 hK3 => ?_
  obtain ⟨r6, hr6, F⟩ := bnd_some F
  refine CW.region ?_
  refine LW.pure rfl rfl (RV.loadA [.slice A_a0_supply a0.supply.length c_a0_supply, .slice A_a0_demand a0.demand.length c_a0_demand, .slice A_a0_cost a0.cost.length c_a0_cost] Tk25 rfl (H.blk 0 rfl).cells rfl rfl) ?_
  refine LW.go rfl rfl (OW.call Tc17 rfl (law07_Long_ok (a0 := a0) (a1 := ([] : List (List (List Int)))) (h_a0_supply.ext R0) (h_a0_demand.ext R0) (h_a0_cost.ext R0) (Sl3.nil_) hr6) ?_)
  rintro _ w2 ⟨rfl, E1⟩
  refine ⟨_, rfl, ?_⟩
  replace H := H.grow E1
  replace R0 := H.ext
  refine LW.nil (hK3 _ _ ?_)
  by_cases hp1 : r6 = true
  ·
    replace F := ite_y hp1 F
    have hq1 : r6 = true := hp1
    refine CW.condT rfl hq1 ?_
    refine CW.seq fun K4 hK4 => ?_
    obtain ⟨r7, hr7, F⟩ := bnd_some F
    refine CW.region ?_
    refine LW.go rfl rfl (OW.call Tc18 rfl (law07_sane_ok hr7) ?_)
    rintro _ w3 ⟨rfl, E2⟩
    refine ⟨_, rfl, ?_⟩
    replace H := H.grow E2
    replace R0 := H.ext
    refine LW.pure rfl rfl (RV.assign rfl) ?_
    refine LW.nil (hK4 _ _ ?_)
    refine CW.ret ?_
    obtain rfl := Option.some.inj F
    refine ⟨_, (ResOK.one rfl), ?_⟩
    refine ⟨(by first | rfl | simp), R0⟩
  ·
    replace F := ite_n hp1 F
    have hq1 : r6 = false := raw_f hp1
    refine CW.condF rfl hq1 ?_
    refine CW.skip (hK2 _ _ ?_)
    refine CW.seq fun K5 hK5 => ?_
    obtain ⟨r1, hr1, F⟩ := bnd_some F
    refine CW.region ?_
    refine LW.pure rfl rfl (RV.loadA [.slice A_a0_supply a0.supply.length c_a0_supply, .slice A_a0_demand a0.demand.length c_a0_demand, .slice A_a0_cost a0.cost.length c_a0_cost] Tk25 rfl (H.blk 0 rfl).cells rfl rfl) ?_
    refine LW.pure rfl rfl (RV.move rfl) ?_
    refine LW.pure rfl rfl (RV.move rfl) ?_
    refine LW.go rfl rfl (OW.call Tc28 rfl (bulk_Toll_ok (a0 := a0) (a1 := a1) (a2 := a2) (h_a0_supply.ext R0) (h_a0_demand.ext R0) (h_a0_cost.ext R0) hr1) ?_)
    rintro _ w4 ⟨A16_0_supply, c16_0_supply, A16_0_demand, c16_0_demand, A16_0_cost, c16_0_cost, hs16_0_cost, rfl, E3⟩
    refine ⟨_, rfl, ?_⟩
    replace H : Hp w w4 [.own A16_0_supply c16_0_supply 3 1 (List.map encN r1.1.supply), .own A16_0_demand c16_0_demand 3 1 (List.map encN r1.1.demand), .tab A16_0_cost c16_0_cost 22 hs16_0_cost 3 1 (encM encN r1.1.cost), .blk b1 25 [.slice A_a0_supply a0.supply.length c_a0_supply, .slice A_a0_demand a0.demand.length c_a0_demand, .slice A_a0_cost a0.cost.length c_a0_cost]] := H.append E3
    replace R0 := H.ext
    refine LW.pure rfl rfl (RV.move rfl) ?_
    refine LW.pure rfl rfl (RV.extract rfl rfl) ?_
    refine LW.pure rfl rfl (RV.extract rfl rfl) ?_
    refine LW.go rfl rfl (OW.alloc Tz25 fun b2 w5 N2 => ?_)
    replace H := H.new N2 N2.blk
    replace R0 := H.ext
    refine LW.go rfl rfl (OW.store Tk25 rfl rfl (H.blk 0 rfl) (off := 0) (vs := [.slice A16_0_supply r1.1.supply.length c16_0_supply, .slice A16_0_demand r1.1.demand.length c16_0_demand, .slice A16_0_cost r1.1.cost.length c16_0_cost]) rfl rfl rfl rfl rfl fun w6 S1 => ?_)
    replace H : Hp w w6 [.blk b2 25 [.slice A16_0_supply r1.1.supply.length c16_0_supply, .slice A16_0_demand r1.1.demand.length c16_0_demand, .slice A16_0_cost r1.1.cost.length c16_0_cost], .own A16_0_supply c16_0_supply 3 1 (List.map encN r1.1.supply), .own A16_0_demand c16_0_demand 3 1 (List.map encN r1.1.demand), .tab A16_0_cost c16_0_cost 22 hs16_0_cost 3 1 (encM encN r1.1.cost), .blk b1 25 [.slice A_a0_supply a0.supply.length c_a0_supply, .slice A_a0_demand a0.demand.length c_a0_demand, .slice A_a0_cost a0.cost.length c_a0_cost]] := H.stored 0 rfl S1
    replace R0 := H.ext
    refine LW.pure rfl rfl (RV.assign rfl) ?_
    refine LW.nil (hK5 _ _ ?_)
    refine CW.seq fun K6 hK6 => ?_
    obtain ⟨r8, hr8, F⟩ := bnd_some F
    refine CW.region ?_
    refine LW.pure rfl rfl (RV.loadA [.slice A_a0_supply a0.supply.length c_a0_supply, .slice A_a0_demand a0.demand.length c_a0_demand, .slice A_a0_cost a0.cost.length c_a0_cost] Tk25 rfl (H.blk 4 rfl).cells rfl rfl) ?_
    refine LW.pure rfl rfl (RV.move rfl) ?_
    refine LW.pure rfl rfl (RV.move rfl) ?_
    refine LW.go rfl rfl (OW.call Tc29 rfl (ref07_Toll_ok (a0 := a0) (a1 := a1) (a2 := a2) (h_a0_supply.ext R0) (h_a0_demand.ext R0) (h_a0_cost.ext R0) hr8) ?_)
    rintro _ w7 ⟨A18_0_supply, c18_0_supply, A18_0_demand, c18_0_demand, A18_0_cost, c18_0_cost, hs18_0_cost, rfl, E4⟩
    refine ⟨_, rfl, ?_⟩
    replace H : Hp w w7 [.own A18_0_supply c18_0_supply 3 1 (List.map encN r8.1.supply), .own A18_0_demand c18_0_demand 3 1 (List.map encN r8.1.demand), .tab A18_0_cost c18_0_cost 22 hs18_0_cost 3 1 (encM encN r8.1.cost), .blk b2 25 [.slice A16_0_supply r1.1.supply.length c16_0_supply, .slice A16_0_demand r1.1.demand.length c16_0_demand, .slice A16_0_cost r1.1.cost.length c16_0_cost], .own A16_0_supply c16_0_supply 3 1 (List.map encN r1.1.supply), .own A16_0_demand c16_0_demand 3 1 (List.map encN r1.1.demand), .tab A16_0_cost c16_0_cost 22 hs16_0_cost 3 1 (encM encN r1.1.cost), .blk b1 25 [.slice A_a0_supply a0.supply.length c_a0_supply, .slice A_a0_demand a0.demand.length c_a0_demand, .slice A_a0_cost a0.cost.length c_a0_cost]] := H.append E4
    replace R0 := H.ext
    refine LW.pure rfl rfl (RV.move rfl) ?_
    refine LW.pure rfl rfl (RV.extract rfl rfl) ?_
    refine LW.pure rfl rfl (RV.extract rfl rfl) ?_
    refine LW.go rfl rfl (OW.alloc Tz25 fun b3 w8 N3 => ?_)
    replace H := H.new N3 N3.blk
    replace R0 := H.ext
    refine LW.go rfl rfl (OW.store Tk25 rfl rfl (H.blk 0 rfl) (off := 0) (vs := [.slice A18_0_supply r8.1.supply.length c18_0_supply, .slice A18_0_demand r8.1.demand.length c18_0_demand, .slice A18_0_cost r8.1.cost.length c18_0_cost]) rfl rfl rfl rfl rfl fun w9 S2 => ?_)
    replace H : Hp w w9 [.blk b3 25 [.slice A18_0_supply r8.1.supply.length c18_0_supply, .slice A18_0_demand r8.1.demand.length c18_0_demand, .slice A18_0_cost r8.1.cost.length c18_0_cost], .own A18_0_supply c18_0_supply 3 1 (List.map encN r8.1.supply), .own A18_0_demand c18_0_demand 3 1 (List.map encN r8.1.demand), .tab A18_0_cost c18_0_cost 22 hs18_0_cost 3 1 (encM encN r8.1.cost), .blk b2 25 [.slice A16_0_supply r1.1.supply.length c16_0_supply, .slice A16_0_demand r1.1.demand.length c16_0_demand, .slice A16_0_cost r1.1.cost.length c16_0_cost], .own A16_0_supply c16_0_supply 3 1 (List.map encN r1.1.supply), .own A16_0_demand c16_0_demand 3 1 (List.map encN r1.1.demand), .tab A16_0_cost c16_0_cost 22 hs16_0_cost 3 1 (encM encN r1.1.cost), .blk b1 25 [.slice A_a0_supply a0.supply.length c_a0_supply, .slice A_a0_demand a0.demand.length c_a0_demand, .slice A_a0_cost a0.cost.length c_a0_cost]] := H.stored 0 rfl S2
    replace R0 := H.ext
    refine LW.pure rfl rfl (RV.assign rfl) ?_
    refine LW.nil (hK6 _ _ ?_)
    refine CW.seq fun K7 hK7 => ?_
    refine CW.seqJ (fun ρ wl1 => (∃ (t40_1 : Bool), law07_BulkTolls_k1 a0 a1 a2 r1 t40_1 = some res ∧ ρ = [(1, .int .i64 a1), (2, .int .i64 a2), (3, .pointer (some (⟨b1, 0, none⟩))), (6, .bool false), (7, .pointer (some (⟨b2, 0, none⟩))), (8, .int .i64 r1.2), (40, .bool t40_1)] ∧ Hp w wl1 [.own A16_0_supply c16_0_supply 3 1 (List.map encN r1.1.supply), .own A16_0_demand c16_0_demand 3 1 (List.map encN r1.1.demand), .tab A16_0_cost c16_0_cost 22 hs16_0_cost 3 1 (encM encN r1.1.cost), .blk b1 25 [.slice A_a0_supply a0.supply.length c_a0_supply, .slice A_a0_demand a0.demand.length c_a0_demand, .slice A_a0_cost a0.cost.length c_a0_cost], .blk b2 25 [.slice A16_0_supply r1.1.supply.length c16_0_supply, .slice A16_0_demand r1.1.demand.length c16_0_demand, .slice A16_0_cost r1.1.cost.length c16_0_cost]])) ?_ ?_
    ·
      rintro _ wl1 ⟨t40_1, F, rfl, H⟩
      have R0 := H.ext
      unfold law07_BulkTolls_k1 at F
      by_cases hp2 : t40_1 = true
      ·
        replace F := ite_y hp2 F
        have hq2 : t40_1 = true := hp2
        refine CW.condT rfl hq2 ?_
        refine CW.seq fun K8 hK8 => ?_
        refine CW.region ?_
        refine LW.pure rfl rfl (RV.assign rfl) ?_
        refine LW.nil (hK8 _ _ ?_)
        refine CW.ret ?_
        obtain rfl := Option.some.inj F
        refine ⟨_, (ResOK.one rfl), ?_⟩
        refine ⟨(by first | rfl | simp), R0⟩
      ·
        replace F := ite_n hp2 F
        have hq2 : t40_1 = false := raw_f hp2
        refine CW.condF rfl hq2 ?_
        refine CW.skip (hK7 _ _ ?_)
        refine CW.seq fun K9 hK9 => ?_
        refine CW.seq fun K10 hK10 => ?_
        refine CW.region ?_
        refine LW.pure rfl rfl (RV.move rfl) ?_
        refine LW.pure rfl rfl (RV.nei rfl rfl) ?_
        refine LW.nil (hK10 _ _ ?_)
        by_cases hp3 : r1.2 = 0
        ·
          replace F := ite_y hp3 F
          have hq3 := dec_t hp3
          refine CW.condF rfl (not_f hq3) ?_
          refine CW.skip (hK9 _ _ ?_)
          refine CW.seq fun K11 hK11 => ?_
          obtain ⟨r2, hr2, F⟩ := bnd_some F
          refine CW.region ?_
          refine LW.pure rfl rfl (RV.loadA [.slice A16_0_supply r1.1.supply.length c16_0_supply, .slice A16_0_demand r1.1.demand.length c16_0_demand, .slice A16_0_cost r1.1.cost.length c16_0_cost] Tk25 rfl (H.blk 4 rfl).cells rfl rfl) ?_
          refine LW.go rfl rfl (OW.call Tc21 rfl (bulk_Least_ok (a0 := r1.1) (H.own 0 rfl).sl (H.own 1 rfl).sl (H.tab 2 rfl).sl2 hr2) ?_)
          rintro _ w10 ⟨rfl, E5⟩
          refine ⟨_, rfl, ?_⟩
          replace H := H.grow E5
          replace R0 := H.ext
          refine LW.pure rfl rfl (RV.move rfl) ?_
          refine LW.pure rfl rfl (RV.extract rfl rfl) ?_
          refine LW.pure rfl rfl (RV.extract rfl rfl) ?_
          refine LW.pure rfl rfl (RV.assign rfl) ?_
          refine LW.pure rfl rfl (RV.assign rfl) ?_
          refine LW.nil (hK11 _ _ ?_)
          refine CW.seq fun K12 hK12 => ?_
          obtain ⟨r3, hr3, F⟩ := bnd_some F
          refine CW.region ?_
          refine LW.pure rfl rfl (RV.loadA [.slice A_a0_supply a0.supply.length c_a0_supply, .slice A_a0_demand a0.demand.length c_a0_demand, .slice A_a0_cost a0.cost.length c_a0_cost] Tk25 rfl (H.blk 3 rfl).cells rfl rfl) ?_
          refine LW.go rfl rfl (OW.call Tc21 rfl (bulk_Least_ok (a0 := a0) (h_a0_supply.ext R0) (h_a0_demand.ext R0) (h_a0_cost.ext R0) hr3) ?_)
          rintro _ w11 ⟨rfl, E6⟩
          refine ⟨_, rfl, ?_⟩
          replace H := H.grow E6
          replace R0 := H.ext
          refine LW.pure rfl rfl (RV.move rfl) ?_
          refine LW.pure rfl rfl (RV.extract rfl rfl) ?_
          refine LW.pure rfl rfl (RV.extract rfl rfl) ?_
          refine LW.pure rfl rfl (RV.assign rfl) ?_
          refine LW.pure rfl rfl (RV.assign rfl) ?_
          refine LW.nil (hK12 _ _ ?_)
          refine CW.seq fun K13 hK13 => ?_
          by_cases hp4 : r2.2 = 0
          ·
            replace F := ite_y hp4 F
            have hq4 := dec_t hp4
            by_cases hp5 : r3.2 = 0
            ·
              replace F := ite_y hp5 F
              have hq5 := dec_t hp5
              obtain ⟨x1, hbx1, hx1, F⟩ := ix_some F
              obtain ⟨hg1, F⟩ := gd_some F
              obtain ⟨hg2, F⟩ := gd_some F
              by_cases hp6 : r2.1 = (r3.1 + (a2 * x1))
              ·
                replace F := ite_y hp6 F
                have hq6 := dec_t hp6
                obtain ⟨r4, hr4, F⟩ := bnd_some F
                refine CW.region ?_
                refine LW.pure rfl rfl (RV.move rfl) ?_
                refine LW.pure rfl rfl (RV.eqi rfl rfl) ?_
                refine LW.pure rfl rfl (RV.move rfl) ?_
                refine LW.pureYB rfl rfl rfl rfl hq4 (RV.move rfl) ?_
                refine LW.pureYB rfl rfl rfl rfl hq4 (RV.eqi rfl rfl) ?_
                refine LW.pure rfl rfl (RV.pickTB rfl hq4 rfl) ?_
                refine LW.pure rfl rfl (RV.move rfl) ?_
                refine LW.pureYB rfl rfl rfl rfl hq5 (RV.move rfl) ?_
                refine LW.pureYB rfl rfl rfl rfl hq5 (RV.move rfl) ?_
                refine LW.pureYB rfl rfl rfl rfl hq5 (RV.move rfl) ?_
                refine LW.pureYB rfl rfl rfl rfl hq5 (RV.fieldAddr Tf25_0 rfl) ?_
                refine LW.pureYB rfl rfl rfl rfl hq5 (RV.load1 Tk22 rfl ((H.blk 3 rfl).cells.off 0) rfl) ?_
                refine LW.pureYB rfl rfl rfl rfl hq5 (RV.move rfl) ?_
                refine LW.pureYB rfl rfl rfl rfl hq5 (RV.indexAddr Ts22 rfl rfl hbx1 (h_a0_supply.addr_ hx1)) ?_
                refine LW.pureYB rfl rfl rfl rfl hq5 (RV.load1 Tk3 rfl ((h_a0_supply.at_ hx1).ext R0) rfl) ?_
                refine LW.pureYB rfl rfl rfl rfl hq5 (RV.mul rfl rfl hg1) ?_
                refine LW.pureYB rfl rfl rfl rfl hq5 (RV.add rfl rfl hg2) ?_
                refine LW.pureYB rfl rfl rfl rfl hq5 (RV.eqi rfl rfl) ?_
                refine LW.pure rfl rfl (RV.pickTB rfl hq5 rfl) ?_
                refine LW.pure rfl rfl (RV.move rfl) ?_
                refine LW.yesB rfl rfl rfl rfl hq6 (OW.call Tc18 rfl (law07_sane_ok hr4) ?_)
                rintro _ w12 ⟨rfl, E7⟩
                refine ⟨_, rfl, ?_⟩
                replace H := H.grow E7
                replace R0 := H.ext
                refine LW.pure rfl rfl (RV.pickTB rfl hq6 rfl) ?_
                refine LW.pure rfl rfl (RV.assign rfl) ?_
                refine LW.nil (hK13 _ _ ?_)
                refine CW.ret ?_
                obtain rfl := Option.some.inj F
                refine ⟨_, (ResOK.one rfl), ?_⟩
                refine ⟨(by first | rfl | simp), R0⟩
              ·
                replace F := ite_n hp6 F
                have hq6 := dec_f hp6
                refine CW.region ?_
                refine LW.pure rfl rfl (RV.move rfl) ?_
                refine LW.pure rfl rfl (RV.eqi rfl rfl) ?_
                refine LW.pure rfl rfl (RV.move rfl) ?_
                refine LW.pureYB rfl rfl rfl rfl hq4 (RV.move rfl) ?_
                refine LW.pureYB rfl rfl rfl rfl hq4 (RV.eqi rfl rfl) ?_
                refine LW.pure rfl rfl (RV.pickTB rfl hq4 rfl) ?_
                refine LW.pure rfl rfl (RV.move rfl) ?_
                refine LW.pureYB rfl rfl rfl rfl hq5 (RV.move rfl) ?_
                refine LW.pureYB rfl rfl rfl rfl hq5 (RV.move rfl) ?_
                refine LW.pureYB rfl rfl rfl rfl hq5 (RV.move rfl) ?_
                refine LW.pureYB rfl rfl rfl rfl hq5 (RV.fieldAddr Tf25_0 rfl) ?_
                refine LW.pureYB rfl rfl rfl rfl hq5 (RV.load1 Tk22 rfl ((H.blk 3 rfl).cells.off 0) rfl) ?_
                refine LW.pureYB rfl rfl rfl rfl hq5 (RV.move rfl) ?_
                refine LW.pureYB rfl rfl rfl rfl hq5 (RV.indexAddr Ts22 rfl rfl hbx1 (h_a0_supply.addr_ hx1)) ?_
                refine LW.pureYB rfl rfl rfl rfl hq5 (RV.load1 Tk3 rfl ((h_a0_supply.at_ hx1).ext R0) rfl) ?_
                refine LW.pureYB rfl rfl rfl rfl hq5 (RV.mul rfl rfl hg1) ?_
                refine LW.pureYB rfl rfl rfl rfl hq5 (RV.add rfl rfl hg2) ?_
                refine LW.pureYB rfl rfl rfl rfl hq5 (RV.eqi rfl rfl) ?_
                refine LW.pure rfl rfl (RV.pickTB rfl hq5 rfl) ?_
                refine LW.pure rfl rfl (RV.move rfl) ?_
                refine LW.noB rfl rfl rfl rfl (ne_beq (v := false) hq6 rfl) ?_
                refine LW.pure rfl rfl (RV.pickFB rfl hq6 rfl) ?_
                refine LW.pure rfl rfl (RV.assign rfl) ?_
                refine LW.nil (hK13 _ _ ?_)
                refine CW.ret ?_
                obtain rfl := Option.some.inj F
                refine ⟨_, (ResOK.one rfl), ?_⟩
                refine ⟨(by first | rfl | simp), R0⟩
            ·
              replace F := ite_n hp5 F
              have hq5 := dec_f hp5
              refine CW.region ?_
              refine LW.pure rfl rfl (RV.move rfl) ?_
              refine LW.pure rfl rfl (RV.eqi rfl rfl) ?_
              refine LW.pure rfl rfl (RV.move rfl) ?_
              refine LW.pureYB rfl rfl rfl rfl hq4 (RV.move rfl) ?_
              refine LW.pureYB rfl rfl rfl rfl hq4 (RV.eqi rfl rfl) ?_
              refine LW.pure rfl rfl (RV.pickTB rfl hq4 rfl) ?_
              refine LW.pure rfl rfl (RV.move rfl) ?_
              refine LW.noB rfl rfl rfl rfl (ne_beq (v := false) hq5 rfl) ?_
              refine LW.noB rfl rfl rfl rfl (ne_beq (v := false) hq5 rfl) ?_
              refine LW.noB rfl rfl rfl rfl (ne_beq (v := false) hq5 rfl) ?_
              refine LW.noB rfl rfl rfl rfl (ne_beq (v := false) hq5 rfl) ?_
              refine LW.noB rfl rfl rfl rfl (ne_beq (v := false) hq5 rfl) ?_
              refine LW.noB rfl rfl rfl rfl (ne_beq (v := false) hq5 rfl) ?_
              refine LW.noB rfl rfl rfl rfl (ne_beq (v := false) hq5 rfl) ?_
              refine LW.noB rfl rfl rfl rfl (ne_beq (v := false) hq5 rfl) ?_
              refine LW.noB rfl rfl rfl rfl (ne_beq (v := false) hq5 rfl) ?_
              refine LW.noB rfl rfl rfl rfl (ne_beq (v := false) hq5 rfl) ?_
              refine LW.noB rfl rfl rfl rfl (ne_beq (v := false) hq5 rfl) ?_
              refine LW.pure rfl rfl (RV.pickFB rfl hq5 rfl) ?_
              refine LW.pure rfl rfl (RV.move rfl) ?_
              refine LW.noB rfl rfl rfl rfl (ne_beq (v := false) rfl rfl) ?_
              refine LW.pure rfl rfl (RV.pickFB rfl rfl rfl) ?_
              refine LW.pure rfl rfl (RV.assign rfl) ?_
              refine LW.nil (hK13 _ _ ?_)
              refine CW.ret ?_
              obtain rfl := Option.some.inj F
              refine ⟨_, (ResOK.one rfl), ?_⟩
              refine ⟨(by first | rfl | simp), R0⟩
          ·
            replace F := ite_n hp4 F
            have hq4 := dec_f hp4
            refine CW.region ?_
            refine LW.pure rfl rfl (RV.move rfl) ?_
            refine LW.pure rfl rfl (RV.eqi rfl rfl) ?_
            refine LW.pure rfl rfl (RV.move rfl) ?_
            refine LW.noB rfl rfl rfl rfl (ne_beq (v := false) hq4 rfl) ?_
            refine LW.noB rfl rfl rfl rfl (ne_beq (v := false) hq4 rfl) ?_
            refine LW.pure rfl rfl (RV.pickFB rfl hq4 rfl) ?_
            refine LW.pure rfl rfl (RV.move rfl) ?_
            refine LW.noB rfl rfl rfl rfl (ne_beq (v := false) rfl rfl) ?_
            refine LW.noB rfl rfl rfl rfl (ne_beq (v := false) rfl rfl) ?_
            refine LW.noB rfl rfl rfl rfl (ne_beq (v := false) rfl rfl) ?_
            refine LW.noB rfl rfl rfl rfl (ne_beq (v := false) rfl rfl) ?_
            refine LW.noB rfl rfl rfl rfl (ne_beq (v := false) rfl rfl) ?_
            refine LW.noB rfl rfl rfl rfl (ne_beq (v := false) rfl rfl) ?_
            refine LW.noB rfl rfl rfl rfl (ne_beq (v := false) rfl rfl) ?_
            refine LW.noB rfl rfl rfl rfl (ne_beq (v := false) rfl rfl) ?_
            refine LW.noB rfl rfl rfl rfl (ne_beq (v := false) rfl rfl) ?_
            refine LW.noB rfl rfl rfl rfl (ne_beq (v := false) rfl rfl) ?_
            refine LW.noB rfl rfl rfl rfl (ne_beq (v := false) rfl rfl) ?_
            refine LW.pure rfl rfl (RV.pickFB rfl rfl rfl) ?_
            refine LW.pure rfl rfl (RV.move rfl) ?_
            refine LW.noB rfl rfl rfl rfl (ne_beq (v := false) rfl rfl) ?_
            refine LW.pure rfl rfl (RV.pickFB rfl rfl rfl) ?_
            refine LW.pure rfl rfl (RV.assign rfl) ?_
            refine LW.nil (hK13 _ _ ?_)
            refine CW.ret ?_
            obtain rfl := Option.some.inj F
            refine ⟨_, (ResOK.one rfl), ?_⟩
            refine ⟨(by first | rfl | simp), R0⟩
        ·
          replace F := ite_n hp3 F
          have hq3 := dec_f hp3
          refine CW.condT rfl (not_t hq3) ?_
          refine CW.seq fun K14 hK14 => ?_
          obtain ⟨r5, hr5, F⟩ := bnd_some F
          refine CW.region ?_
          refine LW.go rfl rfl (OW.call Tc18 rfl (law07_sane_ok hr5) ?_)
          rintro _ w13 ⟨rfl, E8⟩
          refine ⟨_, rfl, ?_⟩
          replace H := H.grow E8
          replace R0 := H.ext
          refine LW.pure rfl rfl (RV.assign rfl) ?_
          refine LW.nil (hK14 _ _ ?_)
          refine CW.ret ?_
          obtain rfl := Option.some.inj F
          refine ⟨_, (ResOK.one rfl), ?_⟩
          refine ⟨(by first | rfl | simp), R0⟩
    ·
      intro K15 hK15 jK30
      obtain ⟨r9, hr9, F⟩ := bnd_some F
      by_cases hp7 : r9 = true
      ·
        replace F := ite_y hp7 F
        have hq7 : r9 = true := hp7
        refine CW.region ?_
        refine LW.pure rfl rfl (RV.loadA [.slice A16_0_supply r1.1.supply.length c16_0_supply, .slice A16_0_demand r1.1.demand.length c16_0_demand, .slice A16_0_cost r1.1.cost.length c16_0_cost] Tk25 rfl (H.blk 4 rfl).cells rfl rfl) ?_
        refine LW.pure rfl rfl (RV.loadA [.slice A18_0_supply r8.1.supply.length c18_0_supply, .slice A18_0_demand r8.1.demand.length c18_0_demand, .slice A18_0_cost r8.1.cost.length c18_0_cost] Tk25 rfl (H.blk 0 rfl).cells rfl rfl) ?_
        refine LW.go rfl rfl (OW.call Tc30 rfl (ref07_Same_ok (a0 := r1.1) (a1 := r8.1) (H.own 5 rfl).sl (H.own 6 rfl).sl (H.tab 7 rfl).sl2 (H.own 1 rfl).sl (H.own 2 rfl).sl (H.tab 3 rfl).sl2 hr9) ?_)
        rintro _ w14 ⟨rfl, E9⟩
        refine ⟨_, rfl, ?_⟩
        replace H := H.grow E9
        replace R0 := H.ext
        refine LW.pure rfl rfl (RV.not rfl) ?_
        refine LW.pure rfl rfl (RV.move rfl) ?_
        refine LW.pureYB rfl rfl rfl rfl (not_f hq7) (RV.move rfl) ?_
        refine LW.pureYB rfl rfl rfl rfl (not_f hq7) (RV.move rfl) ?_
        refine LW.pureYB rfl rfl rfl rfl (not_f hq7) (RV.nei rfl rfl) ?_
        refine LW.pure rfl rfl (RV.pickFB rfl (not_f hq7) rfl) ?_
        replace H := H.pick (L' := [.own A16_0_supply c16_0_supply 3 1 (List.map encN r1.1.supply), .own A16_0_demand c16_0_demand 3 1 (List.map encN r1.1.demand), .tab A16_0_cost c16_0_cost 22 hs16_0_cost 3 1 (encM encN r1.1.cost), .blk b1 25 [.slice A_a0_supply a0.supply.length c_a0_supply, .slice A_a0_demand a0.demand.length c_a0_demand, .slice A_a0_cost a0.cost.length c_a0_cost], .blk b2 25 [.slice A16_0_supply r1.1.supply.length c16_0_supply, .slice A16_0_demand r1.1.demand.length c16_0_demand, .slice A16_0_cost r1.1.cost.length c16_0_cost]]) [5, 6, 7, 8, 4] (by decide) rfl
        replace R0 := H.ext
        refine LW.nil (jK30 _ _ ⟨_, ?_, ⟨(!(decide (r1.2 = r8.2))), F, rfl, H⟩⟩)
        exact ⟨rfl, rfl, rfl, rfl, rfl, rfl, rfl, trivial⟩
      ·
        replace F := ite_n hp7 F
        have hq7 : r9 = false := raw_f hp7
        refine CW.region ?_
        refine LW.pure rfl rfl (RV.loadA [.slice A16_0_supply r1.1.supply.length c16_0_supply, .slice A16_0_demand r1.1.demand.length c16_0_demand, .slice A16_0_cost r1.1.cost.length c16_0_cost] Tk25 rfl (H.blk 4 rfl).cells rfl rfl) ?_
        refine LW.pure rfl rfl (RV.loadA [.slice A18_0_supply r8.1.supply.length c18_0_supply, .slice A18_0_demand r8.1.demand.length c18_0_demand, .slice A18_0_cost r8.1.cost.length c18_0_cost] Tk25 rfl (H.blk 0 rfl).cells rfl rfl) ?_
        refine LW.go rfl rfl (OW.call Tc30 rfl (ref07_Same_ok (a0 := r1.1) (a1 := r8.1) (H.own 5 rfl).sl (H.own 6 rfl).sl (H.tab 7 rfl).sl2 (H.own 1 rfl).sl (H.own 2 rfl).sl (H.tab 3 rfl).sl2 hr9) ?_)
        rintro _ w15 ⟨rfl, E10⟩
        refine ⟨_, rfl, ?_⟩
        replace H := H.grow E10
        replace R0 := H.ext
        refine LW.pure rfl rfl (RV.not rfl) ?_
        refine LW.pure rfl rfl (RV.move rfl) ?_
        refine LW.noB rfl rfl rfl rfl (ne_beq (v := true) (not_t hq7) rfl) ?_
        refine LW.noB rfl rfl rfl rfl (ne_beq (v := true) (not_t hq7) rfl) ?_
        refine LW.noB rfl rfl rfl rfl (ne_beq (v := true) (not_t hq7) rfl) ?_
        refine LW.pure rfl rfl (RV.pickTB rfl (not_t hq7) rfl) ?_
        replace H := H.pick (L' := [.own A16_0_supply c16_0_supply 3 1 (List.map encN r1.1.supply), .own A16_0_demand c16_0_demand 3 1 (List.map encN r1.1.demand), .tab A16_0_cost c16_0_cost 22 hs16_0_cost 3 1 (encM encN r1.1.cost), .blk b1 25 [.slice A_a0_supply a0.supply.length c_a0_supply, .slice A_a0_demand a0.demand.length c_a0_demand, .slice A_a0_cost a0.cost.length c_a0_cost], .blk b2 25 [.slice A16_0_supply r1.1.supply.length c16_0_supply, .slice A16_0_demand r1.1.demand.length c16_0_demand, .slice A16_0_cost r1.1.cost.length c16_0_cost]]) [5, 6, 7, 8, 4] (by decide) rfl
        replace R0 := H.ext
        refine LW.nil (jK30 _ _ ⟨_, ?_, ⟨true, F, rfl, H⟩⟩)
        exact ⟨rfl, rfl, rfl, rfl, rfl, rfl, rfl, trivial⟩
end Go.D7

namespace Go.Tb
/-- A loop over 0 .. N - 1 with a state, that is left at the first i for which p does not hold. -/
theorem scan_loop {S R : Type} (N : Nat) (p : Nat → Bool) (g : Nat → S) (L : Nat → S → Int → Option R) (yes : Option R) (no : Nat → Option R)
    (step : ∀ n i : Nat, i < N → L (n + 1) (g i) (i : Int) = if p i = true then L n (g (i + 1)) ((i + 1 : Nat) : Int) else no i)
    (stop : ∀ n : Nat, L (n + 1) (g N) (N : Int) = yes) : ∀ (d n i : Nat), N = i + d → d < n → L n (g i) (i : Int) = match (List.range' i d).find? (fun j => !p j) with | none => yes | some j => no j
  | 0, n + 1, i, hd, hn => by
    have hi : i = N := by omega
    subst hi
    rw [stop n]; rfl
  | d + 1, n + 1, i, hd, hn => by
    rw [step n i (by omega), List.range'_succ, List.find?_cons]
    cases hp : p i
    · simp
    · simp only [if_true, Bool.not_true]
      exact scan_loop N p g L yes no step stop d n (i + 1) (by omega) (by omega)
theorem find_all {p : Nat → Bool} {i d : Nat} : (List.range' i d).find? (fun j => !p j) = none ↔ ∀ j, i ≤ j → j < i + d → p j = true := by
  rw [List.find?_eq_none]
  constructor
  · intro h j h1 h2
    have := h j (by rw [List.mem_range'_1]; omega)
    simpa using this
  · intro h x hx
    rw [List.mem_range'_1] at hx
    simp [h x hx.1 hx.2]
/-- A loop over 0 .. N - 1 with a state and no way out. -/
theorem for_loop {S R : Type} (N : Nat) (g : Nat → S) (L : Nat → S → Int → Option R) (yes : Option R)
    (step : ∀ n i : Nat, i < N → L (n + 1) (g i) (i : Int) = L n (g (i + 1)) ((i + 1 : Nat) : Int))
    (stop : ∀ n : Nat, L (n + 1) (g N) (N : Int) = yes) : ∀ (d n i : Nat), N = i + d → d < n → L n (g i) (i : Int) = yes
  | 0, n + 1, i, hd, hn => by
    have hi : i = N := by omega
    subst hi
    exact stop n
  | d + 1, n + 1, i, hd, hn => by
    rw [step n i (by omega)]
    exact for_loop N g L yes step stop d n (i + 1) (by omega) (by omega)
theorem for_loop0 {S R : Type} (N : Nat) (g : Nat → S) (L : Nat → S → Int → Option R) (yes : Option R)
    (step : ∀ n i : Nat, i < N → L (n + 1) (g i) (i : Int) = L n (g (i + 1)) ((i + 1 : Nat) : Int))
    (stop : ∀ n : Nat, L (n + 1) (g N) (N : Int) = yes) (hN : N ≤ 9223372036854775807) : L FU (g 0) 0 = yes :=
  for_loop N g L yes step stop N FU 0 (by omega) (by have := FU_pos; omega)
theorem scan_loop0 {S R : Type} (N : Nat) (p : Nat → Bool) (g : Nat → S) (L : Nat → S → Int → Option R) (yes no : Option R)
    (step : ∀ n i : Nat, i < N → L (n + 1) (g i) (i : Int) = if p i = true then L n (g (i + 1)) ((i + 1 : Nat) : Int) else no)
    (stop : ∀ n : Nat, L (n + 1) (g N) (N : Int) = yes) (hN : N ≤ 9223372036854775807) : L FU (g 0) 0 = if (∀ j, j < N → p j = true) then yes else no := by
  have h := scan_loop N p g L yes (fun _ => no) step stop N FU 0 (by omega) (by have := FU_pos; omega)
  refine Eq.trans h ?_
  cases hf : (List.range' 0 N).find? (fun j => !p j) with
  | none => rw [if_pos (fun j hj => find_all.1 hf j (by omega) (by omega))]
  | some j =>
    have h1 := List.find?_some hf
    have h2 := List.mem_of_find?_eq_some hf
    rw [List.mem_range'_1] at h2
    rw [if_neg]
    intro hall
    have := hall j (by omega)
    simp [this] at h1
/-- The same over the elements of a list. -/
theorem list_loop0 {α R : Type} (l : List α) (p : α → Bool) (L : Nat → Int → Option R) (yes no : Option R)
    (step : ∀ (n i : Nat) (x : α), l[i]? = some x → L (n + 1) (i : Int) = if p x = true then L n ((i + 1 : Nat) : Int) else no)
    (stop : ∀ n : Nat, L (n + 1) (l.length : Int) = yes) (hl : l.length ≤ 9223372036854775807) : L FU 0 = if l.all p = true then yes else no := by
  have h := scan_loop0 l.length (fun i => (l[i]?.map p).getD true) (fun _ => ()) (fun n _ i => L n i) yes no (fun n i hi => by
    have hx : l[i]? = some l[i] := by simp [hi]
    rw [step n i _ hx]; simp [hx]) stop hl
  refine Eq.trans h ?_
  by_cases ha : l.all p = true
  · rw [if_pos ha, if_pos]
    intro j hj
    have := List.all_eq_true.1 ha l[j] (List.getElem_mem hj)
    simp [hj, this]
  · rw [if_neg ha, if_neg]
    intro hc
    refine ha (List.all_eq_true.2 fun x hx => ?_)
    obtain ⟨j, hj⟩ := List.getElem?_of_mem hx
    have := hc j (lt_of_at hj)
    simpa [hj] using this
end Go.Tb

set_option linter.unusedVariables false
set_option linter.unusedSimpArgs false
namespace Go.D7
open Go.Tb
theorem ix0 {α β : Type} {l : List α} {k : α → Option β} {x : α} (h : l[0]? = some x) : ix l 0 k = k x := ix_nat (i := 0) h
theorem for0 {S R : Type} (N : Nat) (g : Nat → S) (L : Nat → S → Int → Option R) (yes : Option R) {s0 : S} (h0 : g 0 = s0)
    (step : ∀ n i : Nat, i < N → L (n + 1) (g i) (i : Int) = L n (g (i + 1)) ((i + 1 : Nat) : Int))
    (stop : ∀ n : Nat, L (n + 1) (g N) (N : Int) = yes) (hN : N ≤ 9223372036854775807) : L FU s0 0 = yes := by
  rw [← h0]; exact for_loop0 N g L yes step stop hN
def gi (l : List Int) (i : Nat) : Int := l.getD i 0
theorem gi_at {l : List Int} {i : Nat} (h : i < l.length) : l[i]? = some (gi l i) := by simp [gi, List.getD, h]
theorem gi_of {l : List Int} {i : Nat} {x : Int} (h : l[i]? = some x) : gi l i = x := by simp [gi, List.getD, h]
def gr (l : List (List Int)) (i : Nat) : List Int := l.getD i []
theorem gr_at {l : List (List Int)} {i : Nat} (h : i < l.length) : l[i]? = some (gr l i) := by simp [gr, List.getD, h]
theorem gr_of {l : List (List Int)} {i : Nat} {x : List Int} (h : l[i]? = some x) : gr l i = x := by simp [gr, List.getD, h]
def within (n lo hi : Int) : Bool := decide (lo ≤ n) && decide (n ≤ hi)
theorem within_iff {n lo hi : Int} : within n lo hi = true ↔ lo ≤ n ∧ n ≤ hi := by unfold within; simp
theorem bwithin_eq (n lo hi : Int) : bulk_within n lo hi = some (within n lo hi) := by
  unfold bulk_within within
  by_cases h : lo ≤ n <;> simp [h]
theorem rwithin_eq (n lo hi : Int) : ref07_within n lo hi = some (within n lo hi) := by
  unfold ref07_within within
  by_cases h : lo ≤ n <;> simp [h]
theorem sane_eq : law07_sane = some true := by decide +kernel
def tot : List Int → Int
  | [] => 0
  | x :: r => x + tot r
theorem tot_append : ∀ a b : List Int, tot (a ++ b) = tot a + tot b
  | [], b => by simp [tot]
  | x :: a, b => by simp only [List.cons_append, tot, tot_append a b]; omega
theorem tot_take {l : List Int} {i : Nat} (h : i < l.length) : tot (l.take (i + 1)) = tot (l.take i) + gi l i := by
  rw [List.take_add_one, gi_at h, tot_append]
  simp [tot]
theorem tot_bnd {M : Int} (hM : 0 ≤ M) : ∀ l : List Int, (∀ x ∈ l, 0 ≤ x ∧ x ≤ M) → 0 ≤ tot l ∧ tot l ≤ M * (l.length : Int)
  | [], _ => by simp [tot]
  | x :: r, h => by
    have ih := tot_bnd hM r (fun y hy => h y (List.mem_cons_of_mem _ hy))
    have hx := h x (List.mem_cons_self ..)
    have e : ((List.length (x :: r) : Nat) : Int) = (r.length : Int) + 1 := by simp
    rw [e, Int.mul_add]
    simp only [tot]
    omega
theorem total_eq {M : Int} (hM : 0 ≤ M ∧ M ≤ 1000) {l : List Int} (hl : l.length ≤ 1000) (h : ∀ x ∈ l, 0 ≤ x ∧ x ≤ M) : bulk_total l = some (tot l) := by
  unfold bulk_total
  refine Eq.trans (for0 l.length (fun i => tot (l.take i)) (fun k s i => bulk_total_L1 l k s i) (some (tot l)) rfl (fun k i hi => ?_) (fun k => ?_) (by omega)) rfl
  · have hb := tot_bnd hM.1 (l.take i) (fun x hx => h x (List.mem_of_mem_take hx))
    have hx := h _ (List.mem_of_getElem? (gi_at hi))
    have hlt : ((l.take i).length : Int) ≤ 1000 := by rw [List.length_take]; omega
    have h2 : M * ((l.take i).length : Int) ≤ 1000 * 1000 := Int.le_trans (Int.mul_le_mul_of_nonneg_right hM.2 (Int.natCast_nonneg _)) (Int.mul_le_mul_of_nonneg_left hlt (by decide))
    show bulk_total_B1 l (bulk_total_L1 l k) _ _ = _
    unfold bulk_total_B1
    rw [if_pos (by omega), ix_nat (gi_at hi), gd_pos (by omega), gd_pos (by omega), tot_take hi]; rfl
  · show bulk_total_B1 l (bulk_total_L1 l k) _ _ = _
    unfold bulk_total_B1
    rw [if_neg (by omega), List.take_length]; rfl
theorem rsum_eq {M : Int} (hM : 0 ≤ M ∧ M ≤ 1000) {l : List Int} (hl : l.length ≤ 1000) (h : ∀ x ∈ l, 0 ≤ x ∧ x ≤ M) : ref07_sum l = some (tot l) := by
  unfold ref07_sum
  refine Eq.trans (for0 l.length (fun i => tot (l.take i)) (fun k s i => ref07_sum_L1 l k s i) (some (tot l)) rfl (fun k i hi => ?_) (fun k => ?_) (by omega)) rfl
  · have hb := tot_bnd hM.1 (l.take i) (fun x hx => h x (List.mem_of_mem_take hx))
    have hx := h _ (List.mem_of_getElem? (gi_at hi))
    have hlt : ((l.take i).length : Int) ≤ 1000 := by rw [List.length_take]; omega
    have h2 : M * ((l.take i).length : Int) ≤ 1000 * 1000 := Int.le_trans (Int.mul_le_mul_of_nonneg_right hM.2 (Int.natCast_nonneg _)) (Int.mul_le_mul_of_nonneg_left hlt (by decide))
    show ref07_sum_B1 l (ref07_sum_L1 l k) _ _ = _
    unfold ref07_sum_B1
    rw [if_pos (by omega), ix_nat (gi_at hi), gd_pos (by omega), gd_pos (by omega), tot_take hi]; rfl
  · show ref07_sum_B1 l (ref07_sum_L1 l k) _ _ = _
    unfold ref07_sum_B1
    rw [if_neg (by omega), List.take_length]; rfl
theorem indexF_eq {l : List Int} {f : Int → Option Bool} {p : Int → Bool} (hf : ∀ x, f x = some (p x)) (hl : l.length ≤ 1000) : ∀ (suf pre : List Int) (k : Nat), l = pre ++ suf → suf.length < k → ∃ i : Int, slices_IndexFunc_int_L1 l f k (pre.length : Int) = some i ∧ (0 ≤ i ↔ suf.any p = true)
  | [], pre, k + 1, h, hk => by
    refine ⟨-1, ?_, by simp⟩
    show slices_IndexFunc_int_B1 l f (slices_IndexFunc_int_L1 l f k) _ = _
    unfold slices_IndexFunc_int_B1
    rw [if_neg (by rw [h]; simp)]; rfl
  | y :: r, pre, k + 1, h, hk => by
    have hy : l[pre.length]? = some y := by rw [h, List.getElem?_append_right (Nat.le_refl _)]; simp
    have := lt_of_at hy
    obtain ⟨i, h1, h2⟩ := indexF_eq hf hl r (pre ++ [y]) k (by rw [h]; simp) (by simp at hk; omega)
    have e : slices_IndexFunc_int_L1 l f (k + 1) (pre.length : Int) = slices_IndexFunc_int_B1 l f (slices_IndexFunc_int_L1 l f k) (pre.length : Int) := rfl
    rw [e]
    unfold slices_IndexFunc_int_B1
    rw [if_pos (by omega), ix_nat hy, bnd_eq (hf y)]
    by_cases hp : p y = true
    · rw [if_pos hp]
      exact ⟨_, rfl, by simp [hp]⟩
    · rw [if_neg hp, gd_pos (by omega)]
      rw [show (((pre ++ [y]).length : Nat) : Int) = (pre.length : Int) + 1 by simp] at h1
      exact ⟨i, h1, by rw [h2]; simp [hp]⟩
theorem containsF_eq {l : List Int} {f : Int → Option Bool} {p : Int → Bool} (hf : ∀ x, f x = some (p x)) (hl : l.length ≤ 1000) : slices_ContainsFunc_int l f = some (l.any p) := by
  obtain ⟨i, h1, h2⟩ := indexF_eq hf hl l [] FU rfl (by have := FU_pos; omega)
  unfold slices_ContainsFunc_int slices_IndexFunc_int
  have h1' : slices_IndexFunc_int_L1 l f FU 0 = some i := h1
  rw [bnd_eq h1']
  congr 1
  by_cases h : l.any p = true
  · rw [decide_eq_true (h2.2 h), h]
  · rw [decide_eq_false (fun hc => h (h2.1 hc))]; simpa using h
theorem any_not {α : Type} (l : List α) (p : α → Bool) : (!(l.any (fun x => !p x))) = l.all p := by
  induction l with
  | nil => rfl
  | cons x r ih => simp only [List.any_cons, List.all_cons, Bool.not_or, Bool.not_not, ih]
def amtB (l : List Int) : Bool := (decide (1 ≤ l.length) && decide (l.length ≤ 4)) && l.all (fun x => within x 0 30)
def rowB (n : Nat) (most : Int) (row : List Int) : Bool := decide (row.length = n) && row.all (fun x => within x 0 most)
def tabB (t : Trade) (l : List (List Int)) (most : Int) : Bool := decide (l.length = t.supply.length) && l.all (rowB t.demand.length most)
def okT (t : Trade) : Bool := amtB t.supply && amtB t.demand && decide (tot t.supply = tot t.demand) && tabB t t.cost 99
def validate (t : Trade) : Int := if okT t = true then 0 else 1
theorem amounts_eq {l : List Int} (hl : l.length ≤ 1000) : bulk_amounts l = some (amtB l) := by
  unfold bulk_amounts amtB
  rw [bnd_eq (bwithin_eq _ _ _)]
  have e : within (l.length : Int) 1 4 = (decide (1 ≤ l.length) && decide (l.length ≤ 4)) := by
    rw [Bool.eq_iff_iff, within_iff]; simp; omega
  rw [e]
  cases (decide (1 ≤ l.length) && decide (l.length ≤ 4))
  · rfl
  · rw [if_pos rfl, bnd_eq (containsF_eq (p := fun x => !within x 0 30) (fun x => by unfold bulk_amounts_1; rw [bnd_eq (bwithin_eq _ _ _)]) hl), any_not]; rfl
theorem ramounts_eq {l : List Int} (hl : l.length ≤ 1000) : ref07_amounts l = some (amtB l) := by
  unfold ref07_amounts amtB
  have e : within (l.length : Int) 1 4 = (decide (1 ≤ l.length) && decide (l.length ≤ 4)) := by
    rw [Bool.eq_iff_iff, within_iff]; simp; omega
  rw [list_loop0 l (fun x => within x 0 30) (ref07_amounts_L1 l) (some (decide (1 ≤ l.length) && decide (l.length ≤ 4))) (some false) (fun k i x hx => ?_) (fun k => ?_) (by omega)]
  · cases l.all (fun x => within x 0 30) <;> simp
  · have := lt_of_at hx
    show ref07_amounts_B1 l (ref07_amounts_L1 l k) _ = _
    unfold ref07_amounts_B1
    rw [if_pos (by omega), ix_nat hx, bnd_eq (rwithin_eq _ _ _)]
    by_cases h : within x 0 30 = true
    · rw [if_pos h, gd_pos (by omega), if_pos h]; rfl
    · rw [if_neg h, if_neg h]
  · show ref07_amounts_B1 l (ref07_amounts_L1 l k) _ = _
    unfold ref07_amounts_B1 ref07_amounts_k1
    rw [if_neg (by omega), bnd_eq (rwithin_eq _ _ _), e]
def Tsmall (t : Trade) : Prop := t.supply.length ≤ 50 ∧ t.demand.length ≤ 50 ∧ t.cost.length ≤ 50 ∧ ∀ r ∈ t.cost, r.length ≤ 50
def Lsmall (l : List (List Int)) : Prop := l.length ≤ 50 ∧ ∀ r ∈ l, r.length ≤ 50
theorem table_eq {t : Trade} (ht : t.supply.length ≤ 1000 ∧ t.demand.length ≤ 1000) {l : List (List Int)} (hl : Lsmall l) (most : Int) : bulk_table t l most = some (tabB t l most) := by
  unfold bulk_table tabB
  have hl1 := hl.1
  by_cases h : l.length = t.supply.length
  · rw [if_pos (by omega), decide_eq_true h, Bool.true_and, list_loop0 l (rowB t.demand.length most) (bulk_table_L1 t l most) (some true) (some false) (fun k i x hx => ?_) (fun k => ?_) (by omega)]
    · cases l.all (rowB t.demand.length most) <;> rfl
    · have := lt_of_at hx
      have hx50 := hl.2 x (List.mem_of_getElem? hx)
      show bulk_table_B1 t l most (bulk_table_L1 t l most k) _ = _
      unfold bulk_table_B1 bulk_table_k2 rowB
      rw [if_pos (by omega), ix_nat hx]
      by_cases hr : x.length = t.demand.length
      · rw [if_pos (by omega), bnd_eq (containsF_eq (p := fun y => !within y 0 most) (fun y => by unfold bulk_table_1; rw [bnd_eq (bwithin_eq _ _ _)]) (by omega)), decide_eq_true hr, Bool.true_and, ← any_not]
        cases x.any (fun y => !within y 0 most)
        · rw [if_neg (by simp), gd_pos (by omega), if_pos (by rfl)]; rfl
        · rw [if_pos rfl, if_neg (by simp)]
      · rw [if_neg (by omega), if_pos rfl, decide_eq_false hr, if_neg (by simp)]
    · show bulk_table_B1 t l most (bulk_table_L1 t l most k) _ = _
      unfold bulk_table_B1
      rw [if_neg (by omega)]; rfl
  · rw [if_neg (by omega), decide_eq_false h]; rfl
theorem rtable_eq {t : Trade} (ht : t.supply.length ≤ 1000 ∧ t.demand.length ≤ 1000) {l : List (List Int)} (hl : Lsmall l) (most : Int) : ref07_table t l most = some (tabB t l most) := by
  unfold ref07_table tabB
  have hl1 := hl.1
  by_cases h : l.length = t.supply.length
  · rw [if_pos (by omega), decide_eq_true h, Bool.true_and, list_loop0 l (rowB t.demand.length most) (ref07_table_L2 t l most) (some true) (some false) (fun k i x hx => ?_) (fun k => ?_) (by omega)]
    · cases l.all (rowB t.demand.length most) <;> rfl
    · have := lt_of_at hx
      have hx50 := hl.2 x (List.mem_of_getElem? hx)
      show ref07_table_B2 t l most (ref07_table_L2 t l most k) _ = _
      unfold ref07_table_B2 rowB
      rw [if_pos (by omega), ix_nat hx]
      by_cases hr : x.length = t.demand.length
      · rw [if_pos (by omega), decide_eq_true hr, Bool.true_and, list_loop0 x (fun y => within y 0 most) (ref07_table_L1 l most (i : Int) (ref07_table_L2 t l most k)) (ref07_table_L2 t l most k ((i + 1 : Nat) : Int)) (some false) (fun q j y hy => ?_) (fun q => ?_) (by omega)]
        · have := lt_of_at hy
          show ref07_table_B1 l most (i : Int) (ref07_table_L2 t l most k) (ref07_table_L1 l most (i : Int) (ref07_table_L2 t l most k) q) _ = _
          unfold ref07_table_B1
          rw [ix_nat hx, if_pos (by omega), ix_nat hx, ix_nat hy, bnd_eq (rwithin_eq _ _ _)]
          by_cases hw : within y 0 most = true
          · rw [if_pos hw, gd_pos (by omega), if_pos hw]; rfl
          · rw [if_neg hw, if_neg hw]
        · show ref07_table_B1 l most (i : Int) (ref07_table_L2 t l most k) (ref07_table_L1 l most (i : Int) (ref07_table_L2 t l most k) q) _ = _
          unfold ref07_table_B1 ref07_table_k2
          rw [ix_nat hx, if_neg (by omega), gd_pos (by omega)]; rfl
      · rw [if_neg (by omega), decide_eq_false hr, if_neg (by simp)]
    · show ref07_table_B2 t l most (ref07_table_L2 t l most k) _ = _
      unfold ref07_table_B2
      rw [if_neg (by omega)]; rfl
  · rw [if_neg (by omega), decide_eq_false h]; rfl
theorem amt_mem {l : List Int} (h : amtB l = true) : 1 ≤ l.length ∧ l.length ≤ 4 ∧ ∀ x ∈ l, 0 ≤ x ∧ x ≤ 30 := by
  unfold amtB at h
  simp only [Bool.and_eq_true, decide_eq_true_eq, List.all_eq_true, within_iff] at h
  exact ⟨h.1.1, h.1.2, h.2⟩
theorem Validate_eq {t : Trade} (ht : Tsmall t) : bulk_Validate t = some (validate t) := by
  obtain ⟨h1, h2, h3, h4⟩ := ht
  unfold bulk_Validate validate okT bulk_Validate_k1
  rw [bnd_eq (amounts_eq (by omega))]
  cases ha : amtB t.supply
  · rw [if_neg (by simp), if_pos rfl]; rfl
  · rw [if_pos rfl, bnd_eq (amounts_eq (by omega))]
    cases hb : amtB t.demand
    · rw [if_neg (by simp), if_pos rfl]; rfl
    · have m1 := amt_mem ha
      have m2 := amt_mem hb
      rw [if_pos rfl, bnd_eq (total_eq (M := 30) (by decide) (by omega) m1.2.2), bnd_eq (total_eq (M := 30) (by decide) (by omega) m2.2.2)]
      by_cases he : tot t.supply = tot t.demand
      · rw [if_pos he, bnd_eq (table_eq ⟨by omega, by omega⟩ ⟨h3, h4⟩ _), decide_eq_true he]
        cases tabB t t.cost 99 <;> rfl
      · rw [if_neg he, if_pos rfl, decide_eq_false he]; rfl
theorem rValidate_eq {t : Trade} (ht : Tsmall t) : ref07_Validate t = some (validate t) := by
  obtain ⟨h1, h2, h3, h4⟩ := ht
  unfold ref07_Validate validate okT ref07_Validate_k1
  rw [bnd_eq (ramounts_eq (by omega))]
  cases ha : amtB t.supply
  · rw [if_neg (by simp), if_pos rfl]; rfl
  · rw [if_pos rfl, bnd_eq (ramounts_eq (by omega))]
    cases hb : amtB t.demand
    · rw [if_neg (by simp), if_pos rfl]; rfl
    · have m1 := amt_mem ha
      have m2 := amt_mem hb
      rw [if_pos rfl, bnd_eq (rsum_eq (M := 30) (by decide) (by omega) m1.2.2), bnd_eq (rsum_eq (M := 30) (by decide) (by omega) m2.2.2)]
      by_cases he : tot t.supply = tot t.demand
      · rw [if_pos he, bnd_eq (rtable_eq ⟨by omega, by omega⟩ ⟨h3, h4⟩ _), decide_eq_true he]
        cases tabB t t.cost 99 <;> rfl
      · rw [if_neg he, if_pos rfl, decide_eq_false he]; rfl
end Go.D7

set_option linter.unusedVariables false
set_option linter.unusedSimpArgs false
namespace Go.D7
open Go.Tb
def sumN : Nat → (Nat → Int) → Int
  | 0, _ => 0
  | n + 1, f => sumN n f + f n
theorem sumN_congr {f g : Nat → Int} : ∀ n, (∀ i, i < n → f i = g i) → sumN n f = sumN n g
  | 0, _ => rfl
  | n + 1, h => by simp only [sumN, sumN_congr n (fun i hi => h i (by omega)), h n (by omega)]
theorem sumN_bnd {M : Int} {f : Nat → Int} : ∀ n, (∀ i, i < n → 0 ≤ f i ∧ f i ≤ M) → 0 ≤ sumN n f ∧ sumN n f ≤ M * (n : Int)
  | 0, _ => by simp [sumN]
  | n + 1, h => by
    have ih := sumN_bnd n (fun i hi => h i (by omega))
    have hn := h n (by omega)
    rw [show ((n + 1 : Nat) : Int) = (n : Int) + 1 by omega, Int.mul_add]
    simp only [sumN]; omega
theorem sumN_add (f g : Nat → Int) : ∀ n, sumN n (fun i => f i + g i) = sumN n f + sumN n g
  | 0 => rfl
  | n + 1 => by simp only [sumN, sumN_add f g n]; omega
theorem sumN_mul (c : Int) (f : Nat → Int) : ∀ n, sumN n (fun i => c * f i) = c * sumN n f
  | 0 => by simp [sumN]
  | n + 1 => by simp only [sumN, sumN_mul c f n, Int.mul_add]
theorem sumN_zero : ∀ n, sumN n (fun _ => 0) = 0
  | 0 => rfl
  | n + 1 => by simp only [sumN, sumN_zero n]; rfl
theorem sumN_swap (f : Nat → Nat → Int) (m : Nat) : ∀ n, sumN n (fun i => sumN m (fun j => f i j)) = sumN m (fun j => sumN n (fun i => f i j))
  | 0 => by simp only [sumN]; rw [sumN_zero]
  | n + 1 => by simp only [sumN, sumN_swap f m n, sumN_add]
theorem sumN_le {f g : Nat → Int} : ∀ n, (∀ i, i < n → f i ≤ g i) → sumN n f ≤ sumN n g
  | 0, _ => Int.le_refl _
  | n + 1, h => by
    have ih := sumN_le n (fun i hi => h i (by omega))
    have hn := h n (by omega)
    simp only [sumN]; omega
theorem tot_sumN (l : List Int) : tot l = sumN l.length (gi l) := by
  have key : ∀ i, i ≤ l.length → tot (l.take i) = sumN i (gi l) := by
    intro i
    induction i with
    | zero => intro _; rfl
    | succ i ih => intro h; rw [tot_take (by omega), ih (by omega)]; rfl
  have := key l.length (Nat.le_refl _)
  rwa [List.take_length] at this
def tb (m : Nat) (f : Nat → Int) : List Int := (List.range m).map f
theorem tb_len (m : Nat) (f : Nat → Int) : (tb m f).length = m := by unfold tb; simp
theorem tb_at {m : Nat} {f : Nat → Int} {k : Nat} (h : k < m) : (tb m f)[k]? = some (f k) := by unfold tb; simp [h]
theorem tb_gi {m : Nat} {f : Nat → Int} {k : Nat} (h : k < m) : gi (tb m f) k = f k := gi_of (tb_at h)
theorem tb_congr {m : Nat} {f g : Nat → Int} (h : ∀ k, k < m → f k = g k) : tb m f = tb m g := by
  unfold tb
  apply List.map_congr_left
  intro k hk
  exact h k (List.mem_range.1 hk)
theorem tb_set {m : Nat} {f : Nat → Int} {k : Nat} (v : Int) : (tb m f).set k v = tb m (fun j => if j = k then v else f j) := by
  apply List.ext_getElem?
  intro j
  rw [List.getElem?_set]
  unfold tb
  by_cases hj : j < m
  · by_cases hk : k = j
    · subst hk; simp [hj]
    · rw [if_neg hk]
      simp only [List.getElem?_map, List.getElem?_range hj, Option.map_some]
      rw [if_neg (fun e => hk e.symm)]
  · have h1 : (List.range m)[j]? = none := by rw [List.getElem?_eq_none]; simpa using hj
    simp only [List.getElem?_map, h1, Option.map_none]
    by_cases hk : k = j
    · subst hk; simp [hj]
    · rw [if_neg hk]
theorem tb_self (l : List Int) : tb l.length (gi l) = l := by
  apply List.ext_getElem?
  intro j
  by_cases hj : j < l.length
  · rw [tb_at hj, gi_at hj]
  · rw [List.getElem?_eq_none (by rw [tb_len]; omega), List.getElem?_eq_none (by omega)]
theorem rep_tb (m : Nat) : List.replicate m (0 : Int) = tb m (fun _ => 0) := by
  unfold tb
  induction m with
  | zero => rfl
  | succ m ih => rw [List.replicate_succ', ih, List.range_succ, List.map_append]; rfl
def cell (l : List (List Int)) (i j : Nat) : Int := gi (gr l i) j
def col (l : List (List Int)) (i j : Nat) : Int := sumN i (fun q => cell l q j)
def rowsB (t : Trade) (l : List (List Int)) (i : Nat) : Bool := decide (tot (gr l i) = gi t.supply i)
def checkPlan (t : Trade) (l : List (List Int)) : Int :=
  if okT t = true then (if tabB t l 120 = true then (if (∀ i, i < l.length → rowsB t l i = true) then (if tb t.demand.length (col l l.length) = t.demand then 0 else 6) else 6) else 1) else 1
theorem tab_spec {t : Trade} {l : List (List Int)} {most : Int} (h : tabB t l most = true) : l.length = t.supply.length ∧ ∀ i, i < l.length → (gr l i).length = t.demand.length ∧ (∀ x ∈ gr l i, 0 ≤ x ∧ x ≤ most) ∧ ∀ j, j < t.demand.length → 0 ≤ cell l i j ∧ cell l i j ≤ most := by
  unfold tabB at h
  simp only [Bool.and_eq_true, decide_eq_true_eq, List.all_eq_true] at h
  refine ⟨h.1, fun i hi => ?_⟩
  have hm := h.2 (gr l i) (List.mem_of_getElem? (gr_at hi))
  unfold rowB at hm
  simp only [Bool.and_eq_true, decide_eq_true_eq, List.all_eq_true, within_iff] at hm
  exact ⟨hm.1, hm.2, fun j hj => hm.2 _ (List.mem_of_getElem? (gi_at (by omega)))⟩
theorem okT_spec {t : Trade} (h : okT t = true) : (1 ≤ t.supply.length ∧ t.supply.length ≤ 4 ∧ ∀ x ∈ t.supply, 0 ≤ x ∧ x ≤ 30) ∧ (1 ≤ t.demand.length ∧ t.demand.length ≤ 4 ∧ ∀ x ∈ t.demand, 0 ≤ x ∧ x ≤ 30) ∧ tot t.supply = tot t.demand ∧ tabB t t.cost 99 = true := by
  unfold okT at h
  simp only [Bool.and_eq_true, decide_eq_true_eq] at h
  exact ⟨amt_mem h.1.1.1, amt_mem h.1.1.2, h.1.2, h.2⟩
section
variable {t : Trade} {l : List (List Int)}
def rowCost (t : Trade) (l : List (List Int)) (i j : Nat) : Int := sumN j (fun q => cell l i q * cell t.cost i q)
def costN (t : Trade) (l : List (List Int)) (i : Nat) : Int := sumN i (fun q => rowCost t l q t.demand.length)
theorem mul_bnd {x y X Y : Int} (hx : 0 ≤ x ∧ x ≤ X) (hy : 0 ≤ y ∧ y ≤ Y) : 0 ≤ x * y ∧ x * y ≤ X * Y :=
  ⟨Int.mul_nonneg hx.1 hy.1, Int.le_trans (Int.mul_le_mul_of_nonneg_right hx.2 hy.1) (Int.mul_le_mul_of_nonneg_left hy.2 (by omega))⟩
theorem cell_cost (hv : okT t = true) (h : tabB t l 120 = true) {i j : Nat} (hi : i < l.length) (hj : j < t.demand.length) : 0 ≤ cell l i j * cell t.cost i j ∧ cell l i j * cell t.cost i j ≤ 11880 := by
  have h1 := tab_spec h
  have h2 := tab_spec (okT_spec hv).2.2.2
  exact mul_bnd (X := 120) (Y := 99) ((h1.2 i hi).2.2 j hj) ((h2.2 i (by omega)).2.2 j hj)
theorem rowCost_bnd (hv : okT t = true) (h : tabB t l 120 = true) {i j : Nat} (hi : i < l.length) (hj : j ≤ t.demand.length) : 0 ≤ rowCost t l i j ∧ rowCost t l i j ≤ 11880 * (j : Int) :=
  sumN_bnd j (fun q hq => cell_cost hv h hi (by omega))
theorem costN_bnd (hv : okT t = true) (h : tabB t l 120 = true) {i : Nat} (hi : i ≤ l.length) : 0 ≤ costN t l i ∧ costN t l i ≤ 47520 * (i : Int) := by
  have hd := (okT_spec hv).2.1.2.1
  exact sumN_bnd i (fun q hq => by have := rowCost_bnd hv h (i := q) (by omega) (Nat.le_refl _); omega)
theorem cost_in (hv : okT t = true) (h : tabB t l 120 = true) {i : Nat} (hi : i < l.length) (rec1 : Int → Int → Option Int) : bulk_cost_L1 t (i : Int) rec1 (gr l i) FU (costN t l i) 0 = bulk_cost_k2 (i : Int) rec1 (costN t l (i + 1)) := by
  obtain ⟨h1, h2⟩ := tab_spec h
  obtain ⟨c1, c2⟩ := tab_spec (okT_spec hv).2.2.2
  have hd := (okT_spec hv).2.1.2.1
  have hs := (okT_spec hv).1.2.1
  have hr := h2 i hi
  have hc := c2 i (by omega)
  have hb := costN_bnd hv h (i := i) (by omega)
  refine for0 t.demand.length (fun j => costN t l i + rowCost t l i j) (fun k s q => bulk_cost_L1 t (i : Int) rec1 (gr l i) k s q) _ (by simp [rowCost, sumN]) (fun k q hq => ?_) (fun k => ?_) (by omega)
  · have hx : (gr l i)[q]? = some (cell l i q) := gi_at (by omega)
    have hy : (gr t.cost i)[q]? = some (cell t.cost i q) := gi_at (by omega)
    have b1 := rowCost_bnd hv h hi (j := q) (by omega)
    have b2 := cell_cost hv h hi hq
    show bulk_cost_B1 t (i : Int) rec1 (gr l i) (bulk_cost_L1 t (i : Int) rec1 (gr l i) k) _ _ = _
    unfold bulk_cost_B1
    rw [if_pos (by omega), ix_nat hx, ix_nat (gr_at (by omega)), ix_nat hy, gd_pos (by omega), gd_pos (by omega), gd_pos (by omega), Int.add_assoc]; rfl
  · show bulk_cost_B1 t (i : Int) rec1 (gr l i) (bulk_cost_L1 t (i : Int) rec1 (gr l i) k) _ _ = _
    unfold bulk_cost_B1
    rw [if_neg (by omega)]; rfl
theorem cost_eq (hv : okT t = true) (h : tabB t l 120 = true) : bulk_cost t l = some (costN t l l.length) := by
  obtain ⟨h1, h2⟩ := tab_spec h
  have hs := (okT_spec hv).1.2.1
  unfold bulk_cost
  refine for0 l.length (costN t l) (fun k s i => bulk_cost_L2 t l k s i) _ rfl (fun k i hi => ?_) (fun k => ?_) (by omega)
  · show bulk_cost_B2 t l (bulk_cost_L2 t l k) _ _ = _
    unfold bulk_cost_B2
    rw [if_pos (by omega), ix_nat (gr_at hi), cost_in hv h hi]
    unfold bulk_cost_k2
    rw [gd_pos (by omega)]; rfl
  · show bulk_cost_B2 t l (bulk_cost_L2 t l k) _ _ = _
    unfold bulk_cost_B2
    rw [if_neg (by omega)]; rfl
theorem rcost_in (hv : okT t = true) (h : tabB t l 120 = true) {i : Nat} (hi : i < l.length) (rec1 : Int → Int → Option Int) : ref07_cost_L1 t l (i : Int) rec1 FU (costN t l i) 0 = ref07_cost_k2 (i : Int) rec1 (costN t l (i + 1)) := by
  obtain ⟨h1, h2⟩ := tab_spec h
  obtain ⟨c1, c2⟩ := tab_spec (okT_spec hv).2.2.2
  have hd := (okT_spec hv).2.1.2.1
  have hs := (okT_spec hv).1.2.1
  have hr := h2 i hi
  have hc := c2 i (by omega)
  have hb := costN_bnd hv h (i := i) (by omega)
  refine for0 t.demand.length (fun j => costN t l i + rowCost t l i j) (fun k s q => ref07_cost_L1 t l (i : Int) rec1 k s q) _ (by simp [rowCost, sumN]) (fun k q hq => ?_) (fun k => ?_) (by omega)
  · have hx : (gr l i)[q]? = some (cell l i q) := gi_at (by omega)
    have hy : (gr t.cost i)[q]? = some (cell t.cost i q) := gi_at (by omega)
    have b1 := rowCost_bnd hv h hi (j := q) (by omega)
    have b2 := cell_cost hv h hi hq
    show ref07_cost_B1 t l (i : Int) rec1 (ref07_cost_L1 t l (i : Int) rec1 k) _ _ = _
    unfold ref07_cost_B1
    rw [ix_nat (gr_at hi), if_pos (by omega), ix_nat (gr_at hi), ix_nat hx, ix_nat (gr_at (by omega)), ix_nat hy, gd_pos (by omega), gd_pos (by omega), gd_pos (by omega), Int.add_assoc]; rfl
  · show ref07_cost_B1 t l (i : Int) rec1 (ref07_cost_L1 t l (i : Int) rec1 k) _ _ = _
    unfold ref07_cost_B1
    rw [ix_nat (gr_at hi), if_neg (by omega)]; rfl
theorem rcost_eq (hv : okT t = true) (h : tabB t l 120 = true) : ref07_cost t l = some (costN t l l.length) := by
  obtain ⟨h1, h2⟩ := tab_spec h
  have hs := (okT_spec hv).1.2.1
  unfold ref07_cost
  refine for0 l.length (costN t l) (fun k s i => ref07_cost_L2 t l k s i) _ rfl (fun k i hi => ?_) (fun k => ?_) (by omega)
  · show ref07_cost_B2 t l (ref07_cost_L2 t l k) _ _ = _
    unfold ref07_cost_B2
    rw [if_pos (by omega), rcost_in hv h hi]
    unfold ref07_cost_k2
    rw [gd_pos (by omega)]; rfl
  · show ref07_cost_B2 t l (ref07_cost_L2 t l k) _ _ = _
    unfold ref07_cost_B2
    rw [if_neg (by omega)]; rfl
theorem check0 (h : checkPlan t l = 0) : okT t = true ∧ tabB t l 120 = true ∧ (∀ i, i < l.length → tot (gr l i) = gi t.supply i) ∧ ∀ j, j < t.demand.length → col l l.length j = gi t.demand j := by
  unfold checkPlan at h
  split at h
  · rename_i hv
    split at h
    · rename_i hT
      split at h
      · rename_i hr
        split at h
        · rename_i hc
          refine ⟨hv, hT, fun i hi => by simpa [rowsB] using hr i hi, fun j hj => ?_⟩
          have := tb_gi (f := col l l.length) hj
          rw [hc] at this
          exact this.symm
        · cases h
      · cases h
    · cases h
  · cases h
end
instance (l : List (List Int)) : Decidable (Lsmall l) := by unfold Lsmall; infer_instance
theorem tabLong_eq {l : List (List Int)} (hl : l.length ≤ 9223372036854775807) : law07_table l = some (!(l.all (fun r => decide (r.length ≤ 50)) && decide (l.length ≤ 50))) := by
  unfold law07_table
  rw [list_loop0 l (fun r => decide (r.length ≤ 50)) (law07_table_L1 l) (some (decide (50 < l.length))) (some true) (fun k i x hx => ?_) (fun k => ?_) hl]
  · cases l.all (fun r => decide (r.length ≤ 50))
    · rfl
    · rw [if_pos rfl, Bool.true_and]
      congr 1
      rw [Bool.eq_iff_iff]; simp
  · have := lt_of_at hx
    show law07_table_B1 l (law07_table_L1 l k) _ = _
    unfold law07_table_B1
    rw [if_pos (by omega), ix_nat hx]
    by_cases h : x.length ≤ 50
    · rw [if_neg (by omega), gd_pos (by omega), if_pos (by simpa using h)]; rfl
    · rw [if_pos (by omega), if_neg (by simpa using h)]
  · show law07_table_B1 l (law07_table_L1 l k) _ = _
    unfold law07_table_B1 law07_table_k1
    rw [if_neg (by omega)]
    congr 1
    exact decide_eq_decide.2 (by omega)
theorem small_iff {l : List (List Int)} : (!(l.all (fun r => decide (r.length ≤ 50)) && decide (l.length ≤ 50))) = false ↔ Lsmall l := by
  unfold Lsmall
  simp only [Bool.not_eq_false', Bool.and_eq_true, List.all_eq_true, decide_eq_true_eq]
  exact ⟨fun h => ⟨h.2, h.1⟩, fun h => ⟨h.2, h.1⟩⟩
/-- Long says true, or all is small. -/
theorem Long0 {t : Trade} (h3 : t.cost.length ≤ 9223372036854775807) : (law07_Long t [] = some true) ∨ (law07_Long t [] = some false ∧ Tsmall t) := by
  have e : law07_Long t [] = law07_Long_k1 t := by
    unfold law07_Long
    rw [list_loop0 ([] : List (List (List Int))) (fun _ => true) (law07_Long_L1 t []) (law07_Long_k1 t) (some true) (fun k i x hx => by cases hx) (fun k => ?_) (by simp)]
    · rfl
    · show law07_Long_B1 t [] (law07_Long_L1 t [] k) _ = _
      unfold law07_Long_B1
      rw [if_neg (by simp)]
  rw [e]
  unfold law07_Long_k1
  by_cases a : (50 : Int) < (t.supply.length : Int)
  · rw [if_pos a]; exact .inl rfl
  · rw [if_neg a]
    by_cases b : (50 : Int) < (t.demand.length : Int)
    · rw [if_pos b]; exact .inl rfl
    · rw [if_neg b, bnd_eq (tabLong_eq h3)]
      cases hq : (!(t.cost.all (fun r => decide (r.length ≤ 50)) && decide (t.cost.length ≤ 50)))
      · have := small_iff.1 hq
        exact .inr ⟨rfl, by omega, by omega, this.1, this.2⟩
      · exact .inl rfl
end Go.D7

set_option linter.unusedVariables false
set_option linter.unusedSimpArgs false
namespace Go.D7
open Go.Tb
def tg {α : Type} (m : Nat) (f : Nat → α) : List α := (List.range m).map f
section
variable {α : Type}
theorem tg_len (m : Nat) (f : Nat → α) : (tg m f).length = m := by unfold tg; simp
theorem tg_at {m : Nat} {f : Nat → α} {k : Nat} (h : k < m) : (tg m f)[k]? = some (f k) := by unfold tg; simp [h]
theorem tg_congr {m : Nat} {f g : Nat → α} (h : ∀ k, k < m → f k = g k) : tg m f = tg m g := by
  unfold tg
  apply List.map_congr_left
  intro k hk
  exact h k (List.mem_range.1 hk)
theorem tg_set {m : Nat} {f : Nat → α} {k : Nat} (v : α) : (tg m f).set k v = tg m (fun j => if j = k then v else f j) := by
  apply List.ext_getElem?
  intro j
  rw [List.getElem?_set]
  unfold tg
  by_cases hj : j < m
  · by_cases hk : k = j
    · subst hk; simp [hj]
    · rw [if_neg hk]
      simp only [List.getElem?_map, List.getElem?_range hj, Option.map_some]
      rw [if_neg (fun e => hk e.symm)]
  · have h1 : (List.range m)[j]? = none := by rw [List.getElem?_eq_none]; simpa using hj
    simp only [List.getElem?_map, h1, Option.map_none]
    by_cases hk : k = j
    · subst hk; simp [hj]
    · rw [if_neg hk]
theorem tg_push (m : Nat) (f : Nat → α) : tg m f ++ [f m] = tg (m + 1) f := by
  unfold tg; rw [List.range_succ, List.map_append]; rfl
theorem rep_tg (m : Nat) (x : α) : List.replicate m x = tg m (fun _ => x) := by
  unfold tg
  induction m with
  | zero => rfl
  | succ m ih => rw [List.replicate_succ', ih, List.range_succ, List.map_append]; rfl
end
/-- A table by a function. -/
def tbl (n m : Nat) (f : Nat → Nat → Int) : List (List Int) := tg n (fun i => tb m (f i))
theorem tbl_len (n m : Nat) (f : Nat → Nat → Int) : (tbl n m f).length = n := tg_len _ _
theorem tbl_at {n m : Nat} {f : Nat → Nat → Int} {i : Nat} (h : i < n) : (tbl n m f)[i]? = some (tb m (f i)) := tg_at h
theorem tbl_gr {n m : Nat} {f : Nat → Nat → Int} {i : Nat} (h : i < n) : gr (tbl n m f) i = tb m (f i) := gr_of (tbl_at h)
theorem tbl_cell {n m : Nat} {f : Nat → Nat → Int} {i j : Nat} (h : i < n) (hj : j < m) : cell (tbl n m f) i j = f i j := by
  unfold cell; rw [tbl_gr h, tb_gi hj]
theorem tbl_congr {n m : Nat} {f g : Nat → Nat → Int} (h : ∀ i j, i < n → j < m → f i j = g i j) : tbl n m f = tbl n m g :=
  tg_congr fun i hi => tb_congr fun j hj => h i j hi hj
theorem tbl_set {n m : Nat} {f : Nat → Nat → Int} {i j : Nat} (h : i < n) (v : Int) : (tbl n m f).set i ((tb m (f i)).set j v) = tbl n m (fun p q => if p = i ∧ q = j then v else f p q) := by
  unfold tbl
  rw [tg_set, tb_set]
  refine tg_congr fun p hp => ?_
  by_cases e : p = i
  · subst e
    rw [if_pos rfl]
    refine tb_congr fun q hq => ?_
    show (if q = j then v else f p q) = (if p = p ∧ q = j then v else f p q)
    by_cases e2 : q = j
    · rw [if_pos e2, if_pos ⟨rfl, e2⟩]
    · rw [if_neg e2, if_neg (fun h => e2 h.2)]
  · rw [if_neg e]
    refine tb_congr fun q hq => ?_
    show f p q = (if p = i ∧ q = j then v else f p q)
    rw [if_neg (fun h => e h.1)]
theorem tbl_small {n m : Nat} (hn : n ≤ 50) (hm : m ≤ 50) (f : Nat → Nat → Int) : Lsmall (tbl n m f) := by
  refine ⟨by rw [tbl_len]; exact hn, fun r hr => ?_⟩
  unfold tbl tg at hr
  obtain ⟨i, _, rfl⟩ := List.mem_map.1 hr
  rw [tb_len]; exact hm
/-- A plan as a function. -/
structure PlanF (t : Trade) (f : Nat → Nat → Int) : Prop where
  nn : ∀ i j, 0 ≤ f i j
  row : ∀ i, i < t.supply.length → sumN t.demand.length (f i) = gi t.supply i
  col : ∀ j, j < t.demand.length → sumN t.supply.length (fun i => f i j) = gi t.demand j
def tab (t : Trade) (f : Nat → Nat → Int) : List (List Int) := tbl t.supply.length t.demand.length f
theorem sumN_mem {f : Nat → Int} : ∀ {n k : Nat}, (∀ i, i < n → 0 ≤ f i) → k < n → f k ≤ sumN n f
  | n + 1, k, h, hk => by
    simp only [sumN]
    have h0 := (sumN_bnd (M := 0) 0 (f := f) (by simp)).1
    by_cases e : k = n
    · subst e
      have : 0 ≤ sumN k f := by
        have := sumN_le (f := fun _ => 0) (g := f) k (fun i hi => h i (by omega))
        rw [sumN_zero] at this; exact this
      omega
    · have := sumN_mem (n := n) (fun i hi => h i (by omega)) (show k < n by omega)
      have := h n (by omega)
      omega
theorem sumN_nn {f : Nat → Int} {n : Nat} (h : ∀ i, i < n → 0 ≤ f i) : 0 ≤ sumN n f := by
  have := sumN_le (f := fun _ => 0) (g := f) n h
  rw [sumN_zero] at this; exact this
theorem supply_bnd {t : Trade} (h : okT t = true) {i : Nat} (hi : i < t.supply.length) : 0 ≤ gi t.supply i ∧ gi t.supply i ≤ 30 := (okT_spec h).1.2.2 _ (List.mem_of_getElem? (gi_at hi))
theorem demand_bnd {t : Trade} (h : okT t = true) {i : Nat} (hi : i < t.demand.length) : 0 ≤ gi t.demand i ∧ gi t.demand i ≤ 30 := (okT_spec h).2.1.2.2 _ (List.mem_of_getElem? (gi_at hi))
theorem plan_le {t : Trade} (h : okT t = true) {f : Nat → Nat → Int} (hp : PlanF t f) {i j : Nat} (hi : i < t.supply.length) (hj : j < t.demand.length) : f i j ≤ 30 := by
  have h1 := sumN_mem (f := f i) (fun q _ => hp.nn i q) hj
  rw [hp.row i hi] at h1
  have := supply_bnd h hi
  omega
theorem plan_check {t : Trade} (h : okT t = true) {f : Nat → Nat → Int} (hp : PlanF t f) : checkPlan t (tab t f) = 0 := by
  have hT : tabB t (tab t f) 120 = true := by
    unfold tabB
    rw [Bool.and_eq_true]
    refine ⟨decide_eq_true (tbl_len _ _ _), List.all_eq_true.2 fun r hr => ?_⟩
    unfold tab tbl tg at hr
    obtain ⟨i, hi, rfl⟩ := List.mem_map.1 hr
    rw [List.mem_range] at hi
    unfold rowB
    rw [tb_len, decide_eq_true rfl, Bool.true_and]
    refine List.all_eq_true.2 fun x hx => ?_
    unfold tb at hx
    obtain ⟨j, hj, rfl⟩ := List.mem_map.1 hx
    rw [List.mem_range] at hj
    have := plan_le h hp hi hj
    have := hp.nn i j
    rw [within_iff]; omega
  unfold checkPlan
  rw [if_pos h, if_pos hT, if_pos, if_pos]
  · conv => rhs; rw [← tb_self t.demand]
    refine tb_congr fun j hj => ?_
    unfold col
    have e : (tab t f).length = t.supply.length := tbl_len _ _ _
    rw [e, ← hp.col j hj]
    exact sumN_congr _ fun i hi => tbl_cell hi hj
  · intro i hi
    have e : (tab t f).length = t.supply.length := tbl_len _ _ _
    unfold rowsB
    rw [decide_eq_true_eq]
    unfold tab
    rw [tbl_gr (by omega), tot_sumN, tb_len, ← hp.row i (by omega)]
    exact sumN_congr _ fun j hj => tb_gi hj
structure Cor (t : Trade) (i j : Nat) (f : Nat → Nat → Int) (a b : Nat → Int) : Prop where
  nn : ∀ p q, 0 ≤ f p q
  fresh : ∀ p q, (i < p ∨ (p = i ∧ j ≤ q)) → f p q = 0
  an : ∀ p, 0 ≤ a p
  bn : ∀ q, 0 ≤ b q
  a0 : ∀ p, p < i → a p = 0
  b0 : ∀ q, q < j → b q = 0
  row : ∀ p, p < t.supply.length → sumN t.demand.length (f p) + a p = gi t.supply p
  col : ∀ q, q < t.demand.length → sumN t.supply.length (fun p => f p q) + b q = gi t.demand q
  ai : ∀ p, p < t.supply.length → a p ≤ 30
  bi : ∀ q, q < t.demand.length → b q ≤ 30
theorem sumN_upd {g : Nat → Int} {k : Nat} {v : Int} : ∀ n, sumN n (fun q => if q = k then v else g q) = sumN n g + (if k < n then v - g k else 0)
  | 0 => by simp [sumN]
  | n + 1 => by
    simp only [sumN, sumN_upd n]
    by_cases e : n = k
    · subst e; rw [if_neg (by omega), if_pos rfl, if_pos (by omega)]; omega
    · rw [if_neg e]
      by_cases h : k < n
      · rw [if_pos h, if_pos (by omega)]; omega
      · rw [if_neg h, if_neg (by omega)]; omega
theorem sumN_zero_of {f : Nat → Int} {n : Nat} (h : ∀ i, i < n → 0 ≤ f i) (h0 : sumN n f = 0) : ∀ i, i < n → f i = 0 := fun i hi => by
  have := sumN_mem h hi
  have := h i hi
  omega
theorem cor_done {t : Trade} (ht : okT t = true) {i j : Nat} {f : Nat → Nat → Int} {a b : Nat → Int} (h : Cor t i j f a b) (hij : t.supply.length ≤ i ∨ t.demand.length ≤ j) : PlanF t f := by
  have e1 := (okT_spec ht).2.2.1
  rw [tot_sumN, tot_sumN] at e1
  have s1 : sumN t.supply.length (fun p => sumN t.demand.length (f p)) + sumN t.supply.length a = sumN t.supply.length (gi t.supply) := by
    rw [← sumN_add]; exact sumN_congr _ fun p hp => h.row p hp
  have s2 : sumN t.demand.length (fun q => sumN t.supply.length (fun p => f p q)) + sumN t.demand.length b = sumN t.demand.length (gi t.demand) := by
    rw [← sumN_add]; exact sumN_congr _ fun p hp => h.col p hp
  have s3 : sumN t.supply.length (fun p => sumN t.demand.length (f p)) = sumN t.demand.length (fun q => sumN t.supply.length (fun p => f p q)) := sumN_swap f t.demand.length t.supply.length
  have hab : sumN t.supply.length a = 0 ∧ sumN t.demand.length b = 0 := by
    rcases hij with hi | hj
    · have : sumN t.supply.length a = 0 := by
        rw [sumN_congr (g := fun _ => 0) _ (fun p hp => h.a0 p (by omega)), sumN_zero]
      omega
    · have : sumN t.demand.length b = 0 := by
        rw [sumN_congr (g := fun _ => 0) _ (fun p hp => h.b0 p (by omega)), sumN_zero]
      omega
  refine ⟨h.nn, fun p hp => ?_, fun q hq => ?_⟩
  · have := sumN_zero_of (fun p _ => h.an p) hab.1 p hp
    have := h.row p hp
    omega
  · have := sumN_zero_of (fun p _ => h.bn p) hab.2 q hq
    have := h.col q hq
    omega
theorem cor_step {t : Trade} {i j : Nat} {f : Nat → Nat → Int} {a b : Nat → Int} (h : Cor t i j f a b) (hi : i < t.supply.length) (hj : j < t.demand.length) :
    let n := min (a i) (b j)
    (a i - n = 0 → Cor t (i + 1) j (fun p q => if p = i ∧ q = j then n else f p q) (fun p => if p = i then a i - n else a p) (fun q => if q = j then b j - n else b q)) ∧
    (a i - n ≠ 0 → Cor t i (j + 1) (fun p q => if p = i ∧ q = j then n else f p q) (fun p => if p = i then a i - n else a p) (fun q => if q = j then b j - n else b q)) := by
  intro n
  have hn : n ≤ a i ∧ n ≤ b j ∧ (n = a i ∨ n = b j) ∧ 0 ≤ n := by
    have := h.an i; have := h.bn j
    show min (a i) (b j) ≤ a i ∧ min (a i) (b j) ≤ b j ∧ (min (a i) (b j) = a i ∨ min (a i) (b j) = b j) ∧ 0 ≤ min (a i) (b j)
    omega
  have h0 := h.fresh i j (.inr ⟨rfl, Nat.le_refl _⟩)
  have nn' : ∀ p q, 0 ≤ (if p = i ∧ q = j then n else f p q) := fun p q => by
    split
    · exact hn.2.2.2
    · exact h.nn p q
  have an' : ∀ p, 0 ≤ (if p = i then a i - n else a p) := fun p => by
    split
    · omega
    · exact h.an p
  have bn' : ∀ q, 0 ≤ (if q = j then b j - n else b q) := fun q => by
    split
    · omega
    · exact h.bn q
  have row' : ∀ p, p < t.supply.length → sumN t.demand.length (fun q => if p = i ∧ q = j then n else f p q) + (if p = i then a i - n else a p) = gi t.supply p := fun p hp => by
    by_cases e : p = i
    · subst e
      have := sumN_upd (g := f p) (k := j) (v := n) t.demand.length
      rw [if_pos hj, h0] at this
      rw [if_pos rfl, ← h.row p hp]
      have e2 : sumN t.demand.length (fun q => if p = p ∧ q = j then n else f p q) = sumN t.demand.length (fun q => if q = j then n else f p q) := sumN_congr _ fun q _ => by simp
      rw [e2, this]; omega
    · rw [if_neg e, ← h.row p hp]
      congr 1
      exact sumN_congr _ fun q _ => by rw [if_neg (fun hc => e hc.1)]
  have col' : ∀ q, q < t.demand.length → sumN t.supply.length (fun p => if p = i ∧ q = j then n else f p q) + (if q = j then b j - n else b q) = gi t.demand q := fun q hq => by
    by_cases e : q = j
    · subst e
      have := sumN_upd (g := fun p => f p q) (k := i) (v := n) t.supply.length
      rw [if_pos hi, h0] at this
      rw [if_pos rfl, ← h.col q hq]
      have e2 : sumN t.supply.length (fun p => if p = i ∧ q = q then n else f p q) = sumN t.supply.length (fun p => if p = i then n else f p q) := sumN_congr _ fun p _ => by simp
      rw [e2, this]; omega
    · rw [if_neg e, ← h.col q hq]
      congr 1
      exact sumN_congr _ fun p _ => by rw [if_neg (fun hc => e hc.2)]
  have ai' : ∀ p, p < t.supply.length → (if p = i then a i - n else a p) ≤ 30 := fun p hp => by
    have := h.ai p hp; have := h.ai i hi
    split <;> omega
  have bi' : ∀ q, q < t.demand.length → (if q = j then b j - n else b q) ≤ 30 := fun q hq => by
    have := h.bi q hq; have := h.bi j hj
    split <;> omega
  constructor
  · intro hz
    refine ⟨nn', fun p q hpq => ?_, an', bn', fun p hp => ?_, fun q hq => ?_, row', col', ai', bi'⟩
    · rw [if_neg (by omega)]; exact h.fresh p q (by omega)
    · by_cases e : p = i
      · rw [if_pos e]; exact hz
      · rw [if_neg e]; exact h.a0 p (by omega)
    · rw [if_neg (by omega)]; exact h.b0 q hq
  · intro hz
    refine ⟨nn', fun p q hpq => ?_, an', bn', fun p hp => ?_, fun q hq => ?_, row', col', ai', bi'⟩
    · rw [if_neg (by omega)]; exact h.fresh p q (by omega)
    · rw [if_neg (by omega)]; exact h.a0 p hp
    · by_cases e : q = j
      · rw [if_pos e]; omega
      · rw [if_neg e]; exact h.b0 q (by omega)
theorem corner_loop {t : Trade} (ht : okT t = true) : ∀ (d i j k : Nat) (f : Nat → Nat → Int) (a b : Nat → Int), Cor t i j f a b → i ≤ t.supply.length → j ≤ t.demand.length → (t.supply.length - i) + (t.demand.length - j) ≤ d → d < k →
    ∃ g, PlanF t g ∧ bulk_corner_L1 k (i : Int) (j : Int) (tab t f) (tb t.supply.length a) (tb t.demand.length b) = some (tab t g) ∧ ref07_Corner_L1 k (i : Int) (j : Int) (tab t f) (tb t.supply.length a) (tb t.demand.length b) = some (tab t g, 0) := by
  have hs := (okT_spec ht).1.2.1
  have hd := (okT_spec ht).2.1.2.1
  intro d
  induction d with
  | zero =>
    intro i j k f a b h hi hj hdd hk
    obtain ⟨k, rfl⟩ : ∃ k', k = k' + 1 := ⟨k - 1, by omega⟩
    refine ⟨f, cor_done ht h (.inl (by omega)), ?_, ?_⟩
    · show bulk_corner_B1 (bulk_corner_L1 k) _ _ _ _ _ = _
      unfold bulk_corner_B1 bulk_corner_k2
      rw [if_neg (by rw [tb_len]; omega), if_neg (by simp)]; rfl
    · show ref07_Corner_B1 (ref07_Corner_L1 k) _ _ _ _ _ = _
      unfold ref07_Corner_B1 ref07_Corner_k2
      rw [if_neg (by rw [tb_len]; omega), if_neg (by simp)]; rfl
  | succ d ih =>
    intro i j k f a b h hi hj hdd hk
    obtain ⟨k, rfl⟩ : ∃ k', k = k' + 1 := ⟨k - 1, by omega⟩
    by_cases hi' : i < t.supply.length
    · by_cases hj' : j < t.demand.length
      · have hst := cor_step h hi' hj'
        have hai := h.ai i hi'
        have hbj := h.bi j hj'
        have han := h.an i
        have hbn := h.bn j
        have h0 := h.fresh i j (.inr ⟨rfl, Nat.le_refl _⟩)
        have x1 : (tb t.supply.length a)[i]? = some (a i) := tb_at hi'
        have x2 : (tb t.demand.length b)[j]? = some (b j) := tb_at hj'
        have x3 : (tab t f)[i]? = some (tb t.demand.length (f i)) := tbl_at hi'
        have x4 : (tb t.demand.length (f i))[j]? = some (f i j) := tb_at hj'
        have e1 : (tb t.supply.length a).set i (a i - min (a i) (b j)) = tb t.supply.length (fun p => if p = i then a i - min (a i) (b j) else a p) := tb_set _
        have e2 : (tb t.demand.length b).set j (b j - min (a i) (b j)) = tb t.demand.length (fun q => if q = j then b j - min (a i) (b j) else b q) := tb_set _
        have e3 : (tab t f).set i ((tb t.demand.length (f i)).set j (min (a i) (b j))) = tab t (fun p q => if p = i ∧ q = j then min (a i) (b j) else f p q) := tbl_set hi' _
        have x5 : (tb t.supply.length (fun p => if p = i then a i - min (a i) (b j) else a p))[i]? = some (a i - min (a i) (b j)) := by rw [tb_at hi', if_pos rfl]
        have nat1 : Int.toNat (i : Int) = i := rfl
        have nat2 : Int.toNat (j : Int) = j := rfl
        have P : bulk_corner_L1 (k + 1) (i : Int) (j : Int) (tab t f) (tb t.supply.length a) (tb t.demand.length b) =
            if a i - min (a i) (b j) = 0 then bulk_corner_L1 k ((i + 1 : Nat) : Int) (j : Int) (tab t (fun p q => if p = i ∧ q = j then min (a i) (b j) else f p q)) (tb t.supply.length (fun p => if p = i then a i - min (a i) (b j) else a p)) (tb t.demand.length (fun q => if q = j then b j - min (a i) (b j) else b q))
            else bulk_corner_L1 k (i : Int) ((j + 1 : Nat) : Int) (tab t (fun p q => if p = i ∧ q = j then min (a i) (b j) else f p q)) (tb t.supply.length (fun p => if p = i then a i - min (a i) (b j) else a p)) (tb t.demand.length (fun q => if q = j then b j - min (a i) (b j) else b q)) := by
          show bulk_corner_B1 (bulk_corner_L1 k) _ _ _ _ _ = _
          unfold bulk_corner_B1 bulk_corner_k2
          rw [if_pos (by rw [tb_len]; omega), if_pos (by rw [tb_len]; simp; omega), ix_nat x1, ix_nat x2, ix_nat x3, ix_nat x4, ix_nat x1, gd_pos (by omega), ix_nat x1, ix_nat x2, gd_pos (by omega), ix_nat x2, nat1, nat2, e1, e2, e3, ix_nat x5]
          by_cases hz : a i - min (a i) (b j) = 0
          · rw [if_pos hz, if_pos hz, gd_pos (by omega)]; rfl
          · rw [if_neg hz, if_neg hz, gd_pos (by omega)]; rfl
        have Q : ref07_Corner_L1 (k + 1) (i : Int) (j : Int) (tab t f) (tb t.supply.length a) (tb t.demand.length b) =
            if a i - min (a i) (b j) = 0 then ref07_Corner_L1 k ((i + 1 : Nat) : Int) (j : Int) (tab t (fun p q => if p = i ∧ q = j then min (a i) (b j) else f p q)) (tb t.supply.length (fun p => if p = i then a i - min (a i) (b j) else a p)) (tb t.demand.length (fun q => if q = j then b j - min (a i) (b j) else b q))
            else ref07_Corner_L1 k (i : Int) ((j + 1 : Nat) : Int) (tab t (fun p q => if p = i ∧ q = j then min (a i) (b j) else f p q)) (tb t.supply.length (fun p => if p = i then a i - min (a i) (b j) else a p)) (tb t.demand.length (fun q => if q = j then b j - min (a i) (b j) else b q)) := by
          show ref07_Corner_B1 (ref07_Corner_L1 k) _ _ _ _ _ = _
          unfold ref07_Corner_B1 ref07_Corner_k2
          rw [if_pos (by rw [tb_len]; omega), if_pos (by rw [tb_len]; simp; omega), ix_nat x1, ix_nat x2, ix_nat x3, ix_nat x4, gd_pos (by omega), ix_nat x4, ix_nat x1, gd_pos (by omega), ix_nat x1, ix_nat x2, gd_pos (by omega), ix_nat x2, nat1, nat2, h0, Int.zero_add, e1, e2, e3, ix_nat x5]
          by_cases hz : a i - min (a i) (b j) = 0
          · rw [if_pos hz, if_pos hz, gd_pos (by omega)]; rfl
          · rw [if_neg hz, if_neg hz, gd_pos (by omega)]; rfl
        rw [P, Q]
        by_cases hz : a i - min (a i) (b j) = 0
        · rw [if_pos hz, if_pos hz]
          exact ih (i + 1) j k _ _ _ (hst.1 hz) (by omega) hj (by omega) (by omega)
        · rw [if_neg hz, if_neg hz]
          exact ih i (j + 1) k _ _ _ (hst.2 hz) hi (by omega) (by omega) (by omega)
      · refine ⟨f, cor_done ht h (.inr (by omega)), ?_, ?_⟩
        · show bulk_corner_B1 (bulk_corner_L1 k) _ _ _ _ _ = _
          unfold bulk_corner_B1 bulk_corner_k2
          rw [if_pos (by rw [tb_len]; omega), if_neg (by rw [tb_len]; simp; omega)]; rfl
        · show ref07_Corner_B1 (ref07_Corner_L1 k) _ _ _ _ _ = _
          unfold ref07_Corner_B1 ref07_Corner_k2
          rw [if_pos (by rw [tb_len]; omega), if_neg (by rw [tb_len]; simp; omega)]; rfl
    · refine ⟨f, cor_done ht h (.inl (by omega)), ?_, ?_⟩
      · show bulk_corner_B1 (bulk_corner_L1 k) _ _ _ _ _ = _
        unfold bulk_corner_B1 bulk_corner_k2
        rw [if_neg (by rw [tb_len]; omega), if_neg (by simp)]; rfl
      · show ref07_Corner_B1 (ref07_Corner_L1 k) _ _ _ _ _ = _
        unfold ref07_Corner_B1 ref07_Corner_k2
        rw [if_neg (by rw [tb_len]; omega), if_neg (by simp)]; rfl
theorem empty_eq {t : Trade} (h1 : t.supply.length ≤ 50) (h2 : t.demand.length ≤ 50) : bulk_empty t = some (tab t (fun _ _ => 0)) := by
  unfold bulk_empty
  rw [gd_pos (by omega), show Int.toNat (t.supply.length : Int) = t.supply.length from rfl, rep_tg]
  refine for0 t.supply.length (fun i => tg t.supply.length (fun p => if p < i then tb t.demand.length (fun _ => 0) else [])) (fun k s i => bulk_empty_L1 t k i s) _ (tg_congr fun p hp => by simp) (fun k i hi => ?_) (fun k => ?_) (by omega)
  · show bulk_empty_B1 t (bulk_empty_L1 t k) _ _ = _
    unfold bulk_empty_B1
    have hx : (tg t.supply.length (fun p => if p < i then tb t.demand.length (fun _ => 0) else []))[i]? = some [] := by rw [tg_at hi]; simp
    rw [if_pos (by simp; omega), gd_pos (by omega), ix_nat hx, gd_pos (by omega), show Int.toNat (i : Int) = i from rfl, show Int.toNat (t.demand.length : Int) = t.demand.length from rfl, tg_set, rep_tb]
    refine congrArg (bulk_empty_L1 t k _) (tg_congr fun p hp => ?_)
    by_cases e : p = i
    · rw [if_pos e, if_pos (by omega)]
    · rw [if_neg e]
      by_cases e2 : p < i
      · rw [if_pos e2, if_pos (by omega)]
      · rw [if_neg e2, if_neg (by omega)]
  · show bulk_empty_B1 t (bulk_empty_L1 t k) _ _ = _
    unfold bulk_empty_B1 bulk_empty_k1
    rw [if_neg (by simp)]
    congr 1
    exact tg_congr fun p hp => by rw [if_pos hp]
theorem rempty_eq {t : Trade} (h1 : t.supply.length ≤ 50) (h2 : t.demand.length ≤ 50) : ref07_empty t = some (tab t (fun _ _ => 0)) := by
  unfold ref07_empty
  refine for0 t.supply.length (fun i => tg i (fun p => tb t.demand.length (fun _ => 0))) (fun k s i => ref07_empty_L1 t k i s) _ rfl (fun k i hi => ?_) (fun k => ?_) (by omega)
  · show ref07_empty_B1 t (ref07_empty_L1 t k) _ _ = _
    unfold ref07_empty_B1
    rw [if_pos (by omega), gd_pos (by omega), gd_pos (by rw [tg_len]; omega), gd_pos (by omega), show Int.toNat (t.demand.length : Int) = t.demand.length from rfl, rep_tb, ← tg_push]; rfl
  · show ref07_empty_B1 t (ref07_empty_L1 t k) _ _ = _
    unfold ref07_empty_B1
    rw [if_neg (by omega)]; rfl
theorem clone_eq {l : List Int} (h : l.length ≤ 1000) : slices_Clone_int l = some l := by
  unfold slices_Clone_int
  rw [gd_pos (by simp; omega)]; rfl
theorem cor_start {t : Trade} (ht : okT t = true) : Cor t 0 0 (fun _ _ => 0) (fun p => if p < t.supply.length then gi t.supply p else 0) (fun q => if q < t.demand.length then gi t.demand q else 0) :=
  { nn := fun _ _ => Int.le_refl _, fresh := fun _ _ _ => rfl
    an := fun p => by
      split
      · rename_i h; exact (supply_bnd ht h).1
      · exact Int.le_refl _
    bn := fun p => by
      split
      · rename_i h; exact (demand_bnd ht h).1
      · exact Int.le_refl _
    a0 := fun p hp => by omega
    b0 := fun p hp => by omega
    row := fun p hp => by rw [sumN_zero, if_pos hp]; omega
    col := fun p hp => by rw [sumN_zero, if_pos hp]; omega
    ai := fun p hp => by rw [if_pos hp]; exact (supply_bnd ht hp).2
    bi := fun p hp => by rw [if_pos hp]; exact (demand_bnd ht hp).2 }
/-- Both corners are one right plan. -/
theorem corner_eq {t : Trade} (ht : okT t = true) : ∃ g, PlanF t g ∧ bulk_corner t = some (tab t g) ∧ ref07_Corner_k3 (tab t (fun _ _ => 0)) t.supply t.demand = some (tab t g, 0) := by
  have hs := (okT_spec ht).1.2.1
  have hd := (okT_spec ht).2.1.2.1
  obtain ⟨g, g1, g2, g3⟩ := corner_loop ht 8 0 0 FU _ _ _ (cor_start ht) (by omega) (by omega) (by omega) (by have := FU_pos; omega)
  have e1 : tb t.supply.length (fun p => if p < t.supply.length then gi t.supply p else 0) = t.supply := by
    conv => rhs; rw [← tb_self t.supply]
    exact tb_congr fun k hk => by rw [if_pos hk]
  have e2 : tb t.demand.length (fun p => if p < t.demand.length then gi t.demand p else 0) = t.demand := by
    conv => rhs; rw [← tb_self t.demand]
    exact tb_congr fun k hk => by rw [if_pos hk]
  rw [e1, e2] at g2 g3
  refine ⟨g, g1, ?_, g3⟩
  unfold bulk_corner
  rw [bnd_eq (empty_eq (by omega) (by omega)), bnd_eq (clone_eq (by omega)), bnd_eq (clone_eq (by omega))]
  exact g2
theorem SameInts_self {l : List Int} (hl : l.length ≤ 1000000) : ref07_SameInts l l = some true := by
  unfold ref07_SameInts
  rw [if_pos rfl, list_loop0 l (fun _ => true) (ref07_SameInts_L1 l l) (some true) (some false) (fun k i x hx => ?_) (fun k => ?_) (by omega)]
  · rw [if_pos (by simp)]
  · have := lt_of_at hx
    show ref07_SameInts_B1 l l (ref07_SameInts_L1 l l k) _ = _
    unfold ref07_SameInts_B1
    rw [if_pos (by omega), ix_nat hx, ix_nat hx, if_pos rfl, gd_pos (by omega), if_pos rfl]; rfl
  · show ref07_SameInts_B1 l l (ref07_SameInts_L1 l l k) _ = _
    unfold ref07_SameInts_B1
    rw [if_neg (by omega)]; rfl
theorem SameTables_self {l : List (List Int)} (hl : Lsmall l) : ref07_SameTables l l = some true := by
  have h1 := hl.1
  unfold ref07_SameTables
  rw [if_pos rfl, list_loop0 l (fun _ => true) (ref07_SameTables_L1 l l) (some true) (some false) (fun k i x hx => ?_) (fun k => ?_) (by omega)]
  · rw [if_pos (by simp)]
  · have := lt_of_at hx
    have h2 := hl.2 x (List.mem_of_getElem? hx)
    show ref07_SameTables_B1 l l (ref07_SameTables_L1 l l k) _ = _
    unfold ref07_SameTables_B1
    rw [if_pos (by omega), ix_nat hx, ix_nat hx, bnd_eq (SameInts_self (by omega)), if_pos rfl, gd_pos (by omega), if_pos rfl]; rfl
  · show ref07_SameTables_B1 l l (ref07_SameTables_L1 l l k) _ = _
    unfold ref07_SameTables_B1
    rw [if_neg (by omega)]; rfl
theorem tab_small {t : Trade} (h1 : t.supply.length ≤ 50) (h2 : t.demand.length ≤ 50) (f : Nat → Nat → Int) : Lsmall (tab t f) := tbl_small h1 h2 f
end Go.D7
